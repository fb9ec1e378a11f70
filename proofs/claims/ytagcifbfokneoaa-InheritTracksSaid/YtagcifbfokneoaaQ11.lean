/- Inherit: the reference's tracker: Replace, Effective, New, Sorted. Conditions: none. -/
import Derived.Test.YtagcifbfokneoaaRows
import Derived.WalkKit
import Derived.ProofKit
import Derived.OpenShut
import Derived.Carry
import Derived.Deep.Slices
import Derived.Deep.Fields
import Derived.ChangeSame
import Derived.Lib.SmallJoins
import Derived.Test.YtagcifbfokneoaaQ10
section
set_option linter.unusedVariables false
set_option linter.unusedSimpArgs false
set_option maxRecDepth 8000
set_option maxHeartbeats 1000000
namespace Go.Proofs.Ytagcifbfokneoaa.Den
open Go Go.RowKit
/-- The edges among n threads in increasing order: those of the rows before w, and in row w those before h. -/
def srtR (E : List (Nat × Nat)) (w h : Nat) : List (Nat × Nat) := (List.range h).filterMap fun x => if (w, x) ∈ E then some (w, x) else none
def srt (E : List (Nat × Nat)) (n : Nat) : Nat → List (Nat × Nat)
  | 0 => []
  | w + 1 => srt E n w ++ srtR E w n
theorem srtR_succ {E : List (Nat × Nat)} {w h : Nat} : srtR E w (h + 1) = srtR E w h ++ (if (w, h) ∈ E then [(w, h)] else []) := by
  unfold srtR
  rw [List.range_succ, List.filterMap_append]
  congr 1
  by_cases hh : (w, h) ∈ E <;> simp [hh]
theorem srtR_len {E : List (Nat × Nat)} {w h : Nat} : (srtR E w h).length ≤ h := by
  have := List.length_filterMap_le (fun x => if (w, x) ∈ E then some (w, x) else none) (List.range h)
  simpa [srtR] using this
theorem srt_len {E : List (Nat × Nat)} {n : Nat} : ∀ w, (srt E n w).length ≤ w * n
  | 0 => by simp [srt]
  | w + 1 => by
    have h1 := srt_len (E := E) (n := n) w
    have h2 := srtR_len (E := E) (w := w) (h := n)
    rw [srt, List.length_append, Nat.add_mul]; omega
theorem srtR_mem {E : List (Nat × Nat)} {w h : Nat} {x : Nat × Nat} : x ∈ srtR E w h ↔ x.1 = w ∧ x.2 < h ∧ x ∈ E := by
  unfold srtR
  rw [List.mem_filterMap]
  constructor
  · rintro ⟨a, ha, hx⟩
    split at hx
    · rename_i hE
      injection hx with hx; subst hx
      exact ⟨rfl, List.mem_range.1 ha, hE⟩
    · cases hx
  · rintro ⟨h1, h2, h3⟩
    obtain ⟨a, b⟩ := x
    simp only at h1 h2; subst h1
    exact ⟨b, List.mem_range.2 h2, by rw [if_pos h3]⟩
theorem srt_mem {E : List (Nat × Nat)} {n : Nat} {x : Nat × Nat} : ∀ w, x ∈ srt E n w ↔ x.1 < w ∧ x.2 < n ∧ x ∈ E
  | 0 => by simp [srt]
  | w + 1 => by
    rw [srt, List.mem_append, srt_mem w, srtR_mem]
    constructor
    · rintro (⟨h1, h2⟩ | ⟨h1, h2⟩)
      · exact ⟨by omega, h2⟩
      · exact ⟨by omega, h2⟩
    · rintro ⟨h1, h2⟩
      rcases Nat.lt_or_eq_of_le (Nat.le_of_lt_succ h1) with h | h
      · exact .inl ⟨h, h2⟩
      · exact .inr ⟨h, h2⟩
theorem srtR_inc {E : List (Nat × Nat)} {w : Nat} : ∀ h, Inc (srtR E w h)
  | 0 => List.Pairwise.nil
  | h + 1 => by
    rw [srtR_succ]
    refine List.pairwise_append.2 ⟨srtR_inc h, ?_, ?_⟩
    · split <;> simp
    · intro a ha b hb
      obtain ⟨h1, h2, _⟩ := srtR_mem.1 ha
      split at hb
      · simp at hb; subst hb
        simp only [ltN, decide_eq_true_eq]; exact .inr ⟨h1, h2⟩
      · cases hb
theorem srt_inc {E : List (Nat × Nat)} {n : Nat} : ∀ w, Inc (srt E n w)
  | 0 => List.Pairwise.nil
  | w + 1 => by
    rw [srt]
    refine List.pairwise_append.2 ⟨srt_inc w, srtR_inc n, fun a ha b hb => ?_⟩
    have h1 := (srt_mem w).1 ha
    have h2 := srtR_mem.1 hb
    simp only [ltN, decide_eq_true_eq]; exact .inl (by omega)
theorem ltN_ne {x y : Nat × Nat} (h : ltN x y = true) : x ≠ y := by
  rintro rfl
  simp only [ltN, decide_eq_true_eq] at h; omega
theorem ltN_asymm {x y : Nat × Nat} (h : ltN x y = true) : ltN y x = false := by
  simp only [ltN, decide_eq_true_eq, decide_eq_false_iff_not] at *; omega
/-- Increasing lists with the same members are equal. -/
theorem Inc.unique : ∀ {l l' : List (Nat × Nat)}, Inc l → Inc l' → (∀ x, x ∈ l ↔ x ∈ l') → l = l'
  | [], [], _, _, _ => rfl
  | [], b :: l', _, _, h => absurd ((h b).2 (by simp)) (by simp)
  | a :: l, [], _, _, h => absurd ((h a).1 (by simp)) (by simp)
  | a :: l, b :: l', h1, h2, h => by
    obtain ⟨a1, a2⟩ := List.pairwise_cons.1 h1
    obtain ⟨b1, b2⟩ := List.pairwise_cons.1 h2
    have hab : a = b := by
      rcases List.mem_cons.1 ((h a).1 (by simp)) with e | e
      · exact e
      · rcases List.mem_cons.1 ((h b).2 (by simp)) with e' | e'
        · exact e'.symm
        · have := ltN_asymm (b1 a e)
          rw [a1 b e'] at this; cases this
    subst hab
    congr 1
    refine Inc.unique a2 b2 fun x => ⟨fun hx => ?_, fun hx => ?_⟩
    · rcases List.mem_cons.1 ((h x).1 (by simp [hx])) with e | e
      · exact absurd e.symm (ltN_ne (a1 x hx))
      · exact e
    · rcases List.mem_cons.1 ((h x).2 (by simp [hx])) with e | e
      · exact absurd e.symm (ltN_ne (b1 x hx))
      · exact e
section
variable {w w' w0 : World} {L L' F cs cs2 cs3 cb ce C : List Chunk} {s s2 sb se sd : Value} {K : VK} {R : ER} {base eff : List Int} {E E' : List (Nat × Nat)} {es : List (Int × Int)} {br : Nat}
theorem rrpl_spec (hS : St base E) (hio : IsEff base E eff) (h2 : TR cE w0 cs2 s2 es) (m1 : ∀ c ∈ cs2, c ∈ L) (hl : es.length ≤ 4000) (hT : RTr br base E eff C) (H : Hp w0 w (C ++ L)) :
    Calls Pg 54 ⟨[ptr br 0, s2]⟩ w (OpQ 104 (RTr br) (chk base es) base E eff base (es.map toN) w0 L) := by
  have hT0 := hT
  obtain ⟨sb, se, cb, ce, rfl, hb, he⟩ := hT
  have H : Hp w0 w (⟨br, 90, [sb, se]⟩ :: (cb ++ (ce ++ L))) := H.re
  have q1 := hb.sc
  have q2 := he.sc
  have fin : ∀ {w : World} {b : Nat} {s' : Value} {c' : List Chunk}, TS cE 39 s' es c' → Hp w0 w (⟨b, 32, [sb, s']⟩ :: ⟨br, 90, [sb, se]⟩ :: (c' ++ (cb ++ (ce ++ L)))) →
      cal Pg (OpQ 104 (RTr br) (chk base es) base E eff base (es.map toN) w0 L) 17 ⟨[.agg ⟨[sb, s']⟩]⟩ (fun v2 => pv (bin .neq v2 (.int .i64 0)) fun v3 =>
        cnd v3 (OpQ 104 (RTr br) (chk base es) base E eff base (es.map toN) w0 L (.returned (.tuple ⟨[(.slice none 0 0), v2]⟩))) (ldN 2 (ptr b 0) fun v4 =>
        cal Pg (OpQ 104 (RTr br) (chk base es) base E eff base (es.map toN) w0 L) 66 ⟨[ptr br 0, v4]⟩ fun v5 => OpQ 104 (RTr br) (chk base es) base E eff base (es.map toN) w0 L (.returned (.tuple ⟨[v5, (.int .i64 0)]⟩)))) w := by
    intro w b s' c' h' H
    refine cal_h (rCheck_spec hb.tr h'.tr (by assumption) csub csub) ?_
    rintro _ w ⟨rfl, H⟩
    by_cases hc : chk base es = 0
    rotate_left
    · repeat (first | simp only [cI_enc, cE_enc, cN_enc, W0] | refine lss_a ?_ | refine lss_b ?_ | refine gtr_a ?_ | refine gtr_b ?_ | refine geq_a ?_ | refine geq_b ?_ | refine leq_a ?_ | refine leq_b ?_ | refine eql_a ?_ | refine eql_b ?_ | refine neq_a ?_ | refine neq_b ?_ | refine add_a ?_ | refine sub_a ?_ | refine ld_a ?_ | refine ldA_a ?_ | refine ldS_a ?_ | refine ldNS_a ?_ | refine rdA_s ?_ | refine rd1_s ?_ | refine drew_a fun w1 H1 => ?_ | refine st_a fun w1 H1 => ?_ | refine stA_a fun w1 H1 => ?_ | refine lenT_a ?_ | refine lenO_a ?_ | refine ixT_a ?_ | refine ixO_a ?_ | fail)
      exact .inl ⟨hc, rfl, _, hT0, Hp.re (by assumption)⟩
    obtain ⟨c1, c2, c3, c4, c5, c6⟩ := chk_ok hc
    have h'' := toCNs h' c4
    have hS' := St.of hc
    rw [hc]
    repeat (first | simp only [cI_enc, cE_enc, cN_enc, W0] | refine lss_a ?_ | refine lss_b ?_ | refine gtr_a ?_ | refine gtr_b ?_ | refine geq_a ?_ | refine geq_b ?_ | refine leq_a ?_ | refine leq_b ?_ | refine eql_a ?_ | refine eql_b ?_ | refine neq_a ?_ | refine neq_b ?_ | refine add_a ?_ | refine sub_a ?_ | refine ld_a ?_ | refine ldA_a ?_ | refine ldS_a ?_ | refine ldNS_a ?_ | refine rdA_s ?_ | refine rd1_s ?_ | refine drew_a fun w1 H1 => ?_ | refine st_a fun w1 H1 => ?_ | refine stA_a fun w1 H1 => ?_ | refine lenT_a ?_ | refine lenO_a ?_ | refine ixT_a ?_ | refine ixO_a ?_ | fail)
    exact put_fin (L' := ⟨b, 32, [sb, s']⟩ :: (c' ++ (cb ++ (ce ++ L)))) hb he hb h'' csub csub csub csub hS hS' hio rfl (Hp.re (by assumption)) (fun f => by simp only [List.map_append, List.map_cons, List.sum_append, List.sum_cons]; omega)
  apply F54_calls
  unfold F54
  repeat (first | simp only [cI_enc, cE_enc, cN_enc, W0] | refine lss_a ?_ | refine lss_b ?_ | refine gtr_a ?_ | refine gtr_b ?_ | refine geq_a ?_ | refine geq_b ?_ | refine leq_a ?_ | refine leq_b ?_ | refine eql_a ?_ | refine eql_b ?_ | refine neq_a ?_ | refine neq_b ?_ | refine add_a ?_ | refine sub_a ?_ | refine ld_a ?_ | refine ldA_a ?_ | refine ldS_a ?_ | refine ldNS_a ?_ | refine rdA_s ?_ | refine rd1_s ?_ | refine drew_a fun w1 H1 => ?_ | refine st_a fun w1 H1 => ?_ | refine stA_a fun w1 H1 => ?_ | refine lenT_a ?_ | refine lenO_a ?_ | refine ixT_a ?_ | refine ixO_a ?_ | fail)
  try unfold F54_j1
  repeat (first | simp only [cI_enc, cE_enc, cN_enc, W0] | refine lss_a ?_ | refine lss_b ?_ | refine gtr_a ?_ | refine gtr_b ?_ | refine geq_a ?_ | refine geq_b ?_ | refine leq_a ?_ | refine leq_b ?_ | refine eql_a ?_ | refine eql_b ?_ | refine neq_a ?_ | refine neq_b ?_ | refine add_a ?_ | refine sub_a ?_ | refine ld_a ?_ | refine ldA_a ?_ | refine ldS_a ?_ | refine ldNS_a ?_ | refine rdA_s ?_ | refine rd1_s ?_ | refine drew_a fun w1 H1 => ?_ | refine st_a fun w1 H1 => ?_ | refine stA_a fun w1 H1 => ?_ | refine lenT_a ?_ | refine lenO_a ?_ | refine ixT_a ?_ | refine ixO_a ?_ | fail)
  refine allW2 ?_ ?_
  · refine lit0_t (C := cE) elE (by assumption) fun w s H h10 => ?_
    repeat (first | simp only [cI_enc, cE_enc, cN_enc, W0] | refine lss_a ?_ | refine lss_b ?_ | refine gtr_a ?_ | refine gtr_b ?_ | refine geq_a ?_ | refine geq_b ?_ | refine leq_a ?_ | refine leq_b ?_ | refine eql_a ?_ | refine eql_b ?_ | refine neq_a ?_ | refine neq_b ?_ | refine add_a ?_ | refine sub_a ?_ | refine ld_a ?_ | refine ldA_a ?_ | refine ldS_a ?_ | refine ldNS_a ?_ | refine rdA_s ?_ | refine rd1_s ?_ | refine drew_a fun w1 H1 => ?_ | refine st_a fun w1 H1 => ?_ | refine stA_a fun w1 H1 => ?_ | refine lenT_a ?_ | refine lenO_a ?_ | refine ixT_a ?_ | refine ixO_a ?_ | fail)
    refine allW2 ?_ ?_
    · refine append_t (C := cE) elE (by assumption) h10 Split.nil h2 csub (by simp; omega) (by simp; omega) fun w s cs H h12 => ?_
      have q3 := h12.sc
      repeat (first | simp only [cI_enc, cE_enc, cN_enc, W0] | refine lss_a ?_ | refine lss_b ?_ | refine gtr_a ?_ | refine gtr_b ?_ | refine geq_a ?_ | refine geq_b ?_ | refine leq_a ?_ | refine leq_b ?_ | refine eql_a ?_ | refine eql_b ?_ | refine neq_a ?_ | refine neq_b ?_ | refine add_a ?_ | refine sub_a ?_ | refine ld_a ?_ | refine ldA_a ?_ | refine ldS_a ?_ | refine ldNS_a ?_ | refine rdA_s ?_ | refine rd1_s ?_ | refine drew_a fun w1 H1 => ?_ | refine st_a fun w1 H1 => ?_ | refine stA_a fun w1 H1 => ?_ | refine lenT_a ?_ | refine lenO_a ?_ | refine ixT_a ?_ | refine ixO_a ?_ | fail)
      refine pv_of (bld2 q1 q3) ?_
      repeat (first | simp only [cI_enc, cE_enc, cN_enc, W0] | refine lss_a ?_ | refine lss_b ?_ | refine gtr_a ?_ | refine gtr_b ?_ | refine geq_a ?_ | refine geq_b ?_ | refine leq_a ?_ | refine leq_b ?_ | refine eql_a ?_ | refine eql_b ?_ | refine neq_a ?_ | refine neq_b ?_ | refine add_a ?_ | refine sub_a ?_ | refine ld_a ?_ | refine ldA_a ?_ | refine ldS_a ?_ | refine ldNS_a ?_ | refine rdA_s ?_ | refine rd1_s ?_ | refine drew_a fun w1 H1 => ?_ | refine st_a fun w1 H1 => ?_ | refine stA_a fun w1 H1 => ?_ | refine lenT_a ?_ | refine lenO_a ?_ | refine ixT_a ?_ | refine ixO_a ?_ | fail)
      refine al_m (ys := [.slice none 0 0, .slice none 0 0]) (by assumption) (by kernel_rfl) fun w b H => ?_
      repeat (first | simp only [cI_enc, cE_enc, cN_enc, W0] | refine lss_a ?_ | refine lss_b ?_ | refine gtr_a ?_ | refine gtr_b ?_ | refine geq_a ?_ | refine geq_b ?_ | refine leq_a ?_ | refine leq_b ?_ | refine eql_a ?_ | refine eql_b ?_ | refine neq_a ?_ | refine neq_b ?_ | refine add_a ?_ | refine sub_a ?_ | refine ld_a ?_ | refine ldA_a ?_ | refine ldS_a ?_ | refine ldNS_a ?_ | refine rdA_s ?_ | refine rd1_s ?_ | refine drew_a fun w1 H1 => ?_ | refine st_a fun w1 H1 => ?_ | refine stA_a fun w1 H1 => ?_ | refine lenT_a ?_ | refine lenO_a ?_ | refine ixT_a ?_ | refine ixO_a ?_ | fail)
      exact fin (b := b) h12 (Hp.re (by assumption))
    · refine al_m (ys := [.slice none 0 0, .slice none 0 0]) (by assumption) (by kernel_rfl) fun w b H => ?_
      repeat (first | simp only [cI_enc, cE_enc, cN_enc, W0] | refine lss_a ?_ | refine lss_b ?_ | refine gtr_a ?_ | refine gtr_b ?_ | refine geq_a ?_ | refine geq_b ?_ | refine leq_a ?_ | refine leq_b ?_ | refine eql_a ?_ | refine eql_b ?_ | refine neq_a ?_ | refine neq_b ?_ | refine add_a ?_ | refine sub_a ?_ | refine ld_a ?_ | refine ldA_a ?_ | refine ldS_a ?_ | refine ldNS_a ?_ | refine rdA_s ?_ | refine rd1_s ?_ | refine drew_a fun w1 H1 => ?_ | refine st_a fun w1 H1 => ?_ | refine stA_a fun w1 H1 => ?_ | refine lenT_a ?_ | refine lenO_a ?_ | refine ixT_a ?_ | refine ixO_a ?_ | fail)
      refine append_t (C := cE) elE (by assumption) h10 Split.nil h2 csub (by simp; omega) (by simp; omega) fun w s cs H h12 => ?_
      have q3 := h12.sc
      repeat (first | simp only [cI_enc, cE_enc, cN_enc, W0] | refine lss_a ?_ | refine lss_b ?_ | refine gtr_a ?_ | refine gtr_b ?_ | refine geq_a ?_ | refine geq_b ?_ | refine leq_a ?_ | refine leq_b ?_ | refine eql_a ?_ | refine eql_b ?_ | refine neq_a ?_ | refine neq_b ?_ | refine add_a ?_ | refine sub_a ?_ | refine ld_a ?_ | refine ldA_a ?_ | refine ldS_a ?_ | refine ldNS_a ?_ | refine rdA_s ?_ | refine rd1_s ?_ | refine drew_a fun w1 H1 => ?_ | refine st_a fun w1 H1 => ?_ | refine stA_a fun w1 H1 => ?_ | refine lenT_a ?_ | refine lenO_a ?_ | refine ixT_a ?_ | refine ixO_a ?_ | fail)
      refine pv_of (bld2 q1 q3) ?_
      repeat (first | simp only [cI_enc, cE_enc, cN_enc, W0] | refine lss_a ?_ | refine lss_b ?_ | refine gtr_a ?_ | refine gtr_b ?_ | refine geq_a ?_ | refine geq_b ?_ | refine leq_a ?_ | refine leq_b ?_ | refine eql_a ?_ | refine eql_b ?_ | refine neq_a ?_ | refine neq_b ?_ | refine add_a ?_ | refine sub_a ?_ | refine ld_a ?_ | refine ldA_a ?_ | refine ldS_a ?_ | refine ldNS_a ?_ | refine rdA_s ?_ | refine rd1_s ?_ | refine drew_a fun w1 H1 => ?_ | refine st_a fun w1 H1 => ?_ | refine stA_a fun w1 H1 => ?_ | refine lenT_a ?_ | refine lenO_a ?_ | refine ixT_a ?_ | refine ixO_a ?_ | fail)
      exact fin (b := b) h12 (Hp.re (by assumption))
  · refine al_m (ys := [.slice none 0 0, .slice none 0 0]) (by assumption) (by kernel_rfl) fun w b H => ?_
    repeat (first | simp only [cI_enc, cE_enc, cN_enc, W0] | refine lss_a ?_ | refine lss_b ?_ | refine gtr_a ?_ | refine gtr_b ?_ | refine geq_a ?_ | refine geq_b ?_ | refine leq_a ?_ | refine leq_b ?_ | refine eql_a ?_ | refine eql_b ?_ | refine neq_a ?_ | refine neq_b ?_ | refine add_a ?_ | refine sub_a ?_ | refine ld_a ?_ | refine ldA_a ?_ | refine ldS_a ?_ | refine ldNS_a ?_ | refine rdA_s ?_ | refine rd1_s ?_ | refine drew_a fun w1 H1 => ?_ | refine st_a fun w1 H1 => ?_ | refine stA_a fun w1 H1 => ?_ | refine lenT_a ?_ | refine lenO_a ?_ | refine ixT_a ?_ | refine ixO_a ?_ | fail)
    refine lit0_t (C := cE) elE (by assumption) fun w s H h10 => ?_
    repeat (first | simp only [cI_enc, cE_enc, cN_enc, W0] | refine lss_a ?_ | refine lss_b ?_ | refine gtr_a ?_ | refine gtr_b ?_ | refine geq_a ?_ | refine geq_b ?_ | refine leq_a ?_ | refine leq_b ?_ | refine eql_a ?_ | refine eql_b ?_ | refine neq_a ?_ | refine neq_b ?_ | refine add_a ?_ | refine sub_a ?_ | refine ld_a ?_ | refine ldA_a ?_ | refine ldS_a ?_ | refine ldNS_a ?_ | refine rdA_s ?_ | refine rd1_s ?_ | refine drew_a fun w1 H1 => ?_ | refine st_a fun w1 H1 => ?_ | refine stA_a fun w1 H1 => ?_ | refine lenT_a ?_ | refine lenO_a ?_ | refine ixT_a ?_ | refine ixO_a ?_ | fail)
    refine append_t (C := cE) elE (by assumption) h10 Split.nil h2 csub (by simp; omega) (by simp; omega) fun w s cs H h12 => ?_
    have q3 := h12.sc
    repeat (first | simp only [cI_enc, cE_enc, cN_enc, W0] | refine lss_a ?_ | refine lss_b ?_ | refine gtr_a ?_ | refine gtr_b ?_ | refine geq_a ?_ | refine geq_b ?_ | refine leq_a ?_ | refine leq_b ?_ | refine eql_a ?_ | refine eql_b ?_ | refine neq_a ?_ | refine neq_b ?_ | refine add_a ?_ | refine sub_a ?_ | refine ld_a ?_ | refine ldA_a ?_ | refine ldS_a ?_ | refine ldNS_a ?_ | refine rdA_s ?_ | refine rd1_s ?_ | refine drew_a fun w1 H1 => ?_ | refine st_a fun w1 H1 => ?_ | refine stA_a fun w1 H1 => ?_ | refine lenT_a ?_ | refine lenO_a ?_ | refine ixT_a ?_ | refine ixO_a ?_ | fail)
    refine pv_of (bld2 q1 q3) ?_
    repeat (first | simp only [cI_enc, cE_enc, cN_enc, W0] | refine lss_a ?_ | refine lss_b ?_ | refine gtr_a ?_ | refine gtr_b ?_ | refine geq_a ?_ | refine geq_b ?_ | refine leq_a ?_ | refine leq_b ?_ | refine eql_a ?_ | refine eql_b ?_ | refine neq_a ?_ | refine neq_b ?_ | refine add_a ?_ | refine sub_a ?_ | refine ld_a ?_ | refine ldA_a ?_ | refine ldS_a ?_ | refine ldNS_a ?_ | refine rdA_s ?_ | refine rd1_s ?_ | refine drew_a fun w1 H1 => ?_ | refine st_a fun w1 H1 => ?_ | refine stA_a fun w1 H1 => ?_ | refine lenT_a ?_ | refine lenO_a ?_ | refine ixT_a ?_ | refine ixO_a ?_ | fail)
    exact fin (b := b) h12 (Hp.re (by assumption))
theorem reff_spec {t : Int} (hS : St base E) (hio : IsEff base E eff) (hT : RTr br base E eff C) (H : Hp w0 w (C ++ L)) :
    Calls Pg 55 ⟨[ptr br 0, I t]⟩ w fun x w' => x = .returned (.tuple ⟨if inR base.length t then [I (gt eff t.toNat), I 0] else [I 0, I 34]⟩) ∧ Hp w0 w' (C ++ L) := by
  obtain ⟨sb, se, cb, ce, rfl, hb, he⟩ := hT
  have H : Hp w0 w (⟨br, 90, [sb, se]⟩ :: (cb ++ (ce ++ L))) := H.re
  have q1 := hb.sc
  have q2 := he.sc
  have hel := hS.el
  apply F55_calls
  unfold F55
  repeat (first | simp only [cI_enc, cE_enc, cN_enc, W0] | refine lss_a ?_ | refine lss_b ?_ | refine gtr_a ?_ | refine gtr_b ?_ | refine geq_a ?_ | refine geq_b ?_ | refine leq_a ?_ | refine leq_b ?_ | refine eql_a ?_ | refine eql_b ?_ | refine neq_a ?_ | refine neq_b ?_ | refine add_a ?_ | refine sub_a ?_ | refine ld_a ?_ | refine ldA_a ?_ | refine ldS_a ?_ | refine ldNS_a ?_ | refine rdA_s ?_ | refine rd1_s ?_ | refine drew_a fun w1 H1 => ?_ | refine st_a fun w1 H1 => ?_ | refine stA_a fun w1 H1 => ?_ | refine lenT_a ?_ | refine lenO_a ?_ | refine ixT_a ?_ | refine ixO_a ?_ | fail)
  try unfold F55_j1
  repeat (first | simp only [cI_enc, cE_enc, cN_enc, W0] | refine lss_a ?_ | refine lss_b ?_ | refine gtr_a ?_ | refine gtr_b ?_ | refine geq_a ?_ | refine geq_b ?_ | refine leq_a ?_ | refine leq_b ?_ | refine eql_a ?_ | refine eql_b ?_ | refine neq_a ?_ | refine neq_b ?_ | refine add_a ?_ | refine sub_a ?_ | refine ld_a ?_ | refine ldA_a ?_ | refine ldS_a ?_ | refine ldNS_a ?_ | refine rdA_s ?_ | refine rd1_s ?_ | refine drew_a fun w1 H1 => ?_ | refine st_a fun w1 H1 => ?_ | refine stA_a fun w1 H1 => ?_ | refine lenT_a ?_ | refine lenO_a ?_ | refine ixT_a ?_ | refine ixO_a ?_ | fail)
  refine cal_h (thread_spec hb.tr q2 (by assumption)) ?_
  rintro _ w ⟨rfl, H⟩
  cases g1 : inR base.length t with
  | false =>
    repeat (first | simp only [cI_enc, cE_enc, cN_enc, W0] | refine lss_a ?_ | refine lss_b ?_ | refine gtr_a ?_ | refine gtr_b ?_ | refine geq_a ?_ | refine geq_b ?_ | refine leq_a ?_ | refine leq_b ?_ | refine eql_a ?_ | refine eql_b ?_ | refine neq_a ?_ | refine neq_b ?_ | refine add_a ?_ | refine sub_a ?_ | refine ld_a ?_ | refine ldA_a ?_ | refine ldS_a ?_ | refine ldNS_a ?_ | refine rdA_s ?_ | refine rd1_s ?_ | refine drew_a fun w1 H1 => ?_ | refine st_a fun w1 H1 => ?_ | refine stA_a fun w1 H1 => ?_ | refine lenT_a ?_ | refine lenO_a ?_ | refine ixT_a ?_ | refine ixO_a ?_ | fail)
    exact ⟨(by first | rfl | trivial), Hp.re (by assumption)⟩
  | true =>
    have hin := g1
    rw [inR, decide_eq_true_eq] at hin
    obtain ⟨i, rfl⟩ : ∃ i : Nat, t = i := ⟨t.toNat, by omega⟩
    repeat (first | simp only [cI_enc, cE_enc, cN_enc, W0] | refine lss_a ?_ | refine lss_b ?_ | refine gtr_a ?_ | refine gtr_b ?_ | refine geq_a ?_ | refine geq_b ?_ | refine leq_a ?_ | refine leq_b ?_ | refine eql_a ?_ | refine eql_b ?_ | refine neq_a ?_ | refine neq_b ?_ | refine add_a ?_ | refine sub_a ?_ | refine ld_a ?_ | refine ldA_a ?_ | refine ldS_a ?_ | refine ldNS_a ?_ | refine rdA_s ?_ | refine rd1_s ?_ | refine drew_a fun w1 H1 => ?_ | refine st_a fun w1 H1 => ?_ | refine stA_a fun w1 H1 => ?_ | refine lenT_a ?_ | refine lenO_a ?_ | refine ixT_a ?_ | refine ixO_a ?_ | fail)
    try unfold F55_j2
    repeat (first | simp only [cI_enc, cE_enc, cN_enc, W0] | refine lss_a ?_ | refine lss_b ?_ | refine gtr_a ?_ | refine gtr_b ?_ | refine geq_a ?_ | refine geq_b ?_ | refine leq_a ?_ | refine leq_b ?_ | refine eql_a ?_ | refine eql_b ?_ | refine neq_a ?_ | refine neq_b ?_ | refine add_a ?_ | refine sub_a ?_ | refine ld_a ?_ | refine ldA_a ?_ | refine ldS_a ?_ | refine ldNS_a ?_ | refine rdA_s ?_ | refine rd1_s ?_ | refine drew_a fun w1 H1 => ?_ | refine st_a fun w1 H1 => ?_ | refine stA_a fun w1 H1 => ?_ | refine lenT_a ?_ | refine lenO_a ?_ | refine ixT_a ?_ | refine ixO_a ?_ | fail)
    refine cal_h (Values_spec hb.tr he.tr (by assumption) csub csub hS.rg hS.va hS.len (by omega)) ?_
    rintro _ w ⟨so, co, out, rfl, H, ho, hio'⟩
    obtain rfl : eff = out := hio.unique hio' fun e => Iff.rfl
    have hx : eff[i]? = some (gt eff i) := gt_some (by have := hio.len; omega)
    repeat (first | simp only [cI_enc, cE_enc, cN_enc, W0] | refine lss_a ?_ | refine lss_b ?_ | refine gtr_a ?_ | refine gtr_b ?_ | refine geq_a ?_ | refine geq_b ?_ | refine leq_a ?_ | refine leq_b ?_ | refine eql_a ?_ | refine eql_b ?_ | refine neq_a ?_ | refine neq_b ?_ | refine add_a ?_ | refine sub_a ?_ | refine ld_a ?_ | refine ldA_a ?_ | refine ldS_a ?_ | refine ldNS_a ?_ | refine rdA_s ?_ | refine rd1_s ?_ | refine drew_a fun w1 H1 => ?_ | refine st_a fun w1 H1 => ?_ | refine stA_a fun w1 H1 => ?_ | refine lenT_a ?_ | refine lenO_a ?_ | refine ixT_a ?_ | refine ixO_a ?_ | fail)
    exact ⟨(by first | rfl | trivial), Hp.re (by assumption)⟩
theorem rNew_spec (h1 : TR cI w0 cs s base) (H : Hp w0 w L) (m1 : ∀ c ∈ cs, c ∈ L) (hl : base.length ≤ 4000) :
    Calls Pg 26 ⟨[s]⟩ w fun x w' => (chk base [] ≠ 0 ∧ x = .returned (.tuple ⟨[.pointer none, I (chk base [])]⟩) ∧ Hp w0 w' L) ∨
      (chk base [] = 0 ∧ ∃ br C, x = .returned (.tuple ⟨[ptr br 0, I 0]⟩) ∧ RTr br base [] base C ∧ Hp w0 w' (C ++ L)) := by
  apply F26_calls
  unfold F26
  refine lit0_t (C := cI) elI (by assumption) fun w s0 H h10 => ?_
  refine append_t (C := cI) elI (by assumption) h10 Split.nil h1 csub (by simp; omega) (by simp; omega) fun w sb cb H hb => ?_
  rw [List.nil_append] at hb
  have q1 := hb.sc
  refine pv_of (bld1 q1) ?_
  refine al_m (ys := [.slice none 0 0, .slice none 0 0]) (by assumption) (by kernel_rfl) fun w b H => ?_
  repeat (first | simp only [cI_enc, cE_enc, cN_enc, W0] | refine lss_a ?_ | refine lss_b ?_ | refine gtr_a ?_ | refine gtr_b ?_ | refine geq_a ?_ | refine geq_b ?_ | refine leq_a ?_ | refine leq_b ?_ | refine eql_a ?_ | refine eql_b ?_ | refine neq_a ?_ | refine neq_b ?_ | refine add_a ?_ | refine sub_a ?_ | refine ld_a ?_ | refine ldA_a ?_ | refine ldS_a ?_ | refine ldNS_a ?_ | refine rdA_s ?_ | refine rd1_s ?_ | refine drew_a fun w1 H1 => ?_ | refine st_a fun w1 H1 => ?_ | refine stA_a fun w1 H1 => ?_ | refine lenT_a ?_ | refine lenO_a ?_ | refine ixT_a ?_ | refine ixO_a ?_ | fail)
  refine cal_h (rCheck_spec (es := []) (cs2 := []) hb.tr TR.nil (by assumption) csub (by simp)) ?_
  rintro _ w ⟨rfl, H⟩
  by_cases hc : chk base [] = 0
  rotate_left
  · repeat (first | simp only [cI_enc, cE_enc, cN_enc, W0] | refine lss_a ?_ | refine lss_b ?_ | refine gtr_a ?_ | refine gtr_b ?_ | refine geq_a ?_ | refine geq_b ?_ | refine leq_a ?_ | refine leq_b ?_ | refine eql_a ?_ | refine eql_b ?_ | refine neq_a ?_ | refine neq_b ?_ | refine add_a ?_ | refine sub_a ?_ | refine ld_a ?_ | refine ldA_a ?_ | refine ldS_a ?_ | refine ldNS_a ?_ | refine rdA_s ?_ | refine rd1_s ?_ | refine drew_a fun w1 H1 => ?_ | refine st_a fun w1 H1 => ?_ | refine stA_a fun w1 H1 => ?_ | refine lenT_a ?_ | refine lenO_a ?_ | refine ixT_a ?_ | refine ixO_a ?_ | fail)
    exact .inl ⟨hc, (by first | rfl | trivial), Hp.re (by assumption)⟩
  repeat (first | simp only [cI_enc, cE_enc, cN_enc, W0] | refine lss_a ?_ | refine lss_b ?_ | refine gtr_a ?_ | refine gtr_b ?_ | refine geq_a ?_ | refine geq_b ?_ | refine leq_a ?_ | refine leq_b ?_ | refine eql_a ?_ | refine eql_b ?_ | refine neq_a ?_ | refine neq_b ?_ | refine add_a ?_ | refine sub_a ?_ | refine ld_a ?_ | refine ldA_a ?_ | refine ldS_a ?_ | refine ldNS_a ?_ | refine rdA_s ?_ | refine rd1_s ?_ | refine drew_a fun w1 H1 => ?_ | refine st_a fun w1 H1 => ?_ | refine stA_a fun w1 H1 => ?_ | refine lenT_a ?_ | refine lenO_a ?_ | refine ixT_a ?_ | refine ixO_a ?_ | fail)
  refine pv_of (v := .agg ⟨[sb, .slice none 0 0]⟩) rfl ?_
  refine bx_m (by assumption) fun w br H => ?_
  exact .inr ⟨hc, br, ⟨br, 90, [sb, .slice none 0 0]⟩ :: (cb ++ []), rfl, ⟨sb, .slice none 0 0, cb, [], rfl, hb, TS.nil⟩, Hp.re (by assumption)⟩
theorem rSorted_spec (hS : St base E) (hT : RTr br base E eff C) (H : Hp w0 w (C ++ L)) :
    Calls Pg 27 ⟨[ptr br 0]⟩ w fun x w' => ∃ sb' s' cb' c', x = .returned (.agg ⟨[sb', s']⟩) ∧ TS cI 3 sb' base cb' ∧ TS cN 39 s' (srt E base.length base.length) c' ∧ Hp w0 w' (C ++ (cb' ++ (c' ++ L))) := by
  obtain ⟨sb, se, cb, ce, rfl, hb, he⟩ := hT
  have H : Hp w0 w (⟨br, 90, [sb, se]⟩ :: (cb ++ (ce ++ L))) := H.re
  have q1 := hb.sc
  have q2 := he.sc
  have hel := hS.el
  have hbl := hS.len
  apply F27_calls
  unfold F27
  refine al_m (ys := [.slice none 0 0, .slice none 0 0]) (by assumption) (by kernel_rfl) fun w b2 H => ?_
  repeat (first | simp only [cI_enc, cE_enc, cN_enc, W0] | refine lss_a ?_ | refine lss_b ?_ | refine gtr_a ?_ | refine gtr_b ?_ | refine geq_a ?_ | refine geq_b ?_ | refine leq_a ?_ | refine leq_b ?_ | refine eql_a ?_ | refine eql_b ?_ | refine neq_a ?_ | refine neq_b ?_ | refine add_a ?_ | refine sub_a ?_ | refine ld_a ?_ | refine ldA_a ?_ | refine ldS_a ?_ | refine ldNS_a ?_ | refine rdA_s ?_ | refine rd1_s ?_ | refine drew_a fun w1 H1 => ?_ | refine st_a fun w1 H1 => ?_ | refine stA_a fun w1 H1 => ?_ | refine lenT_a ?_ | refine lenO_a ?_ | refine ixT_a ?_ | refine ixO_a ?_ | fail)
  try unfold F27_j1
  refine lit0_t (C := cI) elI (by assumption) fun w s0 H h10 => ?_
  repeat (first | simp only [cI_enc, cE_enc, cN_enc, W0] | refine lss_a ?_ | refine lss_b ?_ | refine gtr_a ?_ | refine gtr_b ?_ | refine geq_a ?_ | refine geq_b ?_ | refine leq_a ?_ | refine leq_b ?_ | refine eql_a ?_ | refine eql_b ?_ | refine neq_a ?_ | refine neq_b ?_ | refine add_a ?_ | refine sub_a ?_ | refine ld_a ?_ | refine ldA_a ?_ | refine ldS_a ?_ | refine ldNS_a ?_ | refine rdA_s ?_ | refine rd1_s ?_ | refine drew_a fun w1 H1 => ?_ | refine st_a fun w1 H1 => ?_ | refine stA_a fun w1 H1 => ?_ | refine lenT_a ?_ | refine lenO_a ?_ | refine ixT_a ?_ | refine ixO_a ?_ | fail)
  refine append_t (C := cI) elI (by assumption) h10 Split.nil hb.tr csub (by simp; omega) (by simp; omega) fun w sn cn H hn => ?_
  rw [List.nil_append] at hn
  have q3 := hn.sc
  refine pv_of (bld1 q3) ?_
  refine al_m (ys := [.slice none 0 0, .slice none 0 0]) (by assumption) (by kernel_rfl) fun w b3 H => ?_
  repeat (first | simp only [cI_enc, cE_enc, cN_enc, W0] | refine lss_a ?_ | refine lss_b ?_ | refine gtr_a ?_ | refine gtr_b ?_ | refine geq_a ?_ | refine geq_b ?_ | refine leq_a ?_ | refine leq_b ?_ | refine eql_a ?_ | refine eql_b ?_ | refine neq_a ?_ | refine neq_b ?_ | refine add_a ?_ | refine sub_a ?_ | refine ld_a ?_ | refine ldA_a ?_ | refine ldS_a ?_ | refine ldNS_a ?_ | refine rdA_s ?_ | refine rd1_s ?_ | refine drew_a fun w1 H1 => ?_ | refine st_a fun w1 H1 => ?_ | refine stA_a fun w1 H1 => ?_ | refine lenT_a ?_ | refine lenO_a ?_ | refine ixT_a ?_ | refine ixO_a ?_ | fail)
  try unfold F27_j3 F27_j4
  refine loop4 (F27_l2_succ _) (fun m x0 x2 x3 x4 w => ∃ (i : Nat) (s : Value) (cs : List Chunk), x0 = ptr br 0 ∧ x2 = ptr b2 0 ∧ x3 = ptr b3 0 ∧ x4 = I i ∧ m + i = base.length ∧ TS cN 39 s (srt E base.length i) cs ∧
      Hp w0 w (⟨b3, 32, [sn, s]⟩ :: ⟨b2, 32, [.slice none 0 0, .slice none 0 0]⟩ :: ⟨br, 90, [sb, se]⟩ :: (cn ++ (cb ++ (ce ++ (cs ++ L)))))) ?_ (m := base.length)
    ⟨0, .slice none 0 0, [], rfl, rfl, rfl, rfl, by omega, TS.nil, Hp.re (by assumption)⟩
  clear H
  rintro m k x0 x2 x3 x4 w ⟨i, s, cs, rfl, rfl, rfl, rfl, hm, hs, H⟩ hk
  unfold F27_b1
  have hsl := srt_len (E := E) (n := base.length) i
  have hb2 : base.length * base.length ≤ 256 * 256 := Nat.mul_le_mul hbl hbl
  by_cases hi : i < base.length
  rotate_left
  · obtain rfl : i = base.length := by omega
    have q4 := hs.sc
    repeat (first | simp only [cI_enc, cE_enc, cN_enc, W0] | refine lss_a ?_ | refine lss_b ?_ | refine gtr_a ?_ | refine gtr_b ?_ | refine geq_a ?_ | refine geq_b ?_ | refine leq_a ?_ | refine leq_b ?_ | refine eql_a ?_ | refine eql_b ?_ | refine neq_a ?_ | refine neq_b ?_ | refine add_a ?_ | refine sub_a ?_ | refine ld_a ?_ | refine ldA_a ?_ | refine ldS_a ?_ | refine ldNS_a ?_ | refine rdA_s ?_ | refine rd1_s ?_ | refine drew_a fun w1 H1 => ?_ | refine st_a fun w1 H1 => ?_ | refine stA_a fun w1 H1 => ?_ | refine lenT_a ?_ | refine lenO_a ?_ | refine ixT_a ?_ | refine ixO_a ?_ | fail)
    try unfold F27_j2
    repeat (first | simp only [cI_enc, cE_enc, cN_enc, W0] | refine lss_a ?_ | refine lss_b ?_ | refine gtr_a ?_ | refine gtr_b ?_ | refine geq_a ?_ | refine geq_b ?_ | refine leq_a ?_ | refine leq_b ?_ | refine eql_a ?_ | refine eql_b ?_ | refine neq_a ?_ | refine neq_b ?_ | refine add_a ?_ | refine sub_a ?_ | refine ld_a ?_ | refine ldA_a ?_ | refine ldS_a ?_ | refine ldNS_a ?_ | refine rdA_s ?_ | refine rd1_s ?_ | refine drew_a fun w1 H1 => ?_ | refine st_a fun w1 H1 => ?_ | refine stA_a fun w1 H1 => ?_ | refine lenT_a ?_ | refine lenO_a ?_ | refine ixT_a ?_ | refine ixO_a ?_ | fail)
    exact ⟨sn, s, cn, cs, rfl, hn, hs, Hp.re (by assumption)⟩
  have hib : i * base.length ≤ base.length * base.length := Nat.mul_le_mul_right _ (by omega)
  repeat (first | simp only [cI_enc, cE_enc, cN_enc, W0] | refine lss_a ?_ | refine lss_b ?_ | refine gtr_a ?_ | refine gtr_b ?_ | refine geq_a ?_ | refine geq_b ?_ | refine leq_a ?_ | refine leq_b ?_ | refine eql_a ?_ | refine eql_b ?_ | refine neq_a ?_ | refine neq_b ?_ | refine add_a ?_ | refine sub_a ?_ | refine ld_a ?_ | refine ldA_a ?_ | refine ldS_a ?_ | refine ldNS_a ?_ | refine rdA_s ?_ | refine rd1_s ?_ | refine drew_a fun w1 H1 => ?_ | refine st_a fun w1 H1 => ?_ | refine stA_a fun w1 H1 => ?_ | refine lenT_a ?_ | refine lenO_a ?_ | refine ixT_a ?_ | refine ixO_a ?_ | fail)
  try unfold F27_j5 F27_j7 F27_j8
  refine loop5 (F27_l1_succ _ _) (fun m x0 x2 x3 x4 x5 w => ∃ (j : Nat) (s : Value) (cs : List Chunk), x0 = ptr br 0 ∧ x2 = ptr b2 0 ∧ x3 = ptr b3 0 ∧ x4 = I i ∧ x5 = I j ∧ m + j = base.length ∧ TS cN 39 s (srt E base.length i ++ srtR E i j) cs ∧
      Hp w0 w (⟨b3, 32, [sn, s]⟩ :: ⟨b2, 32, [.slice none 0 0, .slice none 0 0]⟩ :: ⟨br, 90, [sb, se]⟩ :: (cn ++ (cb ++ (ce ++ (cs ++ L)))))) ?_ (m := base.length)
    ⟨0, s, cs, rfl, rfl, rfl, rfl, rfl, by omega, by rw [show srtR E i 0 = [] from rfl, List.append_nil]; exact hs, Hp.re (by assumption)⟩
  clear H hs
  rintro m2 k2 x0 x2 x3 x4 x5 w ⟨j, s, cs, rfl, rfl, rfl, rfl, rfl, hm2, hs, H⟩ hk2
  unfold F27_b2
  by_cases hj : j < base.length
  rotate_left
  · obtain rfl : j = base.length := by omega
    repeat (first | simp only [cI_enc, cE_enc, cN_enc, W0] | refine lss_a ?_ | refine lss_b ?_ | refine gtr_a ?_ | refine gtr_b ?_ | refine geq_a ?_ | refine geq_b ?_ | refine leq_a ?_ | refine leq_b ?_ | refine eql_a ?_ | refine eql_b ?_ | refine neq_a ?_ | refine neq_b ?_ | refine add_a ?_ | refine sub_a ?_ | refine ld_a ?_ | refine ldA_a ?_ | refine ldS_a ?_ | refine ldNS_a ?_ | refine rdA_s ?_ | refine rd1_s ?_ | refine drew_a fun w1 H1 => ?_ | refine st_a fun w1 H1 => ?_ | refine stA_a fun w1 H1 => ?_ | refine lenT_a ?_ | refine lenO_a ?_ | refine ixT_a ?_ | refine ixO_a ?_ | fail)
    try unfold F27_j6
    repeat (first | simp only [cI_enc, cE_enc, cN_enc, W0] | refine lss_a ?_ | refine lss_b ?_ | refine gtr_a ?_ | refine gtr_b ?_ | refine geq_a ?_ | refine geq_b ?_ | refine leq_a ?_ | refine leq_b ?_ | refine eql_a ?_ | refine eql_b ?_ | refine neq_a ?_ | refine neq_b ?_ | refine add_a ?_ | refine sub_a ?_ | refine ld_a ?_ | refine ldA_a ?_ | refine ldS_a ?_ | refine ldNS_a ?_ | refine rdA_s ?_ | refine rd1_s ?_ | refine drew_a fun w1 H1 => ?_ | refine st_a fun w1 H1 => ?_ | refine stA_a fun w1 H1 => ?_ | refine lenT_a ?_ | refine lenO_a ?_ | refine ixT_a ?_ | refine ixO_a ?_ | fail)
    exact hk (m - 1) _ _ _ _ _ (by omega) ⟨i + 1, s, cs, rfl, rfl, rfl, rfl, by omega, hs, Hp.re (by assumption)⟩
  have hrl := srtR_len (E := E) (w := i) (h := j)
  have hsc := srtR_succ (E := E) (w := i) (h := j)
  repeat (first | simp only [cI_enc, cE_enc, cN_enc, W0] | refine lss_a ?_ | refine lss_b ?_ | refine gtr_a ?_ | refine gtr_b ?_ | refine geq_a ?_ | refine geq_b ?_ | refine leq_a ?_ | refine leq_b ?_ | refine eql_a ?_ | refine eql_b ?_ | refine neq_a ?_ | refine neq_b ?_ | refine add_a ?_ | refine sub_a ?_ | refine ld_a ?_ | refine ldA_a ?_ | refine ldS_a ?_ | refine ldNS_a ?_ | refine rdA_s ?_ | refine rd1_s ?_ | refine drew_a fun w1 H1 => ?_ | refine st_a fun w1 H1 => ?_ | refine stA_a fun w1 H1 => ?_ | refine lenT_a ?_ | refine lenO_a ?_ | refine ixT_a ?_ | refine ixO_a ?_ | fail)
  try unfold F27_j9 F27_j11
  repeat (first | simp only [cI_enc, cE_enc, cN_enc, W0] | refine lss_a ?_ | refine lss_b ?_ | refine gtr_a ?_ | refine gtr_b ?_ | refine geq_a ?_ | refine geq_b ?_ | refine leq_a ?_ | refine leq_b ?_ | refine eql_a ?_ | refine eql_b ?_ | refine neq_a ?_ | refine neq_b ?_ | refine add_a ?_ | refine sub_a ?_ | refine ld_a ?_ | refine ldA_a ?_ | refine ldS_a ?_ | refine ldNS_a ?_ | refine rdA_s ?_ | refine rd1_s ?_ | refine drew_a fun w1 H1 => ?_ | refine st_a fun w1 H1 => ?_ | refine stA_a fun w1 H1 => ?_ | refine lenT_a ?_ | refine lenO_a ?_ | refine ixT_a ?_ | refine ixO_a ?_ | fail)
  refine pv_of bld2v ?_
  refine cal_h (hasN_spec (a := i) (b := j) he.tr (by assumption) csub (by omega)) ?_
  rintro _ w ⟨rfl, H⟩
  by_cases hc : (i, j) ∈ E
  · rw [if_pos hc] at hsc
    rw [decide_eq_true hc]
    repeat (first | simp only [cI_enc, cE_enc, cN_enc, W0] | refine lss_a ?_ | refine lss_b ?_ | refine gtr_a ?_ | refine gtr_b ?_ | refine geq_a ?_ | refine geq_b ?_ | refine leq_a ?_ | refine leq_b ?_ | refine eql_a ?_ | refine eql_b ?_ | refine neq_a ?_ | refine neq_b ?_ | refine add_a ?_ | refine sub_a ?_ | refine ld_a ?_ | refine ldA_a ?_ | refine ldS_a ?_ | refine ldNS_a ?_ | refine rdA_s ?_ | refine rd1_s ?_ | refine drew_a fun w1 H1 => ?_ | refine st_a fun w1 H1 => ?_ | refine stA_a fun w1 H1 => ?_ | refine lenT_a ?_ | refine lenO_a ?_ | refine ixT_a ?_ | refine ixO_a ?_ | fail)
    refine pv_of bld2v ?_
    refine app1_t (C := cN) (x := (i, j)) elN (by assumption) hs spl rfl (by decide) (by rw [List.length_append]; omega) (by rw [List.length_append]; omega) fun w s' cs' H hs' => ?_
    rw [List.append_assoc, ← hsc] at hs'
    have q4 := hs'.sc
    repeat (first | simp only [cI_enc, cE_enc, cN_enc, W0] | refine lss_a ?_ | refine lss_b ?_ | refine gtr_a ?_ | refine gtr_b ?_ | refine geq_a ?_ | refine geq_b ?_ | refine leq_a ?_ | refine leq_b ?_ | refine eql_a ?_ | refine eql_b ?_ | refine neq_a ?_ | refine neq_b ?_ | refine add_a ?_ | refine sub_a ?_ | refine ld_a ?_ | refine ldA_a ?_ | refine ldS_a ?_ | refine ldNS_a ?_ | refine rdA_s ?_ | refine rd1_s ?_ | refine drew_a fun w1 H1 => ?_ | refine st_a fun w1 H1 => ?_ | refine stA_a fun w1 H1 => ?_ | refine lenT_a ?_ | refine lenO_a ?_ | refine ixT_a ?_ | refine ixO_a ?_ | fail)
    try unfold F27_j10
    repeat (first | simp only [cI_enc, cE_enc, cN_enc, W0] | refine lss_a ?_ | refine lss_b ?_ | refine gtr_a ?_ | refine gtr_b ?_ | refine geq_a ?_ | refine geq_b ?_ | refine leq_a ?_ | refine leq_b ?_ | refine eql_a ?_ | refine eql_b ?_ | refine neq_a ?_ | refine neq_b ?_ | refine add_a ?_ | refine sub_a ?_ | refine ld_a ?_ | refine ldA_a ?_ | refine ldS_a ?_ | refine ldNS_a ?_ | refine rdA_s ?_ | refine rd1_s ?_ | refine drew_a fun w1 H1 => ?_ | refine st_a fun w1 H1 => ?_ | refine stA_a fun w1 H1 => ?_ | refine lenT_a ?_ | refine lenO_a ?_ | refine ixT_a ?_ | refine ixO_a ?_ | fail)
    exact hk2 (m2 - 1) _ _ _ _ _ _ (by omega) ⟨j + 1, s', cs', rfl, rfl, rfl, rfl, rfl, by omega, hs', Hp.re (by assumption)⟩
  · rw [if_neg hc, List.append_nil] at hsc
    rw [decide_eq_false hc]
    repeat (first | simp only [cI_enc, cE_enc, cN_enc, W0] | refine lss_a ?_ | refine lss_b ?_ | refine gtr_a ?_ | refine gtr_b ?_ | refine geq_a ?_ | refine geq_b ?_ | refine leq_a ?_ | refine leq_b ?_ | refine eql_a ?_ | refine eql_b ?_ | refine neq_a ?_ | refine neq_b ?_ | refine add_a ?_ | refine sub_a ?_ | refine ld_a ?_ | refine ldA_a ?_ | refine ldS_a ?_ | refine ldNS_a ?_ | refine rdA_s ?_ | refine rd1_s ?_ | refine drew_a fun w1 H1 => ?_ | refine st_a fun w1 H1 => ?_ | refine stA_a fun w1 H1 => ?_ | refine lenT_a ?_ | refine lenO_a ?_ | refine ixT_a ?_ | refine ixO_a ?_ | fail)
    try unfold F27_j10
    repeat (first | simp only [cI_enc, cE_enc, cN_enc, W0] | refine lss_a ?_ | refine lss_b ?_ | refine gtr_a ?_ | refine gtr_b ?_ | refine geq_a ?_ | refine geq_b ?_ | refine leq_a ?_ | refine leq_b ?_ | refine eql_a ?_ | refine eql_b ?_ | refine neq_a ?_ | refine neq_b ?_ | refine add_a ?_ | refine sub_a ?_ | refine ld_a ?_ | refine ldA_a ?_ | refine ldS_a ?_ | refine ldNS_a ?_ | refine rdA_s ?_ | refine rd1_s ?_ | refine drew_a fun w1 H1 => ?_ | refine st_a fun w1 H1 => ?_ | refine stA_a fun w1 H1 => ?_ | refine lenT_a ?_ | refine lenO_a ?_ | refine ixT_a ?_ | refine ixO_a ?_ | fail)
    exact hk2 (m2 - 1) _ _ _ _ _ _ (by omega) ⟨j + 1, s, cs, rfl, rfl, rfl, rfl, rfl, by omega, by rw [hsc]; exact hs, Hp.re (by assumption)⟩
end
end Go.Proofs.Ytagcifbfokneoaa.Den
end

section
set_option linter.unusedVariables false
set_option linter.unusedSimpArgs false
set_option maxRecDepth 8000
set_option maxHeartbeats 1000000
namespace Go.Proofs.Ytagcifbfokneoaa.Den
open Go Go.RowKit
/-- A call of a tracker as Lean data: number, thread, priority, the slice's value. -/
structure AV where
  d : Nat
  t : Int
  p : Int
  s : Value
  ok : scalar s = true
def cA : Cod AV := ⟨4, fun a => [.int .u8 (a.d : Int), I a.t, I a.p, a.s], fun _ => rfl, by intro a c hc; simp at hc; rcases hc with rfl | rfl | rfl | rfl <;> first | rfl | exact a.ok⟩
section
variable {w w' w0 : World} {L L' F cs cs2 cs3 cb ce C : List Chunk} {s s2 sb se sd : Value} {K : VK} {R : ER} {base base' eff : List Int} {E E' : List (Nat × Nat)} {es : List (Int × Int)} {bt el : Nat} {code : Int}
/-- After a call: some state, whose effective priorities the tracker keeps. -/
theorem OpQ.some {e : Ending} (h : OpQ el (PTr bt) code base E eff base' E' w0 L e w) (hio : IsEff base E eff) (hS : St base E) (hS' : code = 0 → St base' E') (hlen : base'.length = base.length) :
    ∃ v base2 E2 eff2 C2, e = .returned v ∧ St base2 E2 ∧ IsEff base2 E2 eff2 ∧ base2.length = base.length ∧ PTr bt base2 E2 eff2 C2 ∧ Hp w0 w (C2 ++ L) := by
  rcases h with ⟨h0, rfl, C, hC, H⟩ | ⟨h0, s, cs, now, C, rfl, hio', hcs, hC, H⟩
  · exact ⟨_, base, E, eff, C, rfl, hS, hio, rfl, hC, H⟩
  · exact ⟨_, base', E', now, C, rfl, hS' h0, hio', hlen, hC, H.re⟩
theorem toN_ofN (l : List (Nat × Nat)) : (l.map ofN).map toN = l := by
  rw [List.map_map]
  conv => rhs; rw [← List.map_id l]
  exact List.map_congr_left fun x _ => by simp [ofN, toN]
theorem chk_st (hS : St base E) : chk base (E.map ofN) = 0 := by
  have h1 := hS.len
  have h2 := hS.el
  have hnd : (E.map ofN).Nodup := hS.nd.map ofN fun a b h e => h (ofN_inj e)
  unfold chk
  rw [if_neg (by rw [List.length_map]; omega), if_neg, if_neg, if_neg (not_not_intro hnd)]
  · rintro ⟨e, he, h⟩
    obtain ⟨x, hx, rfl⟩ := List.mem_map.1 he
    have := hS.va x hx
    unfold inR at h
    rw [decide_eq_false_iff_not, decide_eq_false_iff_not] at h
    simp only [ofN] at h
    omega
  · rintro ⟨b, hb, h⟩
    have := hS.rg b hb
    omega
theorem St.perm (hS : St base E) (hp : E'.Perm E) : St base E' :=
  ⟨hS.len, hS.rg, fun e he => hS.va e (hp.mem_iff.1 he), hp.nodup_iff.2 hS.nd, by rw [hp.length_eq]; exact hS.el⟩
theorem agr_j9 {k1 : V4} {x1 : Value} {base0 : List Int} {i : Nat} (h0 : TR cI w0 cs s base0) (m1 : ∀ c ∈ cs, c ∈ L) (hS : St base E) (hio : IsEff base E eff) (hlen : base.length = base0.length) (hT : PTr bt base E eff C) (H : Hp w0 w (C ++ L)) (hil : i < 1000)
    (hk : ∀ w, Hp w0 w (C ++ L) → k1 s x1 (ptr bt 0) (I ((i : Int) + 1)) w) : F10_j9 (fun x w' => x = .returned (.bool true) ∧ Hp w0 w' L) k1 s x1 (ptr bt 0) (I i) w := by
  unfold F10_j9
  refine cal_h (Graph_spec hS hT H) ?_
  rintro _ w ⟨sb', s', cb', c', E', rfl, hb', hs', hp, hinc, H⟩
  have q1 := hb'.sc
  have q2 := hs'.sc
  have hbl := hS.len
  simp only [ret_k]
  refine al_m (ys := [.slice none 0 0, .slice none 0 0]) (by assumption) (by kernel_rfl) fun w b H => ?_
  repeat (first | simp only [cI_enc, cE_enc, cN_enc, W0] | refine lss_a ?_ | refine lss_b ?_ | refine gtr_a ?_ | refine gtr_b ?_ | refine geq_a ?_ | refine geq_b ?_ | refine leq_a ?_ | refine leq_b ?_ | refine eql_a ?_ | refine eql_b ?_ | refine neq_a ?_ | refine neq_b ?_ | refine add_a ?_ | refine sub_a ?_ | refine ld_a ?_ | refine ldA_a ?_ | refine ldS_a ?_ | refine ldNS_a ?_ | refine rdA_s ?_ | refine rd1_s ?_ | refine drew_a fun w1 H1 => ?_ | refine st_a fun w1 H1 => ?_ | refine stA_a fun w1 H1 => ?_ | refine lenT_a ?_ | refine lenO_a ?_ | refine ixT_a ?_ | refine ixO_a ?_ | fail)
  refine cal_h (Effective_spec hb'.tr (ofCN hs'.tr) (by assumption) csub csub) ?_
  have hc := chk_st (hS.perm hp)
  rintro _ w (⟨he, _⟩ | ⟨_, so, co, out, rfl, H, ho, hio2⟩)
  · exact absurd hc he
  rw [toN_ofN] at hio2
  obtain rfl : eff = out := hio.unique hio2 fun e => hp.mem_iff.symm
  have hel := hio.len
  repeat (first | simp only [cI_enc, cE_enc, cN_enc, W0] | refine lss_a ?_ | refine lss_b ?_ | refine gtr_a ?_ | refine gtr_b ?_ | refine geq_a ?_ | refine geq_b ?_ | refine leq_a ?_ | refine leq_b ?_ | refine eql_a ?_ | refine eql_b ?_ | refine neq_a ?_ | refine neq_b ?_ | refine add_a ?_ | refine sub_a ?_ | refine ld_a ?_ | refine ldA_a ?_ | refine ldS_a ?_ | refine ldNS_a ?_ | refine rdA_s ?_ | refine rd1_s ?_ | refine drew_a fun w1 H1 => ?_ | refine st_a fun w1 H1 => ?_ | refine stA_a fun w1 H1 => ?_ | refine lenT_a ?_ | refine lenO_a ?_ | refine ixT_a ?_ | refine ixO_a ?_ | fail)
  unfold F10_j10 F10_j11
  refine loop7 (F10_l1_succ _ _) (fun m x0 x1' x5 x7 x9 x10 x12 w => ∃ j : Nat, x0 = s ∧ x1' = x1 ∧ x5 = ptr bt 0 ∧ x7 = I i ∧ x9 = ptr b 0 ∧ x10 = so ∧ x12 = I j ∧ m + j = base.length ∧ Hp w0 w (C ++ (⟨b, 25, [sb', s']⟩ :: (co ++ (cb' ++ L))))) ?_ (m := base.length)
    ⟨0, rfl, rfl, rfl, rfl, rfl, rfl, rfl, by omega, Hp.re (by assumption)⟩
  clear H
  rintro m k x0 x1' x5 x7 x9 x10 x12 w ⟨j, rfl, rfl, rfl, rfl, rfl, rfl, rfl, hm, H⟩ hk'
  unfold F10_b2
  by_cases hj : j < base.length
  rotate_left
  · repeat (first | simp only [cI_enc, cE_enc, cN_enc, W0] | refine lss_a ?_ | refine lss_b ?_ | refine gtr_a ?_ | refine gtr_b ?_ | refine geq_a ?_ | refine geq_b ?_ | refine leq_a ?_ | refine leq_b ?_ | refine eql_a ?_ | refine eql_b ?_ | refine neq_a ?_ | refine neq_b ?_ | refine add_a ?_ | refine sub_a ?_ | refine ld_a ?_ | refine ldA_a ?_ | refine ldS_a ?_ | refine ldNS_a ?_ | refine rdA_s ?_ | refine rd1_s ?_ | refine drew_a fun w1 H1 => ?_ | refine st_a fun w1 H1 => ?_ | refine stA_a fun w1 H1 => ?_ | refine lenT_a ?_ | refine lenO_a ?_ | refine ixT_a ?_ | refine ixO_a ?_ | fail)
    exact hk _ (Hp.re (by assumption))
  have hx : eff[j]? = some (gt eff j) := gt_some (by omega)
  have hy : base[j]? = some (gt base j) := gt_some (by omega)
  have hge := hio.ge j hj
  repeat (first | simp only [cI_enc, cE_enc, cN_enc, W0] | refine lss_a ?_ | refine lss_b ?_ | refine gtr_a ?_ | refine gtr_b ?_ | refine geq_a ?_ | refine geq_b ?_ | refine leq_a ?_ | refine leq_b ?_ | refine eql_a ?_ | refine eql_b ?_ | refine neq_a ?_ | refine neq_b ?_ | refine add_a ?_ | refine sub_a ?_ | refine ld_a ?_ | refine ldA_a ?_ | refine ldS_a ?_ | refine ldNS_a ?_ | refine rdA_s ?_ | refine rd1_s ?_ | refine drew_a fun w1 H1 => ?_ | refine st_a fun w1 H1 => ?_ | refine stA_a fun w1 H1 => ?_ | refine lenT_a ?_ | refine lenO_a ?_ | refine ixT_a ?_ | refine ixO_a ?_ | fail)
  try unfold F10_j12
  refine cal_h (effC_spec (t := (j : Int)) hel hT (by assumption)) ?_
  rw [inR, decide_eq_true (by omega), if_pos rfl]
  rintro _ w ⟨rfl, H⟩
  simp only [Int.toNat_natCast]
  repeat (first | simp only [cI_enc, cE_enc, cN_enc, W0] | refine lss_a ?_ | refine lss_b ?_ | refine gtr_a ?_ | refine gtr_b ?_ | refine geq_a ?_ | refine geq_b ?_ | refine leq_a ?_ | refine leq_b ?_ | refine eql_a ?_ | refine eql_b ?_ | refine neq_a ?_ | refine neq_b ?_ | refine add_a ?_ | refine sub_a ?_ | refine ld_a ?_ | refine ldA_a ?_ | refine ldS_a ?_ | refine ldNS_a ?_ | refine rdA_s ?_ | refine rd1_s ?_ | refine drew_a fun w1 H1 => ?_ | refine st_a fun w1 H1 => ?_ | refine stA_a fun w1 H1 => ?_ | refine lenT_a ?_ | refine lenO_a ?_ | refine ixT_a ?_ | refine ixO_a ?_ | fail)
  exact hk' (m - 1) _ _ _ _ _ _ _ _ (by omega) ⟨j + 1, rfl, rfl, rfl, rfl, rfl, rfl, rfl, by omega, Hp.re (by assumption)⟩
end
end Go.Proofs.Ytagcifbfokneoaa.Den
end

section
set_option linter.unusedVariables false
set_option linter.unusedSimpArgs false
set_option maxRecDepth 8000
set_option maxHeartbeats 1000000
namespace Go.Proofs.Ytagcifbfokneoaa.Den
open Go Go.RowKit
theorem rem6' (n : Nat) : bin .rem (.int .u8 (n : Int)) (.int .u8 6) = some (.int .u8 ((n % 6 : Nat) : Int)) := by
  rw [bin_rem (by decide)]; rfl
section
variable {w w' w0 : World} {L L' F cs cs2 cs3 cb ce C : List Chunk} {s s2 sb se sd : Value} {K : VK} {R : ER} {base base' eff : List Int} {E E' : List (Nat × Nat)} {es : List (Int × Int)} {bt el : Nat} {code : Int} {acts : List AV} {a : AV}
theorem agr_j8 {k1 : V4} {x1 : Value} {base0 : List Int} {i : Nat} (h0 : TR cI w0 cs s base0) (m1 : ∀ c ∈ cs, c ∈ L) (ha : TR cA w0 cs2 x1 acts) (m2 : ∀ c ∈ cs2, c ∈ L) (hx : acts[i]? = some a) (he : TR cE w0 cs3 a.s es) (m3 : ∀ c ∈ cs3, c ∈ L)
    (hS : St base E) (hio : IsEff base E eff) (hlen : base.length = base0.length) (hT : PTr bt base E eff C) (H : Hp w0 w (C ++ L)) (hil : i < 1000)
    (hk : ∀ base2 E2 eff2 C2 w, St base2 E2 → IsEff base2 E2 eff2 → base2.length = base0.length → PTr bt base2 E2 eff2 C2 → Hp w0 w (C2 ++ L) → k1 s x1 (ptr bt 0) (I ((i : Int) + 1)) w) :
    F10_j8 (fun x w' => x = .returned (.bool true) ∧ Hp w0 w' L) k1 s x1 (ptr bt 0) (I i) w := by
  have hel := hio.len
  have nx : ∀ {w : World} {b : Nat} {e : Ending} {code : Int} {base' : List Int} {E' : List (Nat × Nat)}, OpQ 103 (PTr bt) code base E eff base' E' w0 (⟨b, 46, [.int .u8 (a.d : Int), I a.t, I a.p, a.s]⟩ :: L) e w → (code = 0 → St base' E') → base'.length = base.length →
      retK (fun x w' => x = .returned (.bool true) ∧ Hp w0 w' L) (fun _ => F10_j9 (fun x w' => x = .returned (.bool true) ∧ Hp w0 w' L) k1 s x1 (ptr bt 0) (I i)) e w := by
    intro w b e code base' E' h g1 g2
    obtain ⟨v, base2, E2, eff2, C2, rfl, hS2, hio2, hl2, hT2, H⟩ := h.some hio hS g1 g2
    rw [ret_k]
    exact agr_j9 h0 m1 hS2 hio2 (by omega) hT2 (Hp.to H (by intro f; simp only [tag_lit, I, U8, U64, ptr, List.set_cons_zero, List.set_cons_succ, List.eraseIdx_cons_zero, List.eraseIdx_cons_succ, List.map_append, List.map_cons, List.map_nil, List.sum_append, List.sum_cons, List.sum_nil]; omega)) hil fun w H => hk _ _ _ _ w hS2 hio2 (by omega) hT2 H
  unfold F10_j8
  refine ixN_t (C := cA) ha H csub hx (by decide) ?_
  refine al_m (ys := [.int .u8 0, I 0, I 0, .slice none 0 0]) (by assumption) (by kernel_rfl) fun w b H => ?_
  have q := a.ok
  rw [show cA.enc a = [.int .u8 (a.d : Int), I a.t, I a.p, a.s] from rfl]
  repeat (first | simp only [cI_enc, cE_enc, cN_enc, W0] | refine lss_a ?_ | refine lss_b ?_ | refine gtr_a ?_ | refine gtr_b ?_ | refine geq_a ?_ | refine geq_b ?_ | refine leq_a ?_ | refine leq_b ?_ | refine eql_a ?_ | refine eql_b ?_ | refine neq_a ?_ | refine neq_b ?_ | refine add_a ?_ | refine sub_a ?_ | refine ld_a ?_ | refine ldA_a ?_ | refine ldS_a ?_ | refine ldNS_a ?_ | refine rdA_s ?_ | refine rd1_s ?_ | refine drew_a fun w1 H1 => ?_ | refine st_a fun w1 H1 => ?_ | refine stA_a fun w1 H1 => ?_ | refine lenT_a ?_ | refine lenO_a ?_ | refine ixT_a ?_ | refine ixO_a ?_ | fail)
  try unfold F10_j13
  repeat (first | simp only [cI_enc, cE_enc, cN_enc, W0] | refine lss_a ?_ | refine lss_b ?_ | refine gtr_a ?_ | refine gtr_b ?_ | refine geq_a ?_ | refine geq_b ?_ | refine leq_a ?_ | refine leq_b ?_ | refine eql_a ?_ | refine eql_b ?_ | refine neq_a ?_ | refine neq_b ?_ | refine add_a ?_ | refine sub_a ?_ | refine ld_a ?_ | refine ldA_a ?_ | refine ldS_a ?_ | refine ldNS_a ?_ | refine rdA_s ?_ | refine rd1_s ?_ | refine drew_a fun w1 H1 => ?_ | refine st_a fun w1 H1 => ?_ | refine stA_a fun w1 H1 => ?_ | refine lenT_a ?_ | refine lenO_a ?_ | refine ixT_a ?_ | refine ixO_a ?_ | fail)
  refine pv_of (rem6' a.d) ?_
  have r6 : a.d % 6 < 6 := Nat.mod_lt _ (by omega)
  generalize a.d % 6 = r at r6
  try unfold F10_j14
  by_cases e2 : r = 2
  · repeat (first | simp only [cI_enc, cE_enc, cN_enc, W0] | refine lss_a ?_ | refine lss_b ?_ | refine gtr_a ?_ | refine gtr_b ?_ | refine geq_a ?_ | refine geq_b ?_ | refine leq_a ?_ | refine leq_b ?_ | refine eql_a ?_ | refine eql_b ?_ | refine neq_a ?_ | refine neq_b ?_ | refine add_a ?_ | refine sub_a ?_ | refine ld_a ?_ | refine ldA_a ?_ | refine ldS_a ?_ | refine ldNS_a ?_ | refine rdA_s ?_ | refine rd1_s ?_ | refine drew_a fun w1 H1 => ?_ | refine st_a fun w1 H1 => ?_ | refine stA_a fun w1 H1 => ?_ | refine lenT_a ?_ | refine lenO_a ?_ | refine ixT_a ?_ | refine ixO_a ?_ | fail)
    try unfold F10_j15
    repeat (first | simp only [cI_enc, cE_enc, cN_enc, W0] | refine lss_a ?_ | refine lss_b ?_ | refine gtr_a ?_ | refine gtr_b ?_ | refine geq_a ?_ | refine geq_b ?_ | refine leq_a ?_ | refine leq_b ?_ | refine eql_a ?_ | refine eql_b ?_ | refine neq_a ?_ | refine neq_b ?_ | refine add_a ?_ | refine sub_a ?_ | refine ld_a ?_ | refine ldA_a ?_ | refine ldS_a ?_ | refine ldNS_a ?_ | refine rdA_s ?_ | refine rd1_s ?_ | refine drew_a fun w1 H1 => ?_ | refine st_a fun w1 H1 => ?_ | refine stA_a fun w1 H1 => ?_ | refine lenT_a ?_ | refine lenO_a ?_ | refine ixT_a ?_ | refine ixO_a ?_ | fail)
    refine pv_of bld2v ?_
    refine cal_h (rem_spec (e := (a.t, a.p)) (L := ⟨b, 46, [.int .u8 (a.d : Int), I a.t, I a.p, a.s]⟩ :: L) hS hel hT (Hp.re (by assumption))) ?_
    intro e w h
    exact nx h (fun _ => hS.rem) rfl
  repeat (first | simp only [cI_enc, cE_enc, cN_enc, W0] | refine lss_a ?_ | refine lss_b ?_ | refine gtr_a ?_ | refine gtr_b ?_ | refine geq_a ?_ | refine geq_b ?_ | refine leq_a ?_ | refine leq_b ?_ | refine eql_a ?_ | refine eql_b ?_ | refine neq_a ?_ | refine neq_b ?_ | refine add_a ?_ | refine sub_a ?_ | refine ld_a ?_ | refine ldA_a ?_ | refine ldS_a ?_ | refine ldNS_a ?_ | refine rdA_s ?_ | refine rd1_s ?_ | refine drew_a fun w1 H1 => ?_ | refine st_a fun w1 H1 => ?_ | refine stA_a fun w1 H1 => ?_ | refine lenT_a ?_ | refine lenO_a ?_ | refine ixT_a ?_ | refine ixO_a ?_ | fail)
  try unfold F10_j15
  repeat (first | simp only [cI_enc, cE_enc, cN_enc, W0] | refine lss_a ?_ | refine lss_b ?_ | refine gtr_a ?_ | refine gtr_b ?_ | refine geq_a ?_ | refine geq_b ?_ | refine leq_a ?_ | refine leq_b ?_ | refine eql_a ?_ | refine eql_b ?_ | refine neq_a ?_ | refine neq_b ?_ | refine add_a ?_ | refine sub_a ?_ | refine ld_a ?_ | refine ldA_a ?_ | refine ldS_a ?_ | refine ldNS_a ?_ | refine rdA_s ?_ | refine rd1_s ?_ | refine drew_a fun w1 H1 => ?_ | refine st_a fun w1 H1 => ?_ | refine stA_a fun w1 H1 => ?_ | refine lenT_a ?_ | refine lenO_a ?_ | refine ixT_a ?_ | refine ixO_a ?_ | fail)
  try unfold F10_j16
  by_cases e3 : r = 3
  · repeat (first | simp only [cI_enc, cE_enc, cN_enc, W0] | refine lss_a ?_ | refine lss_b ?_ | refine gtr_a ?_ | refine gtr_b ?_ | refine geq_a ?_ | refine geq_b ?_ | refine leq_a ?_ | refine leq_b ?_ | refine eql_a ?_ | refine eql_b ?_ | refine neq_a ?_ | refine neq_b ?_ | refine add_a ?_ | refine sub_a ?_ | refine ld_a ?_ | refine ldA_a ?_ | refine ldS_a ?_ | refine ldNS_a ?_ | refine rdA_s ?_ | refine rd1_s ?_ | refine drew_a fun w1 H1 => ?_ | refine st_a fun w1 H1 => ?_ | refine stA_a fun w1 H1 => ?_ | refine lenT_a ?_ | refine lenO_a ?_ | refine ixT_a ?_ | refine ixO_a ?_ | fail)
    try unfold F10_j17
    repeat (first | simp only [cI_enc, cE_enc, cN_enc, W0] | refine lss_a ?_ | refine lss_b ?_ | refine gtr_a ?_ | refine gtr_b ?_ | refine geq_a ?_ | refine geq_b ?_ | refine leq_a ?_ | refine leq_b ?_ | refine eql_a ?_ | refine eql_b ?_ | refine neq_a ?_ | refine neq_b ?_ | refine add_a ?_ | refine sub_a ?_ | refine ld_a ?_ | refine ldA_a ?_ | refine ldS_a ?_ | refine ldNS_a ?_ | refine rdA_s ?_ | refine rd1_s ?_ | refine drew_a fun w1 H1 => ?_ | refine st_a fun w1 H1 => ?_ | refine stA_a fun w1 H1 => ?_ | refine lenT_a ?_ | refine lenO_a ?_ | refine ixT_a ?_ | refine ixO_a ?_ | fail)
    refine cal_h (set_spec (t := a.t) (p := a.p) (L := ⟨b, 46, [.int .u8 (a.d : Int), I a.t, I a.p, a.s]⟩ :: L) hS hel hT (Hp.re (by assumption))) ?_
    intro e w h
    refine nx h (fun h0 => hS.set ?_) (by rw [List.length_set])
    unfold setC at h0
    split at h0
    · rename_i g; exact g.2
    · omega
  repeat (first | simp only [cI_enc, cE_enc, cN_enc, W0] | refine lss_a ?_ | refine lss_b ?_ | refine gtr_a ?_ | refine gtr_b ?_ | refine geq_a ?_ | refine geq_b ?_ | refine leq_a ?_ | refine leq_b ?_ | refine eql_a ?_ | refine eql_b ?_ | refine neq_a ?_ | refine neq_b ?_ | refine add_a ?_ | refine sub_a ?_ | refine ld_a ?_ | refine ldA_a ?_ | refine ldS_a ?_ | refine ldNS_a ?_ | refine rdA_s ?_ | refine rd1_s ?_ | refine drew_a fun w1 H1 => ?_ | refine st_a fun w1 H1 => ?_ | refine stA_a fun w1 H1 => ?_ | refine lenT_a ?_ | refine lenO_a ?_ | refine ixT_a ?_ | refine ixO_a ?_ | fail)
  try unfold F10_j17
  repeat (first | simp only [cI_enc, cE_enc, cN_enc, W0] | refine lss_a ?_ | refine lss_b ?_ | refine gtr_a ?_ | refine gtr_b ?_ | refine geq_a ?_ | refine geq_b ?_ | refine leq_a ?_ | refine leq_b ?_ | refine eql_a ?_ | refine eql_b ?_ | refine neq_a ?_ | refine neq_b ?_ | refine add_a ?_ | refine sub_a ?_ | refine ld_a ?_ | refine ldA_a ?_ | refine ldS_a ?_ | refine ldNS_a ?_ | refine rdA_s ?_ | refine rd1_s ?_ | refine drew_a fun w1 H1 => ?_ | refine st_a fun w1 H1 => ?_ | refine stA_a fun w1 H1 => ?_ | refine lenT_a ?_ | refine lenO_a ?_ | refine ixT_a ?_ | refine ixO_a ?_ | fail)
  try unfold F10_j18
  by_cases e4 : r = 4
  · repeat (first | simp only [cI_enc, cE_enc, cN_enc, W0] | refine lss_a ?_ | refine lss_b ?_ | refine gtr_a ?_ | refine gtr_b ?_ | refine geq_a ?_ | refine geq_b ?_ | refine leq_a ?_ | refine leq_b ?_ | refine eql_a ?_ | refine eql_b ?_ | refine neq_a ?_ | refine neq_b ?_ | refine add_a ?_ | refine sub_a ?_ | refine ld_a ?_ | refine ldA_a ?_ | refine ldS_a ?_ | refine ldNS_a ?_ | refine rdA_s ?_ | refine rd1_s ?_ | refine drew_a fun w1 H1 => ?_ | refine st_a fun w1 H1 => ?_ | refine stA_a fun w1 H1 => ?_ | refine lenT_a ?_ | refine lenO_a ?_ | refine ixT_a ?_ | refine ixO_a ?_ | fail)
    refine cal_h (rpl_spec (L := ⟨b, 46, [.int .u8 (a.d : Int), I a.t, I a.p, a.s]⟩ :: L) hS he (by intro c hc; simp [m3 c hc]) hel hT (Hp.re (by assumption))) ?_
    intro e w h
    exact nx h (fun h0 => St.of h0) rfl
  repeat (first | simp only [cI_enc, cE_enc, cN_enc, W0] | refine lss_a ?_ | refine lss_b ?_ | refine gtr_a ?_ | refine gtr_b ?_ | refine geq_a ?_ | refine geq_b ?_ | refine leq_a ?_ | refine leq_b ?_ | refine eql_a ?_ | refine eql_b ?_ | refine neq_a ?_ | refine neq_b ?_ | refine add_a ?_ | refine sub_a ?_ | refine ld_a ?_ | refine ldA_a ?_ | refine ldS_a ?_ | refine ldNS_a ?_ | refine rdA_s ?_ | refine rd1_s ?_ | refine drew_a fun w1 H1 => ?_ | refine st_a fun w1 H1 => ?_ | refine stA_a fun w1 H1 => ?_ | refine lenT_a ?_ | refine lenO_a ?_ | refine ixT_a ?_ | refine ixO_a ?_ | fail)
  refine pv_of bld2v ?_
  refine cal_h (add_spec (e := (a.t, a.p)) (L := ⟨b, 46, [.int .u8 (a.d : Int), I a.t, I a.p, a.s]⟩ :: L) hS hel hT (Hp.re (by assumption))) ?_
  intro e w h
  refine nx h (fun h0 => ?_) rfl
  unfold addC at h0
  split at h0
  · omega
  · rename_i g1
    split at h0
    · omega
    · rename_i g2
      split at h0
      · omega
      · rename_i g3
        have g1 := Classical.not_not.1 g1
        exact hS.add g1.1 g1.2 g2 (by omega)
theorem Agrees_law {x1 : Value} {base0 : List Int} (h0 : TR cI w0 cs s base0) (m1 : ∀ c ∈ cs, c ∈ L) (ha : TR cA w0 cs2 x1 acts) (m2 : ∀ c ∈ cs2, c ∈ L) (hes : ∀ a ∈ acts, ∃ es, TR cE w0 [] a.s es) (H : Hp w0 w L) :
    Calls Pg 10 ⟨[s, x1]⟩ w fun x w' => x = .returned (.bool true) ∧ Hp w0 w' L := by
  apply F10_calls
  unfold F10
  refine cal_h (New_spec h0 H m1) ?_
  rintro _ w (⟨hc, rfl, H⟩ | ⟨hc, bt, C, rfl, hT, H⟩)
  · by_cases g1 : 30 < base0.length
    · repeat (first | simp only [cI_enc, cE_enc, cN_enc, W0] | refine lss_a ?_ | refine lss_b ?_ | refine gtr_a ?_ | refine gtr_b ?_ | refine geq_a ?_ | refine geq_b ?_ | refine leq_a ?_ | refine leq_b ?_ | refine eql_a ?_ | refine eql_b ?_ | refine neq_a ?_ | refine neq_b ?_ | refine add_a ?_ | refine sub_a ?_ | refine ld_a ?_ | refine ldA_a ?_ | refine ldS_a ?_ | refine ldNS_a ?_ | refine rdA_s ?_ | refine rd1_s ?_ | refine drew_a fun w1 H1 => ?_ | refine st_a fun w1 H1 => ?_ | refine stA_a fun w1 H1 => ?_ | refine lenT_a ?_ | refine lenO_a ?_ | refine ixT_a ?_ | refine ixO_a ?_ | fail)
      refine cal_h (awake_spec (by assumption)) ?_
      rintro _ w ⟨rfl, H⟩
      exact ⟨rfl, H⟩
    · by_cases g2 : 40 < acts.length
      · repeat (first | simp only [cI_enc, cE_enc, cN_enc, W0] | refine lss_a ?_ | refine lss_b ?_ | refine gtr_a ?_ | refine gtr_b ?_ | refine geq_a ?_ | refine geq_b ?_ | refine leq_a ?_ | refine leq_b ?_ | refine eql_a ?_ | refine eql_b ?_ | refine neq_a ?_ | refine neq_b ?_ | refine add_a ?_ | refine sub_a ?_ | refine ld_a ?_ | refine ldA_a ?_ | refine ldS_a ?_ | refine ldNS_a ?_ | refine rdA_s ?_ | refine rd1_s ?_ | refine drew_a fun w1 H1 => ?_ | refine st_a fun w1 H1 => ?_ | refine stA_a fun w1 H1 => ?_ | refine lenT_a ?_ | refine lenO_a ?_ | refine ixT_a ?_ | refine ixO_a ?_ | fail)
        refine cal_h (awake_spec (by assumption)) ?_
        rintro _ w ⟨rfl, H⟩
        exact ⟨rfl, H⟩
      · repeat (first | simp only [cI_enc, cE_enc, cN_enc, W0] | refine lss_a ?_ | refine lss_b ?_ | refine gtr_a ?_ | refine gtr_b ?_ | refine geq_a ?_ | refine geq_b ?_ | refine leq_a ?_ | refine leq_b ?_ | refine eql_a ?_ | refine eql_b ?_ | refine neq_a ?_ | refine neq_b ?_ | refine add_a ?_ | refine sub_a ?_ | refine ld_a ?_ | refine ldA_a ?_ | refine ldS_a ?_ | refine ldNS_a ?_ | refine rdA_s ?_ | refine rd1_s ?_ | refine drew_a fun w1 H1 => ?_ | refine st_a fun w1 H1 => ?_ | refine stA_a fun w1 H1 => ?_ | refine lenT_a ?_ | refine lenO_a ?_ | refine ixT_a ?_ | refine ixO_a ?_ | fail)
        refine cal_h (awake_spec (by assumption)) ?_
        rintro _ w ⟨rfl, H⟩
        exact ⟨rfl, H⟩
  have aw : ∀ {w : World}, Hp w0 w (C ++ L) → cal Pg (fun x w' => x = .returned (.bool true) ∧ Hp w0 w' L) 12 ⟨[]⟩ (fun v82 => fun w' => Ending.returned v82 = .returned (.bool true) ∧ Hp w0 w' L) w := by
    intro w H
    refine cal_h (awake_spec H) ?_
    rintro _ w ⟨rfl, H⟩
    exact ⟨rfl, Hp.to H (by intro f; simp only [tag_lit, I, U8, U64, ptr, List.set_cons_zero, List.set_cons_succ, List.eraseIdx_cons_zero, List.eraseIdx_cons_succ, List.map_append, List.map_cons, List.map_nil, List.sum_append, List.sum_cons, List.sum_nil]; omega)⟩
  by_cases g1 : 30 < base0.length
  · repeat (first | simp only [cI_enc, cE_enc, cN_enc, W0] | refine lss_a ?_ | refine lss_b ?_ | refine gtr_a ?_ | refine gtr_b ?_ | refine geq_a ?_ | refine geq_b ?_ | refine leq_a ?_ | refine leq_b ?_ | refine eql_a ?_ | refine eql_b ?_ | refine neq_a ?_ | refine neq_b ?_ | refine add_a ?_ | refine sub_a ?_ | refine ld_a ?_ | refine ldA_a ?_ | refine ldS_a ?_ | refine ldNS_a ?_ | refine rdA_s ?_ | refine rd1_s ?_ | refine drew_a fun w1 H1 => ?_ | refine st_a fun w1 H1 => ?_ | refine stA_a fun w1 H1 => ?_ | refine lenT_a ?_ | refine lenO_a ?_ | refine ixT_a ?_ | refine ixO_a ?_ | fail)
    exact aw (by assumption)
  by_cases g2 : 40 < acts.length
  · repeat (first | simp only [cI_enc, cE_enc, cN_enc, W0] | refine lss_a ?_ | refine lss_b ?_ | refine gtr_a ?_ | refine gtr_b ?_ | refine geq_a ?_ | refine geq_b ?_ | refine leq_a ?_ | refine leq_b ?_ | refine eql_a ?_ | refine eql_b ?_ | refine neq_a ?_ | refine neq_b ?_ | refine add_a ?_ | refine sub_a ?_ | refine ld_a ?_ | refine ldA_a ?_ | refine ldS_a ?_ | refine ldNS_a ?_ | refine rdA_s ?_ | refine rd1_s ?_ | refine drew_a fun w1 H1 => ?_ | refine st_a fun w1 H1 => ?_ | refine stA_a fun w1 H1 => ?_ | refine lenT_a ?_ | refine lenO_a ?_ | refine ixT_a ?_ | refine ixO_a ?_ | fail)
    exact aw (by assumption)
  repeat (first | simp only [cI_enc, cE_enc, cN_enc, W0] | refine lss_a ?_ | refine lss_b ?_ | refine gtr_a ?_ | refine gtr_b ?_ | refine geq_a ?_ | refine geq_b ?_ | refine leq_a ?_ | refine leq_b ?_ | refine eql_a ?_ | refine eql_b ?_ | refine neq_a ?_ | refine neq_b ?_ | refine add_a ?_ | refine sub_a ?_ | refine ld_a ?_ | refine ldA_a ?_ | refine ldS_a ?_ | refine ldNS_a ?_ | refine rdA_s ?_ | refine rd1_s ?_ | refine drew_a fun w1 H1 => ?_ | refine st_a fun w1 H1 => ?_ | refine stA_a fun w1 H1 => ?_ | refine lenT_a ?_ | refine lenO_a ?_ | refine ixT_a ?_ | refine ixO_a ?_ | fail)
  try unfold F10_j1 F10_j3 F10_j4
  have hS0 : St base0 [] := St.of (es := []) hc
  refine loop4 (F10_l2_succ _) (fun m x0 x1' x5 x7 w => ∃ (i : Nat) (base : List Int) (E : List (Nat × Nat)) (eff : List Int) (C : List Chunk), x0 = s ∧ x1' = x1 ∧ x5 = ptr bt 0 ∧ x7 = I i ∧ m + i = acts.length ∧ St base E ∧ IsEff base E eff ∧ base.length = base0.length ∧ PTr bt base E eff C ∧ Hp w0 w (C ++ L)) ?_ (m := acts.length)
    ⟨0, base0, [], base0, C, rfl, rfl, rfl, rfl, by omega, hS0, ⟨rfl, fun _ _ => Int.le_refl _, by simp, fun i hi => ⟨i, hi, .refl _, rfl⟩⟩, rfl, hT, by assumption⟩
  clear hT H aw
  rintro m k x0 x1' x5 x7 w ⟨i, base, E, eff, C, rfl, rfl, rfl, rfl, hm, hS, hio, hlen, hT, H⟩ hk
  unfold F10_b1
  by_cases hi : i < acts.length
  rotate_left
  · repeat (first | simp only [cI_enc, cE_enc, cN_enc, W0] | refine lss_a ?_ | refine lss_b ?_ | refine gtr_a ?_ | refine gtr_b ?_ | refine geq_a ?_ | refine geq_b ?_ | refine leq_a ?_ | refine leq_b ?_ | refine eql_a ?_ | refine eql_b ?_ | refine neq_a ?_ | refine neq_b ?_ | refine add_a ?_ | refine sub_a ?_ | refine ld_a ?_ | refine ldA_a ?_ | refine ldS_a ?_ | refine ldNS_a ?_ | refine rdA_s ?_ | refine rd1_s ?_ | refine drew_a fun w1 H1 => ?_ | refine st_a fun w1 H1 => ?_ | refine stA_a fun w1 H1 => ?_ | refine lenT_a ?_ | refine lenO_a ?_ | refine ixT_a ?_ | refine ixO_a ?_ | fail)
    try unfold F10_j2
    refine cal_h (awake_spec (by assumption)) ?_
    rintro _ w ⟨rfl, H⟩
    exact ⟨rfl, Hp.re (by assumption)⟩
  have hx : acts[i]? = some acts[i] := List.getElem?_eq_getElem hi
  obtain ⟨es, he⟩ := hes acts[i] (List.getElem_mem hi)
  generalize acts[i] = a at hx he
  repeat (first | simp only [cI_enc, cE_enc, cN_enc, W0] | refine lss_a ?_ | refine lss_b ?_ | refine gtr_a ?_ | refine gtr_b ?_ | refine geq_a ?_ | refine geq_b ?_ | refine leq_a ?_ | refine leq_b ?_ | refine eql_a ?_ | refine eql_b ?_ | refine neq_a ?_ | refine neq_b ?_ | refine add_a ?_ | refine sub_a ?_ | refine ld_a ?_ | refine ldA_a ?_ | refine ldS_a ?_ | refine ldNS_a ?_ | refine rdA_s ?_ | refine rd1_s ?_ | refine drew_a fun w1 H1 => ?_ | refine st_a fun w1 H1 => ?_ | refine stA_a fun w1 H1 => ?_ | refine lenT_a ?_ | refine lenO_a ?_ | refine ixT_a ?_ | refine ixO_a ?_ | fail)
  try unfold F10_j5 F10_j7
  refine ixF_t (C := cA) (f := 3) (v := a.s) ha (by assumption) csub hx rfl ?_
  by_cases g3 : 60 < es.length
  · repeat (first | simp only [cI_enc, cE_enc, cN_enc, W0] | refine lss_a ?_ | refine lss_b ?_ | refine gtr_a ?_ | refine gtr_b ?_ | refine geq_a ?_ | refine geq_b ?_ | refine leq_a ?_ | refine leq_b ?_ | refine eql_a ?_ | refine eql_b ?_ | refine neq_a ?_ | refine neq_b ?_ | refine add_a ?_ | refine sub_a ?_ | refine ld_a ?_ | refine ldA_a ?_ | refine ldS_a ?_ | refine ldNS_a ?_ | refine rdA_s ?_ | refine rd1_s ?_ | refine drew_a fun w1 H1 => ?_ | refine st_a fun w1 H1 => ?_ | refine stA_a fun w1 H1 => ?_ | refine lenT_a ?_ | refine lenO_a ?_ | refine ixT_a ?_ | refine ixO_a ?_ | fail)
    refine cal_h (awake_spec (by assumption)) ?_
    rintro _ w ⟨rfl, H⟩
    exact ⟨rfl, Hp.re (by assumption)⟩
  repeat (first | simp only [cI_enc, cE_enc, cN_enc, W0] | refine lss_a ?_ | refine lss_b ?_ | refine gtr_a ?_ | refine gtr_b ?_ | refine geq_a ?_ | refine geq_b ?_ | refine leq_a ?_ | refine leq_b ?_ | refine eql_a ?_ | refine eql_b ?_ | refine neq_a ?_ | refine neq_b ?_ | refine add_a ?_ | refine sub_a ?_ | refine ld_a ?_ | refine ldA_a ?_ | refine ldS_a ?_ | refine ldNS_a ?_ | refine rdA_s ?_ | refine rd1_s ?_ | refine drew_a fun w1 H1 => ?_ | refine st_a fun w1 H1 => ?_ | refine stA_a fun w1 H1 => ?_ | refine lenT_a ?_ | refine lenO_a ?_ | refine ixT_a ?_ | refine ixO_a ?_ | fail)
  refine agr_j8 h0 m1 ha m2 hx he (by simp) hS hio hlen hT (by assumption) (by omega) ?_
  intro base2 E2 eff2 C2 w g1 g2 g3 g4 H
  exact hk (m - 1) _ _ _ _ _ (by omega) ⟨i + 1, base2, E2, eff2, C2, rfl, rfl, rfl, rfl, by omega, g1, g2, g3, g4, H⟩
end
end Go.Proofs.Ytagcifbfokneoaa.Den
end

section
set_option linter.unusedVariables false
set_option linter.unusedSimpArgs false
set_option maxRecDepth 8000
set_option maxHeartbeats 1000000
namespace Go.Proofs.Ytagcifbfokneoaa.Den
open Go Go.RowKit
section
variable {w w' w0 : World} {L L' F cs cs2 cs3 cb ce C D X : List Chunk} {s s2 sb se sd sl : Value} {K : VK} {R : ER} {base base' eff : List Int} {E E' : List (Nat × Nat)} {es : List (Int × Int)} {bt br el : Nat} {code : Int}
theorem OpQ.all {T : List Int → List (Nat × Nat) → List Int → List Chunk → Prop} {e : Ending} (h : OpQ el T code base E eff base' E' w0 L e w) :
    ∃ s cs base2 E2 eff2 C2 l, e = .returned (.tuple ⟨[s, I code]⟩) ∧ TS cE el s l cs ∧ T base2 E2 eff2 C2 ∧ Hp w0 w (C2 ++ (cs ++ L)) ∧
      ((code ≠ 0 ∧ base2 = base ∧ E2 = E ∧ eff2 = eff ∧ l = []) ∨ (code = 0 ∧ base2 = base' ∧ E2 = E' ∧ IsEff base' E' eff2 ∧ l = dif eff eff2 base'.length)) := by
  rcases h with ⟨h0, rfl, C, hC, H⟩ | ⟨h0, s, cs, now, C, rfl, hio', hcs, hC, H⟩
  · exact ⟨_, [], base, E, eff, C, [], rfl, TS.nil, hC, H.re, .inl ⟨h0, rfl, rfl, rfl, rfl⟩⟩
  · subst h0
    exact ⟨s, cs, base', E', now, C, _, rfl, hcs, hC, H, .inr ⟨rfl, rfl, rfl, hio', rfl⟩⟩
/-- What a step leaves. -/
def StepQ (bt br : Nat) (base : List Int) (w0 : World) (L : List Chunk) : ER := fun x w' => x = .returned (.bool true) ∧ ∃ base2 E2 eff2 C2 D2, St base2 E2 ∧ IsEff base2 E2 eff2 ∧ base2.length = base.length ∧ PTr bt base2 E2 eff2 C2 ∧ RTr br base2 E2 eff2 D2 ∧ Hp w0 w' (C2 ++ (D2 ++ L))
theorem both_fin {base2 base3 eff2 eff3 : List Int} {E2 E3 : List (Nat × Nat)} {C2 C3 : List Chunk} {l2 l3 : List (Int × Int)} (hS : St base E) (hio : IsEff base E eff) (hS' : code = 0 → St base' E') (hlen : base'.length = base.length)
    (hC : PTr bt base2 E2 eff2 C2) (hD : RTr br base3 E3 eff3 C3) (h1 : (code ≠ 0 ∧ base2 = base ∧ E2 = E ∧ eff2 = eff ∧ l2 = []) ∨ (code = 0 ∧ base2 = base' ∧ E2 = E' ∧ IsEff base' E' eff2 ∧ l2 = dif eff eff2 base'.length))
    (h2 : (code ≠ 0 ∧ base3 = base ∧ E3 = E ∧ eff3 = eff ∧ l3 = []) ∨ (code = 0 ∧ base3 = base' ∧ E3 = E' ∧ IsEff base' E' eff3 ∧ l3 = dif eff eff3 base'.length)) :
    l2 = l3 ∧ (l2.length ≤ base.length) ∧ ∀ w, Hp w0 w (C2 ++ (C3 ++ L)) → ∃ base2 E2 eff2 C2 D2, St base2 E2 ∧ IsEff base2 E2 eff2 ∧ base2.length = base.length ∧ PTr bt base2 E2 eff2 C2 ∧ RTr br base2 E2 eff2 D2 ∧ Hp w0 w (C2 ++ (D2 ++ L)) := by
  rcases h1 with ⟨h0, rfl, rfl, rfl, rfl⟩ | ⟨h0, rfl, rfl, hi2, rfl⟩
  · rcases h2 with ⟨_, rfl, rfl, rfl, rfl⟩ | ⟨h0', _⟩
    · exact ⟨rfl, by simp, fun w H => ⟨_, _, _, _, _, hS, hio, rfl, hC, hD, H⟩⟩
    · exact absurd h0' h0
  · rcases h2 with ⟨h0', _⟩ | ⟨_, rfl, rfl, hi3, rfl⟩
    · exact absurd h0 h0'
    · obtain rfl : eff2 = eff3 := hi2.unique hi3 fun e => Iff.rfl
      exact ⟨rfl, Nat.le_trans dif_len (Nat.le_of_eq hlen), fun w H => ⟨_, _, _, _, _, hS' h0, hi2, hlen, hC, hD, H⟩⟩
theorem add_ok {e : Int × Int} (hS : St base E) (h0 : addC base E e = 0) : St base (E ++ [toN e]) := by
  unfold addC at h0
  split at h0
  · omega
  · rename_i g1
    split at h0
    · omega
    · rename_i g2
      split at h0
      · omega
      · rename_i g3
        have g1 := Classical.not_not.1 g1
        exact hS.add g1.1 g1.2 g2 (by omega)
theorem set_ok {t p : Int} (hS : St base E) (h0 : setC base t p = 0) : St (base.set t.toNat p) E := by
  refine hS.set ?_
  unfold setC at h0
  split at h0
  · rename_i g; exact g.2
  · omega
theorem step_spec {d : Nat} {t p : Int} (hs : scalar sl = true) (he : TR cE w0 cs3 sl es) (m3 : ∀ c ∈ cs3, c ∈ L) (hel : es.length ≤ 4000) (hS : St base E) (hio : IsEff base E eff) (hT : PTr bt base E eff C) (hR : RTr br base E eff D) (H : Hp w0 w (C ++ (D ++ L))) :
    Calls Pg 24 ⟨[ptr bt 0, ptr br 0, .agg ⟨[.int .u8 (d : Int), I t, I p, sl]⟩]⟩ w (StepQ bt br base w0 L) := by
  have hel' := hio.len
  have hbl := hS.len
  apply F24_calls
  unfold F24
  refine bx_m H fun w b1 H => ?_
  repeat (first | simp only [cI_enc, cE_enc, cN_enc, W0] | refine lss_a ?_ | refine lss_b ?_ | refine gtr_a ?_ | refine gtr_b ?_ | refine geq_a ?_ | refine geq_b ?_ | refine leq_a ?_ | refine leq_b ?_ | refine eql_a ?_ | refine eql_b ?_ | refine neq_a ?_ | refine neq_b ?_ | refine add_a ?_ | refine sub_a ?_ | refine ld_a ?_ | refine ldA_a ?_ | refine ldS_a ?_ | refine ldNS_a ?_ | refine rdA_s ?_ | refine rd1_s ?_ | refine drew_a fun w1 H1 => ?_ | refine st_a fun w1 H1 => ?_ | refine stA_a fun w1 H1 => ?_ | refine lenT_a ?_ | refine lenO_a ?_ | refine ixT_a ?_ | refine ixO_a ?_ | fail)
  refine pv_of bld2v ?_
  refine al_m (ys := [I 0, I 0]) (by assumption) (by kernel_rfl) fun w b2 H => ?_
  repeat (first | simp only [cI_enc, cE_enc, cN_enc, W0] | refine lss_a ?_ | refine lss_b ?_ | refine gtr_a ?_ | refine gtr_b ?_ | refine geq_a ?_ | refine geq_b ?_ | refine leq_a ?_ | refine leq_b ?_ | refine eql_a ?_ | refine eql_b ?_ | refine neq_a ?_ | refine neq_b ?_ | refine add_a ?_ | refine sub_a ?_ | refine ld_a ?_ | refine ldA_a ?_ | refine ldS_a ?_ | refine ldNS_a ?_ | refine rdA_s ?_ | refine rd1_s ?_ | refine drew_a fun w1 H1 => ?_ | refine st_a fun w1 H1 => ?_ | refine stA_a fun w1 H1 => ?_ | refine lenT_a ?_ | refine lenO_a ?_ | refine ixT_a ?_ | refine ixO_a ?_ | fail)
  try unfold F24_j2
  repeat (first | simp only [cI_enc, cE_enc, cN_enc, W0] | refine lss_a ?_ | refine lss_b ?_ | refine gtr_a ?_ | refine gtr_b ?_ | refine geq_a ?_ | refine geq_b ?_ | refine leq_a ?_ | refine leq_b ?_ | refine eql_a ?_ | refine eql_b ?_ | refine neq_a ?_ | refine neq_b ?_ | refine add_a ?_ | refine sub_a ?_ | refine ld_a ?_ | refine ldA_a ?_ | refine ldS_a ?_ | refine ldNS_a ?_ | refine rdA_s ?_ | refine rd1_s ?_ | refine drew_a fun w1 H1 => ?_ | refine st_a fun w1 H1 => ?_ | refine stA_a fun w1 H1 => ?_ | refine lenT_a ?_ | refine lenO_a ?_ | refine ixT_a ?_ | refine ixO_a ?_ | fail)
  refine pv_of (rem6' d) ?_
  have r6 : d % 6 < 6 := Nat.mod_lt _ (by omega)
  generalize d % 6 = r at r6
  try unfold F24_j3
  by_cases e2 : r = 2
  · repeat (first | simp only [cI_enc, cE_enc, cN_enc, W0] | refine lss_a ?_ | refine lss_b ?_ | refine gtr_a ?_ | refine gtr_b ?_ | refine geq_a ?_ | refine geq_b ?_ | refine leq_a ?_ | refine leq_b ?_ | refine eql_a ?_ | refine eql_b ?_ | refine neq_a ?_ | refine neq_b ?_ | refine add_a ?_ | refine sub_a ?_ | refine ld_a ?_ | refine ldA_a ?_ | refine ldS_a ?_ | refine ldNS_a ?_ | refine rdA_s ?_ | refine rd1_s ?_ | refine drew_a fun w1 H1 => ?_ | refine st_a fun w1 H1 => ?_ | refine stA_a fun w1 H1 => ?_ | refine lenT_a ?_ | refine lenO_a ?_ | refine ixT_a ?_ | refine ixO_a ?_ | fail)
    try unfold F24_j4 F24_j5
    repeat (first | simp only [cI_enc, cE_enc, cN_enc, W0] | refine lss_a ?_ | refine lss_b ?_ | refine gtr_a ?_ | refine gtr_b ?_ | refine geq_a ?_ | refine geq_b ?_ | refine leq_a ?_ | refine leq_b ?_ | refine eql_a ?_ | refine eql_b ?_ | refine neq_a ?_ | refine neq_b ?_ | refine add_a ?_ | refine sub_a ?_ | refine ld_a ?_ | refine ldA_a ?_ | refine ldS_a ?_ | refine ldNS_a ?_ | refine rdA_s ?_ | refine rd1_s ?_ | refine drew_a fun w1 H1 => ?_ | refine st_a fun w1 H1 => ?_ | refine stA_a fun w1 H1 => ?_ | refine lenT_a ?_ | refine lenO_a ?_ | refine ixT_a ?_ | refine ixO_a ?_ | fail)
    refine cal_h (rem_spec (e := (t, p)) (L := D ++ (⟨b2, 39, [I t, I p]⟩ :: ⟨b1, 46, [.int .u8 (d : Int), I t, I p, sl]⟩ :: L)) hS hel' hT (Hp.re (by assumption))) ?_
    intro _ w h
    obtain ⟨s1, c1, base2, E2, eff2, C2, l2, rfl, t1, hC2, H, o1⟩ := h.all
    repeat (first | simp only [cI_enc, cE_enc, cN_enc, W0] | refine lss_a ?_ | refine lss_b ?_ | refine gtr_a ?_ | refine gtr_b ?_ | refine geq_a ?_ | refine geq_b ?_ | refine leq_a ?_ | refine leq_b ?_ | refine eql_a ?_ | refine eql_b ?_ | refine neq_a ?_ | refine neq_b ?_ | refine add_a ?_ | refine sub_a ?_ | refine ld_a ?_ | refine ldA_a ?_ | refine ldS_a ?_ | refine ldNS_a ?_ | refine rdA_s ?_ | refine rd1_s ?_ | refine drew_a fun w1 H1 => ?_ | refine st_a fun w1 H1 => ?_ | refine stA_a fun w1 H1 => ?_ | refine lenT_a ?_ | refine lenO_a ?_ | refine ixT_a ?_ | refine ixO_a ?_ | fail)
    refine cal_h (rrem_spec (e := (t, p)) (L := C2 ++ (c1 ++ (⟨b2, 39, [I t, I p]⟩ :: ⟨b1, 46, [.int .u8 (d : Int), I t, I p, sl]⟩ :: L))) hS hio hR (Hp.re (by assumption))) ?_
    intro _ w h
    obtain ⟨s3, c3, base3, E3, eff3, D3, l3, rfl, t3, hD3, H, o3⟩ := h.all
    obtain ⟨rfl, hl, fin⟩ := both_fin (w0 := w0) (L := L) hS hio (fun _ => hS.rem) rfl hC2 hD3 o1 o3
    repeat (first | simp only [cI_enc, cE_enc, cN_enc, W0] | refine lss_a ?_ | refine lss_b ?_ | refine gtr_a ?_ | refine gtr_b ?_ | refine geq_a ?_ | refine geq_b ?_ | refine leq_a ?_ | refine leq_b ?_ | refine eql_a ?_ | refine eql_b ?_ | refine neq_a ?_ | refine neq_b ?_ | refine add_a ?_ | refine sub_a ?_ | refine ld_a ?_ | refine ldA_a ?_ | refine ldS_a ?_ | refine ldNS_a ?_ | refine rdA_s ?_ | refine rd1_s ?_ | refine drew_a fun w1 H1 => ?_ | refine st_a fun w1 H1 => ?_ | refine stA_a fun w1 H1 => ?_ | refine lenT_a ?_ | refine lenO_a ?_ | refine ixT_a ?_ | refine ixO_a ?_ | fail)
    refine cal_h (changes_spec t1.tr t3.tr (by assumption) csub csub (by omega)) ?_
    rw [decide_eq_true rfl]
    rintro _ w ⟨rfl, H⟩
    repeat (first | simp only [cI_enc, cE_enc, cN_enc, W0] | refine lss_a ?_ | refine lss_b ?_ | refine gtr_a ?_ | refine gtr_b ?_ | refine geq_a ?_ | refine geq_b ?_ | refine leq_a ?_ | refine leq_b ?_ | refine eql_a ?_ | refine eql_b ?_ | refine neq_a ?_ | refine neq_b ?_ | refine add_a ?_ | refine sub_a ?_ | refine ld_a ?_ | refine ldA_a ?_ | refine ldS_a ?_ | refine ldNS_a ?_ | refine rdA_s ?_ | refine rd1_s ?_ | refine drew_a fun w1 H1 => ?_ | refine st_a fun w1 H1 => ?_ | refine stA_a fun w1 H1 => ?_ | refine lenT_a ?_ | refine lenO_a ?_ | refine ixT_a ?_ | refine ixO_a ?_ | fail)
    exact ⟨rfl, fin w (Hp.re (by assumption))⟩
  repeat (first | simp only [cI_enc, cE_enc, cN_enc, W0] | refine lss_a ?_ | refine lss_b ?_ | refine gtr_a ?_ | refine gtr_b ?_ | refine geq_a ?_ | refine geq_b ?_ | refine leq_a ?_ | refine leq_b ?_ | refine eql_a ?_ | refine eql_b ?_ | refine neq_a ?_ | refine neq_b ?_ | refine add_a ?_ | refine sub_a ?_ | refine ld_a ?_ | refine ldA_a ?_ | refine ldS_a ?_ | refine ldNS_a ?_ | refine rdA_s ?_ | refine rd1_s ?_ | refine drew_a fun w1 H1 => ?_ | refine st_a fun w1 H1 => ?_ | refine stA_a fun w1 H1 => ?_ | refine lenT_a ?_ | refine lenO_a ?_ | refine ixT_a ?_ | refine ixO_a ?_ | fail)
  try unfold F24_j4
  repeat (first | simp only [cI_enc, cE_enc, cN_enc, W0] | refine lss_a ?_ | refine lss_b ?_ | refine gtr_a ?_ | refine gtr_b ?_ | refine geq_a ?_ | refine geq_b ?_ | refine leq_a ?_ | refine leq_b ?_ | refine eql_a ?_ | refine eql_b ?_ | refine neq_a ?_ | refine neq_b ?_ | refine add_a ?_ | refine sub_a ?_ | refine ld_a ?_ | refine ldA_a ?_ | refine ldS_a ?_ | refine ldNS_a ?_ | refine rdA_s ?_ | refine rd1_s ?_ | refine drew_a fun w1 H1 => ?_ | refine st_a fun w1 H1 => ?_ | refine stA_a fun w1 H1 => ?_ | refine lenT_a ?_ | refine lenO_a ?_ | refine ixT_a ?_ | refine ixO_a ?_ | fail)
  try unfold F24_j6
  by_cases e3 : r = 3
  · repeat (first | simp only [cI_enc, cE_enc, cN_enc, W0] | refine lss_a ?_ | refine lss_b ?_ | refine gtr_a ?_ | refine gtr_b ?_ | refine geq_a ?_ | refine geq_b ?_ | refine leq_a ?_ | refine leq_b ?_ | refine eql_a ?_ | refine eql_b ?_ | refine neq_a ?_ | refine neq_b ?_ | refine add_a ?_ | refine sub_a ?_ | refine ld_a ?_ | refine ldA_a ?_ | refine ldS_a ?_ | refine ldNS_a ?_ | refine rdA_s ?_ | refine rd1_s ?_ | refine drew_a fun w1 H1 => ?_ | refine st_a fun w1 H1 => ?_ | refine stA_a fun w1 H1 => ?_ | refine lenT_a ?_ | refine lenO_a ?_ | refine ixT_a ?_ | refine ixO_a ?_ | fail)
    try unfold F24_j7 F24_j8
    repeat (first | simp only [cI_enc, cE_enc, cN_enc, W0] | refine lss_a ?_ | refine lss_b ?_ | refine gtr_a ?_ | refine gtr_b ?_ | refine geq_a ?_ | refine geq_b ?_ | refine leq_a ?_ | refine leq_b ?_ | refine eql_a ?_ | refine eql_b ?_ | refine neq_a ?_ | refine neq_b ?_ | refine add_a ?_ | refine sub_a ?_ | refine ld_a ?_ | refine ldA_a ?_ | refine ldS_a ?_ | refine ldNS_a ?_ | refine rdA_s ?_ | refine rd1_s ?_ | refine drew_a fun w1 H1 => ?_ | refine st_a fun w1 H1 => ?_ | refine stA_a fun w1 H1 => ?_ | refine lenT_a ?_ | refine lenO_a ?_ | refine ixT_a ?_ | refine ixO_a ?_ | fail)
    refine cal_h (set_spec (t := t) (p := p) (L := D ++ (⟨b2, 39, [I t, I p]⟩ :: ⟨b1, 46, [.int .u8 (d : Int), I t, I p, sl]⟩ :: L)) hS hel' hT (Hp.re (by assumption))) ?_
    intro _ w h
    obtain ⟨s1, c1, base2, E2, eff2, C2, l2, rfl, t1, hC2, H, o1⟩ := h.all
    repeat (first | simp only [cI_enc, cE_enc, cN_enc, W0] | refine lss_a ?_ | refine lss_b ?_ | refine gtr_a ?_ | refine gtr_b ?_ | refine geq_a ?_ | refine geq_b ?_ | refine leq_a ?_ | refine leq_b ?_ | refine eql_a ?_ | refine eql_b ?_ | refine neq_a ?_ | refine neq_b ?_ | refine add_a ?_ | refine sub_a ?_ | refine ld_a ?_ | refine ldA_a ?_ | refine ldS_a ?_ | refine ldNS_a ?_ | refine rdA_s ?_ | refine rd1_s ?_ | refine drew_a fun w1 H1 => ?_ | refine st_a fun w1 H1 => ?_ | refine stA_a fun w1 H1 => ?_ | refine lenT_a ?_ | refine lenO_a ?_ | refine ixT_a ?_ | refine ixO_a ?_ | fail)
    refine cal_h (rset_spec (t := t) (p := p) (L := C2 ++ (c1 ++ (⟨b2, 39, [I t, I p]⟩ :: ⟨b1, 46, [.int .u8 (d : Int), I t, I p, sl]⟩ :: L))) hS hio hR (Hp.re (by assumption))) ?_
    intro _ w h
    obtain ⟨s3, c3, base3, E3, eff3, D3, l3, rfl, t3, hD3, H, o3⟩ := h.all
    obtain ⟨rfl, hl, fin⟩ := both_fin (w0 := w0) (L := L) hS hio (fun h0 => set_ok hS h0) (by rw [List.length_set]) hC2 hD3 o1 o3
    repeat (first | simp only [cI_enc, cE_enc, cN_enc, W0] | refine lss_a ?_ | refine lss_b ?_ | refine gtr_a ?_ | refine gtr_b ?_ | refine geq_a ?_ | refine geq_b ?_ | refine leq_a ?_ | refine leq_b ?_ | refine eql_a ?_ | refine eql_b ?_ | refine neq_a ?_ | refine neq_b ?_ | refine add_a ?_ | refine sub_a ?_ | refine ld_a ?_ | refine ldA_a ?_ | refine ldS_a ?_ | refine ldNS_a ?_ | refine rdA_s ?_ | refine rd1_s ?_ | refine drew_a fun w1 H1 => ?_ | refine st_a fun w1 H1 => ?_ | refine stA_a fun w1 H1 => ?_ | refine lenT_a ?_ | refine lenO_a ?_ | refine ixT_a ?_ | refine ixO_a ?_ | fail)
    refine cal_h (changes_spec t1.tr t3.tr (by assumption) csub csub (by omega)) ?_
    rw [decide_eq_true rfl]
    rintro _ w ⟨rfl, H⟩
    repeat (first | simp only [cI_enc, cE_enc, cN_enc, W0] | refine lss_a ?_ | refine lss_b ?_ | refine gtr_a ?_ | refine gtr_b ?_ | refine geq_a ?_ | refine geq_b ?_ | refine leq_a ?_ | refine leq_b ?_ | refine eql_a ?_ | refine eql_b ?_ | refine neq_a ?_ | refine neq_b ?_ | refine add_a ?_ | refine sub_a ?_ | refine ld_a ?_ | refine ldA_a ?_ | refine ldS_a ?_ | refine ldNS_a ?_ | refine rdA_s ?_ | refine rd1_s ?_ | refine drew_a fun w1 H1 => ?_ | refine st_a fun w1 H1 => ?_ | refine stA_a fun w1 H1 => ?_ | refine lenT_a ?_ | refine lenO_a ?_ | refine ixT_a ?_ | refine ixO_a ?_ | fail)
    exact ⟨rfl, fin w (Hp.re (by assumption))⟩
  repeat (first | simp only [cI_enc, cE_enc, cN_enc, W0] | refine lss_a ?_ | refine lss_b ?_ | refine gtr_a ?_ | refine gtr_b ?_ | refine geq_a ?_ | refine geq_b ?_ | refine leq_a ?_ | refine leq_b ?_ | refine eql_a ?_ | refine eql_b ?_ | refine neq_a ?_ | refine neq_b ?_ | refine add_a ?_ | refine sub_a ?_ | refine ld_a ?_ | refine ldA_a ?_ | refine ldS_a ?_ | refine ldNS_a ?_ | refine rdA_s ?_ | refine rd1_s ?_ | refine drew_a fun w1 H1 => ?_ | refine st_a fun w1 H1 => ?_ | refine stA_a fun w1 H1 => ?_ | refine lenT_a ?_ | refine lenO_a ?_ | refine ixT_a ?_ | refine ixO_a ?_ | fail)
  try unfold F24_j7
  repeat (first | simp only [cI_enc, cE_enc, cN_enc, W0] | refine lss_a ?_ | refine lss_b ?_ | refine gtr_a ?_ | refine gtr_b ?_ | refine geq_a ?_ | refine geq_b ?_ | refine leq_a ?_ | refine leq_b ?_ | refine eql_a ?_ | refine eql_b ?_ | refine neq_a ?_ | refine neq_b ?_ | refine add_a ?_ | refine sub_a ?_ | refine ld_a ?_ | refine ldA_a ?_ | refine ldS_a ?_ | refine ldNS_a ?_ | refine rdA_s ?_ | refine rd1_s ?_ | refine drew_a fun w1 H1 => ?_ | refine st_a fun w1 H1 => ?_ | refine stA_a fun w1 H1 => ?_ | refine lenT_a ?_ | refine lenO_a ?_ | refine ixT_a ?_ | refine ixO_a ?_ | fail)
  try unfold F24_j9
  by_cases e4 : r = 4
  · repeat (first | simp only [cI_enc, cE_enc, cN_enc, W0] | refine lss_a ?_ | refine lss_b ?_ | refine gtr_a ?_ | refine gtr_b ?_ | refine geq_a ?_ | refine geq_b ?_ | refine leq_a ?_ | refine leq_b ?_ | refine eql_a ?_ | refine eql_b ?_ | refine neq_a ?_ | refine neq_b ?_ | refine add_a ?_ | refine sub_a ?_ | refine ld_a ?_ | refine ldA_a ?_ | refine ldS_a ?_ | refine ldNS_a ?_ | refine rdA_s ?_ | refine rd1_s ?_ | refine drew_a fun w1 H1 => ?_ | refine st_a fun w1 H1 => ?_ | refine stA_a fun w1 H1 => ?_ | refine lenT_a ?_ | refine lenO_a ?_ | refine ixT_a ?_ | refine ixO_a ?_ | fail)
    try unfold F24_j10 F24_j11
    repeat (first | simp only [cI_enc, cE_enc, cN_enc, W0] | refine lss_a ?_ | refine lss_b ?_ | refine gtr_a ?_ | refine gtr_b ?_ | refine geq_a ?_ | refine geq_b ?_ | refine leq_a ?_ | refine leq_b ?_ | refine eql_a ?_ | refine eql_b ?_ | refine neq_a ?_ | refine neq_b ?_ | refine add_a ?_ | refine sub_a ?_ | refine ld_a ?_ | refine ldA_a ?_ | refine ldS_a ?_ | refine ldNS_a ?_ | refine rdA_s ?_ | refine rd1_s ?_ | refine drew_a fun w1 H1 => ?_ | refine st_a fun w1 H1 => ?_ | refine stA_a fun w1 H1 => ?_ | refine lenT_a ?_ | refine lenO_a ?_ | refine ixT_a ?_ | refine ixO_a ?_ | fail)
    refine cal_h (rpl_spec (L := D ++ (⟨b2, 39, [I t, I p]⟩ :: ⟨b1, 46, [.int .u8 (d : Int), I t, I p, sl]⟩ :: L)) hS he (by intro c hc; simp [m3 c hc]) hel' hT (Hp.re (by assumption))) ?_
    intro _ w h
    obtain ⟨s1, c1, base2, E2, eff2, C2, l2, rfl, t1, hC2, H, o1⟩ := h.all
    repeat (first | simp only [cI_enc, cE_enc, cN_enc, W0] | refine lss_a ?_ | refine lss_b ?_ | refine gtr_a ?_ | refine gtr_b ?_ | refine geq_a ?_ | refine geq_b ?_ | refine leq_a ?_ | refine leq_b ?_ | refine eql_a ?_ | refine eql_b ?_ | refine neq_a ?_ | refine neq_b ?_ | refine add_a ?_ | refine sub_a ?_ | refine ld_a ?_ | refine ldA_a ?_ | refine ldS_a ?_ | refine ldNS_a ?_ | refine rdA_s ?_ | refine rd1_s ?_ | refine drew_a fun w1 H1 => ?_ | refine st_a fun w1 H1 => ?_ | refine stA_a fun w1 H1 => ?_ | refine lenT_a ?_ | refine lenO_a ?_ | refine ixT_a ?_ | refine ixO_a ?_ | fail)
    refine cal_h (rrpl_spec (L := C2 ++ (c1 ++ (⟨b2, 39, [I t, I p]⟩ :: ⟨b1, 46, [.int .u8 (d : Int), I t, I p, sl]⟩ :: L))) hS hio he (by intro c hc; simp [m3 c hc]) hel hR (Hp.re (by assumption))) ?_
    intro _ w h
    obtain ⟨s3, c3, base3, E3, eff3, D3, l3, rfl, t3, hD3, H, o3⟩ := h.all
    obtain ⟨rfl, hl, fin⟩ := both_fin (w0 := w0) (L := L) hS hio (fun h0 => St.of h0) rfl hC2 hD3 o1 o3
    repeat (first | simp only [cI_enc, cE_enc, cN_enc, W0] | refine lss_a ?_ | refine lss_b ?_ | refine gtr_a ?_ | refine gtr_b ?_ | refine geq_a ?_ | refine geq_b ?_ | refine leq_a ?_ | refine leq_b ?_ | refine eql_a ?_ | refine eql_b ?_ | refine neq_a ?_ | refine neq_b ?_ | refine add_a ?_ | refine sub_a ?_ | refine ld_a ?_ | refine ldA_a ?_ | refine ldS_a ?_ | refine ldNS_a ?_ | refine rdA_s ?_ | refine rd1_s ?_ | refine drew_a fun w1 H1 => ?_ | refine st_a fun w1 H1 => ?_ | refine stA_a fun w1 H1 => ?_ | refine lenT_a ?_ | refine lenO_a ?_ | refine ixT_a ?_ | refine ixO_a ?_ | fail)
    refine cal_h (changes_spec t1.tr t3.tr (by assumption) csub csub (by omega)) ?_
    rw [decide_eq_true rfl]
    rintro _ w ⟨rfl, H⟩
    repeat (first | simp only [cI_enc, cE_enc, cN_enc, W0] | refine lss_a ?_ | refine lss_b ?_ | refine gtr_a ?_ | refine gtr_b ?_ | refine geq_a ?_ | refine geq_b ?_ | refine leq_a ?_ | refine leq_b ?_ | refine eql_a ?_ | refine eql_b ?_ | refine neq_a ?_ | refine neq_b ?_ | refine add_a ?_ | refine sub_a ?_ | refine ld_a ?_ | refine ldA_a ?_ | refine ldS_a ?_ | refine ldNS_a ?_ | refine rdA_s ?_ | refine rd1_s ?_ | refine drew_a fun w1 H1 => ?_ | refine st_a fun w1 H1 => ?_ | refine stA_a fun w1 H1 => ?_ | refine lenT_a ?_ | refine lenO_a ?_ | refine ixT_a ?_ | refine ixO_a ?_ | fail)
    exact ⟨rfl, fin w (Hp.re (by assumption))⟩
  repeat (first | simp only [cI_enc, cE_enc, cN_enc, W0] | refine lss_a ?_ | refine lss_b ?_ | refine gtr_a ?_ | refine gtr_b ?_ | refine geq_a ?_ | refine geq_b ?_ | refine leq_a ?_ | refine leq_b ?_ | refine eql_a ?_ | refine eql_b ?_ | refine neq_a ?_ | refine neq_b ?_ | refine add_a ?_ | refine sub_a ?_ | refine ld_a ?_ | refine ldA_a ?_ | refine ldS_a ?_ | refine ldNS_a ?_ | refine rdA_s ?_ | refine rd1_s ?_ | refine drew_a fun w1 H1 => ?_ | refine st_a fun w1 H1 => ?_ | refine stA_a fun w1 H1 => ?_ | refine lenT_a ?_ | refine lenO_a ?_ | refine ixT_a ?_ | refine ixO_a ?_ | fail)
  try unfold F24_j10
  repeat (first | simp only [cI_enc, cE_enc, cN_enc, W0] | refine lss_a ?_ | refine lss_b ?_ | refine gtr_a ?_ | refine gtr_b ?_ | refine geq_a ?_ | refine geq_b ?_ | refine leq_a ?_ | refine leq_b ?_ | refine eql_a ?_ | refine eql_b ?_ | refine neq_a ?_ | refine neq_b ?_ | refine add_a ?_ | refine sub_a ?_ | refine ld_a ?_ | refine ldA_a ?_ | refine ldS_a ?_ | refine ldNS_a ?_ | refine rdA_s ?_ | refine rd1_s ?_ | refine drew_a fun w1 H1 => ?_ | refine st_a fun w1 H1 => ?_ | refine stA_a fun w1 H1 => ?_ | refine lenT_a ?_ | refine lenO_a ?_ | refine ixT_a ?_ | refine ixO_a ?_ | fail)
  try unfold F24_j12
  by_cases e5 : r = 5
  · repeat (first | simp only [cI_enc, cE_enc, cN_enc, W0] | refine lss_a ?_ | refine lss_b ?_ | refine gtr_a ?_ | refine gtr_b ?_ | refine geq_a ?_ | refine geq_b ?_ | refine leq_a ?_ | refine leq_b ?_ | refine eql_a ?_ | refine eql_b ?_ | refine neq_a ?_ | refine neq_b ?_ | refine add_a ?_ | refine sub_a ?_ | refine ld_a ?_ | refine ldA_a ?_ | refine ldS_a ?_ | refine ldNS_a ?_ | refine rdA_s ?_ | refine rd1_s ?_ | refine drew_a fun w1 H1 => ?_ | refine st_a fun w1 H1 => ?_ | refine stA_a fun w1 H1 => ?_ | refine lenT_a ?_ | refine lenO_a ?_ | refine ixT_a ?_ | refine ixO_a ?_ | fail)
    try unfold F24_j13 F24_j14
    repeat (first | simp only [cI_enc, cE_enc, cN_enc, W0] | refine lss_a ?_ | refine lss_b ?_ | refine gtr_a ?_ | refine gtr_b ?_ | refine geq_a ?_ | refine geq_b ?_ | refine leq_a ?_ | refine leq_b ?_ | refine eql_a ?_ | refine eql_b ?_ | refine neq_a ?_ | refine neq_b ?_ | refine add_a ?_ | refine sub_a ?_ | refine ld_a ?_ | refine ldA_a ?_ | refine ldS_a ?_ | refine ldNS_a ?_ | refine rdA_s ?_ | refine rd1_s ?_ | refine drew_a fun w1 H1 => ?_ | refine st_a fun w1 H1 => ?_ | refine stA_a fun w1 H1 => ?_ | refine lenT_a ?_ | refine lenO_a ?_ | refine ixT_a ?_ | refine ixO_a ?_ | fail)
    refine cal_h (effC_spec (t := t) (L := D ++ (⟨b2, 39, [I t, I p]⟩ :: ⟨b1, 46, [.int .u8 (d : Int), I t, I p, sl]⟩ :: L)) hel' hT (Hp.re (by assumption))) ?_
    rintro _ w ⟨rfl, H⟩
    have r2 := reff_spec (t := t) (w := w) (L := C ++ (⟨b2, 39, [I t, I p]⟩ :: ⟨b1, 46, [.int .u8 (d : Int), I t, I p, sl]⟩ :: L)) hS hio hR (Hp.re (by assumption))
    cases g1 : inR base.length t with
    | false =>
      rw [g1] at r2
      simp only [Bool.false_eq_true, if_false] at r2 ⊢
      repeat (first | simp only [cI_enc, cE_enc, cN_enc, W0] | refine lss_a ?_ | refine lss_b ?_ | refine gtr_a ?_ | refine gtr_b ?_ | refine geq_a ?_ | refine geq_b ?_ | refine leq_a ?_ | refine leq_b ?_ | refine eql_a ?_ | refine eql_b ?_ | refine neq_a ?_ | refine neq_b ?_ | refine add_a ?_ | refine sub_a ?_ | refine ld_a ?_ | refine ldA_a ?_ | refine ldS_a ?_ | refine ldNS_a ?_ | refine rdA_s ?_ | refine rd1_s ?_ | refine drew_a fun w1 H1 => ?_ | refine st_a fun w1 H1 => ?_ | refine stA_a fun w1 H1 => ?_ | refine lenT_a ?_ | refine lenO_a ?_ | refine ixT_a ?_ | refine ixO_a ?_ | fail)
      refine cal_h r2 ?_
      rintro _ w ⟨rfl, H⟩
      repeat (first | simp only [cI_enc, cE_enc, cN_enc, W0] | refine lss_a ?_ | refine lss_b ?_ | refine gtr_a ?_ | refine gtr_b ?_ | refine geq_a ?_ | refine geq_b ?_ | refine leq_a ?_ | refine leq_b ?_ | refine eql_a ?_ | refine eql_b ?_ | refine neq_a ?_ | refine neq_b ?_ | refine add_a ?_ | refine sub_a ?_ | refine ld_a ?_ | refine ldA_a ?_ | refine ldS_a ?_ | refine ldNS_a ?_ | refine rdA_s ?_ | refine rd1_s ?_ | refine drew_a fun w1 H1 => ?_ | refine st_a fun w1 H1 => ?_ | refine stA_a fun w1 H1 => ?_ | refine lenT_a ?_ | refine lenO_a ?_ | refine ixT_a ?_ | refine ixO_a ?_ | fail)
      exact ⟨rfl, base, E, eff, C, D, hS, hio, rfl, hT, hR, Hp.re (by assumption)⟩
    | true =>
      rw [g1] at r2
      simp only [if_true] at r2 ⊢
      repeat (first | simp only [cI_enc, cE_enc, cN_enc, W0] | refine lss_a ?_ | refine lss_b ?_ | refine gtr_a ?_ | refine gtr_b ?_ | refine geq_a ?_ | refine geq_b ?_ | refine leq_a ?_ | refine leq_b ?_ | refine eql_a ?_ | refine eql_b ?_ | refine neq_a ?_ | refine neq_b ?_ | refine add_a ?_ | refine sub_a ?_ | refine ld_a ?_ | refine ldA_a ?_ | refine ldS_a ?_ | refine ldNS_a ?_ | refine rdA_s ?_ | refine rd1_s ?_ | refine drew_a fun w1 H1 => ?_ | refine st_a fun w1 H1 => ?_ | refine stA_a fun w1 H1 => ?_ | refine lenT_a ?_ | refine lenO_a ?_ | refine ixT_a ?_ | refine ixO_a ?_ | fail)
      refine cal_h r2 ?_
      rintro _ w ⟨rfl, H⟩
      repeat (first | simp only [cI_enc, cE_enc, cN_enc, W0] | refine lss_a ?_ | refine lss_b ?_ | refine gtr_a ?_ | refine gtr_b ?_ | refine geq_a ?_ | refine geq_b ?_ | refine leq_a ?_ | refine leq_b ?_ | refine eql_a ?_ | refine eql_b ?_ | refine neq_a ?_ | refine neq_b ?_ | refine add_a ?_ | refine sub_a ?_ | refine ld_a ?_ | refine ldA_a ?_ | refine ldS_a ?_ | refine ldNS_a ?_ | refine rdA_s ?_ | refine rd1_s ?_ | refine drew_a fun w1 H1 => ?_ | refine st_a fun w1 H1 => ?_ | refine stA_a fun w1 H1 => ?_ | refine lenT_a ?_ | refine lenO_a ?_ | refine ixT_a ?_ | refine ixO_a ?_ | fail)
      exact ⟨rfl, base, E, eff, C, D, hS, hio, rfl, hT, hR, Hp.re (by assumption)⟩
  repeat (first | simp only [cI_enc, cE_enc, cN_enc, W0] | refine lss_a ?_ | refine lss_b ?_ | refine gtr_a ?_ | refine gtr_b ?_ | refine geq_a ?_ | refine geq_b ?_ | refine leq_a ?_ | refine leq_b ?_ | refine eql_a ?_ | refine eql_b ?_ | refine neq_a ?_ | refine neq_b ?_ | refine add_a ?_ | refine sub_a ?_ | refine ld_a ?_ | refine ldA_a ?_ | refine ldS_a ?_ | refine ldNS_a ?_ | refine rdA_s ?_ | refine rd1_s ?_ | refine drew_a fun w1 H1 => ?_ | refine st_a fun w1 H1 => ?_ | refine stA_a fun w1 H1 => ?_ | refine lenT_a ?_ | refine lenO_a ?_ | refine ixT_a ?_ | refine ixO_a ?_ | fail)
  try unfold F24_j13 F24_j1
  repeat (first | simp only [cI_enc, cE_enc, cN_enc, W0] | refine lss_a ?_ | refine lss_b ?_ | refine gtr_a ?_ | refine gtr_b ?_ | refine geq_a ?_ | refine geq_b ?_ | refine leq_a ?_ | refine leq_b ?_ | refine eql_a ?_ | refine eql_b ?_ | refine neq_a ?_ | refine neq_b ?_ | refine add_a ?_ | refine sub_a ?_ | refine ld_a ?_ | refine ldA_a ?_ | refine ldS_a ?_ | refine ldNS_a ?_ | refine rdA_s ?_ | refine rd1_s ?_ | refine drew_a fun w1 H1 => ?_ | refine st_a fun w1 H1 => ?_ | refine stA_a fun w1 H1 => ?_ | refine lenT_a ?_ | refine lenO_a ?_ | refine ixT_a ?_ | refine ixO_a ?_ | fail)
  refine cal_h (add_spec (e := (t, p)) (L := D ++ (⟨b2, 39, [I t, I p]⟩ :: ⟨b1, 46, [.int .u8 (d : Int), I t, I p, sl]⟩ :: L)) hS hel' hT (Hp.re (by assumption))) ?_
  intro _ w h
  obtain ⟨s1, c1, base2, E2, eff2, C2, l2, rfl, t1, hC2, H, o1⟩ := h.all
  repeat (first | simp only [cI_enc, cE_enc, cN_enc, W0] | refine lss_a ?_ | refine lss_b ?_ | refine gtr_a ?_ | refine gtr_b ?_ | refine geq_a ?_ | refine geq_b ?_ | refine leq_a ?_ | refine leq_b ?_ | refine eql_a ?_ | refine eql_b ?_ | refine neq_a ?_ | refine neq_b ?_ | refine add_a ?_ | refine sub_a ?_ | refine ld_a ?_ | refine ldA_a ?_ | refine ldS_a ?_ | refine ldNS_a ?_ | refine rdA_s ?_ | refine rd1_s ?_ | refine drew_a fun w1 H1 => ?_ | refine st_a fun w1 H1 => ?_ | refine stA_a fun w1 H1 => ?_ | refine lenT_a ?_ | refine lenO_a ?_ | refine ixT_a ?_ | refine ixO_a ?_ | fail)
  refine cal_h (radd_spec (e := (t, p)) (L := C2 ++ (c1 ++ (⟨b2, 39, [I t, I p]⟩ :: ⟨b1, 46, [.int .u8 (d : Int), I t, I p, sl]⟩ :: L))) hS hio hR (Hp.re (by assumption))) ?_
  intro _ w h
  obtain ⟨s3, c3, base3, E3, eff3, D3, l3, rfl, t3, hD3, H, o3⟩ := h.all
  obtain ⟨rfl, hl, fin⟩ := both_fin (w0 := w0) (L := L) hS hio (fun h0 => add_ok hS h0) rfl hC2 hD3 o1 o3
  repeat (first | simp only [cI_enc, cE_enc, cN_enc, W0] | refine lss_a ?_ | refine lss_b ?_ | refine gtr_a ?_ | refine gtr_b ?_ | refine geq_a ?_ | refine geq_b ?_ | refine leq_a ?_ | refine leq_b ?_ | refine eql_a ?_ | refine eql_b ?_ | refine neq_a ?_ | refine neq_b ?_ | refine add_a ?_ | refine sub_a ?_ | refine ld_a ?_ | refine ldA_a ?_ | refine ldS_a ?_ | refine ldNS_a ?_ | refine rdA_s ?_ | refine rd1_s ?_ | refine drew_a fun w1 H1 => ?_ | refine st_a fun w1 H1 => ?_ | refine stA_a fun w1 H1 => ?_ | refine lenT_a ?_ | refine lenO_a ?_ | refine ixT_a ?_ | refine ixO_a ?_ | fail)
  refine cal_h (changes_spec t1.tr t3.tr (by assumption) csub csub (by omega)) ?_
  rw [decide_eq_true rfl]
  rintro _ w ⟨rfl, H⟩
  repeat (first | simp only [cI_enc, cE_enc, cN_enc, W0] | refine lss_a ?_ | refine lss_b ?_ | refine gtr_a ?_ | refine gtr_b ?_ | refine geq_a ?_ | refine geq_b ?_ | refine leq_a ?_ | refine leq_b ?_ | refine eql_a ?_ | refine eql_b ?_ | refine neq_a ?_ | refine neq_b ?_ | refine add_a ?_ | refine sub_a ?_ | refine ld_a ?_ | refine ldA_a ?_ | refine ldS_a ?_ | refine ldNS_a ?_ | refine rdA_s ?_ | refine rd1_s ?_ | refine drew_a fun w1 H1 => ?_ | refine st_a fun w1 H1 => ?_ | refine stA_a fun w1 H1 => ?_ | refine lenT_a ?_ | refine lenO_a ?_ | refine ixT_a ?_ | refine ixO_a ?_ | fail)
  exact ⟨rfl, fin w (Hp.re (by assumption))⟩
end
end Go.Proofs.Ytagcifbfokneoaa.Den
end

section
set_option linter.unusedVariables false
set_option linter.unusedSimpArgs false
set_option maxRecDepth 8000
namespace Go.Proofs.Ytagcifbfokneoaa.Den
open Go Go.RowKit Go.ChangeShapes Go.WideShapes Go.ChangeAt Go.Deep
/-- What a law says of a run. -/
def Fin (w0 : World) : ER := fun e w' => e = .returned (.bool true) ∧ Ext [] w0 w'
section
variable {H : Type} {enc : TypeId × Value → H} {P : Program} {W W' : World}
theorem trodAll_below (hl : laidOutB P = true) (hb : Below W.heap.size W W') : ∀ {ts : List TypeId} {vs : List Value} {ds : List (DataW H)} {ps : List MemPlace}, (∀ t ∈ ts, P.readableRec t = true ∧ t < P.types.size) →
    DataW.TrodAll enc P W 0 (fun _ => true) true ts vs ds ps → (∀ x ∈ ps, x.block < W.heap.size) → DataW.TrodAll enc P W' 0 (fun b => decide (b < W.heap.size)) true ts vs ds ps
  | [], _, _, _, ht, h, hlt => by
    obtain ⟨rfl, rfl, rfl⟩ := trodAll_nil h
    rfl
  | t :: ts, _, _, _, ht, h, hlt => by
    obtain ⟨v, vs1, d, ds1, a, b, rfl, rfl, rfl, h1, h2⟩ := trodAll_cons h
    obtain ⟨g1, g2⟩ := ht t (by simp)
    exact ⟨a, b, Below.trod hl g1 g2 h1 hb (fun x hx => hlt x (by simp [hx])), trodAll_below hl hb (fun t' h' => ht t' (by simp [h'])) h2 (fun x hx => hlt x (by simp [hx])), rfl⟩
theorem law_post {f : Func} {s : ChangeSpec} {args : Array Value} {ds : List (DataW H)} {before : List MemPlace} {tb : TypeId} (hl : laidOutB P = true) (hv : s.vars = []) (hr : f.resultTypes = #[tb]) (htb : P.underlying tb = some .bool)
    (hp : ∀ t ∈ f.params.toList, P.readableRec t = true ∧ t < P.types.size)
    (hfn : s.fn H (ds ++ []) = { results := [.lit (.bool true)], args := ds })
    (hW : DataW.Whole enc P f.params.toList s.vars false W args.toList ds [] before) (he : Ext [] W W') :
    s.post enc P f false true false false W args (.bool true) W' := by
  have hb : Below W.heap.size W W' := he.below (Nat.le_refl _) (by simp)
  have hW0 := hW
  obtain ⟨p, q, hA, hV, hpq, _, _⟩ := hW0
  have hlt : ∀ x ∈ before, x.block < W.heap.size := fun x hx => hW.lt x hx
  have hq : q = [] := by rw [hv] at hV; exact hV
  subst hq
  rw [List.append_nil] at hpq
  subst hpq
  refine ⟨ds, [], before, [], before, [], hW, ?_, ?_, ?_, hb.frame _, fun h => by cases h⟩
  · rw [hfn, hr]; exact trodAll_mk1 (shut_bool htb true)
  · rw [hfn]; exact trodAll_below hl hb hp hA hlt
  · rw [hfn, hv]; rfl
end
section
variable {H : Type} {enc : TypeId × Value → H} {P : Program} {w : World} {base : Nat} {spare : Nat → Bool} {held : Bool}
theorem open_slice_fields {t e : TypeId} {fs : Array Field} {fuel : Nat} {cs : List Value} {x : DataW H × List MemPlace} (ht : P.underlying t = some (.slice e)) (he : P.underlying e = some (.struct fs))
    (hone : oneCellFields P fs = true) (hC : P.cellsOf e = fs.size) (h : DataW.trod enc P w base spare held fuel t cs = some x) :
    (cs = [.slice none 0 0] ∧ x = (.nil, [])) ∨
    ∃ (a : Addr) (len cap m : Nat) (D : Nat → DataW H) (Pl : Nat → List MemPlace), cs = [.slice (some a) len cap] ∧ base ≤ a.block ∧ len ≤ cap ∧ cap ≤ maxLen ∧ m = (if spare a.block then cap else len) ∧
      x = (.slice ((List.range len).map D) ((List.range (m - len)).map fun j => D (len + j)), MemPlace.row a (m * fs.size) ++ (List.range m).flatMap Pl) ∧
      ∀ i, i < m → ∃ (ys : List (DataW H × List MemPlace)) (n : Nat), D i = .agg (ys.map (·.1)) ∧ Pl i = ys.flatMap (·.2) ∧ ys.length = fs.size ∧
        ∀ (j : Nat) (f : Field), fs[j]? = some f → ∃ (v : Value) (y : DataW H × List MemPlace), w.cell? (a.add (i * fs.size + j)) = some v ∧ ys[j]? = some y ∧ DataW.trod enc P w base spare held n f.type [v] = some y := by
  rcases open_slice ht h with h0 | ⟨a, len, cap, m, n, D, Pl, hcs, hb, hl, hm, hmm, hx, hi⟩
  · exact .inl h0
  · refine .inr ⟨a, len, cap, m, D, Pl, hcs, hb, hl, hm, hmm, by rw [hC] at hx; exact hx, fun i him => ?_⟩
    obtain ⟨cs', hc, ht'⟩ := hi i him
    rw [hC] at hc
    obtain ⟨ys, n', hn', hy, hlen, hyl, hf⟩ := DataW.trod_struct he ht'
    obtain ⟨_, hcl, hat⟩ := World.cells?_some hc
    simp only [Prod.mk.injEq] at hy
    refine ⟨ys, n', hy.1, hy.2, hyl, fun j f hj => ?_⟩
    obtain ⟨ho, hk⟩ := hone_of hone j f hj
    have hjl : j < fs.size := (Array.getElem?_eq_some_iff.1 hj).1
    have hcell := hat j hjl
    have hv : cs'[j]? = some (cs'[j]'(by omega)) := List.getElem?_eq_getElem (by omega)
    have h1 := hf j f hj
    rw [ho, hk] at h1
    have hone' : (cs'.drop j).take 1 = [cs'[j]'(by omega)] := by
      rw [List.drop_eq_getElem_cons (by omega)]
      rfl
    rw [hone'] at h1
    have hys : ys[j]? = some (ys[j]'(by omega)) := List.getElem?_eq_getElem (by omega)
    refine ⟨_, _, ?_, hys, h1.trans hys⟩
    rw [← Go.Deep.add_add, hcell, hv]
end
/-- The cell of an integer field. -/
theorem int_cell {H : Type} {enc : TypeId × Value → H} {P : Program} {w : World} {base : Nat} {spare : Nat → Bool} {held : Bool} {t : TypeId} {k : IntKind} {n : Nat} {v : Value} {y : DataW H × List MemPlace} (ht : P.underlying t = some (.int k)) (h : DataW.trod enc P w base spare held n t [v] = some y) :
    ∃ i, v = .int k i ∧ (Lit.int k i).wf = true := by
  obtain ⟨i, h1, _, hw⟩ := DataW.trod_int ht h
  simp at h1
  exact ⟨i, h1, hw⟩
theorem bool_cell {H : Type} {enc : TypeId × Value → H} {P : Program} {w : World} {base : Nat} {spare : Nat → Bool} {held : Bool} {t : TypeId} {n : Nat} {v : Value} {y : DataW H × List MemPlace} (ht : P.underlying t = some .bool) (h : DataW.trod enc P w base spare held n t [v] = some y) :
    ∃ i, v = .bool i := by
  obtain ⟨i, h1, _⟩ := DataW.trod_bool ht h
  simp at h1
  exact ⟨i, h1⟩
theorem u8_wf {i : Int} (h : (Lit.int .u8 i).wf = true) : 0 ≤ i ∧ i < 256 := by
  simp [Lit.wf, IntKind.min, IntKind.max, IntKind.signed, IntKind.bits] at h; omega
theorem i64_wf {i : Int} (h : (Lit.int .i64 i).wf = true) : -9223372036854775808 ≤ i ∧ i ≤ 9223372036854775807 := by
  simp [Lit.wf, IntKind.min, IntKind.max, IntKind.signed, IntKind.bits] at h; omega
end Go.Proofs.Ytagcifbfokneoaa.Den
end

section
set_option linter.unusedVariables false
set_option linter.unusedSimpArgs false
set_option maxRecDepth 8000
namespace Go.Proofs.Ytagcifbfokneoaa.Den
open Go Go.Joins Go.RowKit Go.ChangeShapes Go.WideShapes Go.ChangeAt Go.Deep
noncomputable def structOf (t : TypeId) : Array Field := match Try.prog.underlying t with | some (.struct fs) => fs | _ => #[]
noncomputable def fieldT (t : TypeId) (j : Nat) : Option TypeId := ((structOf t)[j]?).map (·.type)
theorem field_of {t : TypeId} {j ft : Nat} (h : fieldT t j = some ft) : ∃ f : Field, (structOf t)[j]? = some f ∧ f.type = ft := by
  unfold fieldT at h
  cases hf : (structOf t)[j]? with
  | none => simp [hf] at h
  | some f => exact ⟨f, rfl, by simpa [hf] using h⟩
section
variable {H : Type} {enc : TypeId × Value → H} {P : Program} {w : World} {base : Nat} {spare : Nat → Bool} {held : Bool}
theorem slice_open {α : Type} {C : Cod α} {p : α → Prop} {t e : TypeId} {fuel : Nat} {cs : List Value} {x : DataW H × List MemPlace} (ht : P.underlying t = some (.slice e)) (hC : P.cellsOf e = C.sz)
    (hop : ∀ fuel cs x, DataW.trod enc P w base spare held fuel e cs = some x → cs.length = C.sz → ∃ a, cs = C.enc a ∧ p a) (h : DataW.trod enc P w base spare held fuel t cs = some x) :
    ∃ s xs, cs = [s] ∧ TR C w [] s xs ∧ (∀ a ∈ xs, p a) ∧ xs.length < 2 ^ 63 := by
  rcases open_slice ht h with ⟨h0, _⟩ | ⟨a, len, cap, m, n, D, Pl, hcs, hb, hl, hcap, hmm, hx, hi⟩
  · exact ⟨.slice none 0 0, [], h0, TR.nil, by simp, by simp⟩
  · have hel : ∀ i, i < len → ∃ x : α, p x ∧ ∀ j, j < C.sz → w.cell? (a.add (i * C.sz + j)) = (C.enc x)[j]? := by
      intro i hil
      obtain ⟨cs', hc, ht'⟩ := hi i (by rw [hmm]; split <;> omega)
      rw [hC] at hc
      obtain ⟨_, hcl, hat⟩ := World.cells?_some hc
      obtain ⟨x, rfl, hp⟩ := hop _ _ _ ht' hcl
      refine ⟨x, hp, fun j hj => ?_⟩
      rw [← Go.Deep.add_add]; exact hat j hj
    have hxs : ∃ xs : List α, xs.length = len ∧ ∀ (i : Nat) x, xs[i]? = some x → p x ∧ ∀ j, j < C.sz → w.cell? (a.add (i * C.sz + j)) = (C.enc x)[j]? := by
      clear hi hx hmm hl hcap hcs
      induction len with
      | zero => exact ⟨[], rfl, by simp⟩
      | succ len ih =>
        obtain ⟨xs, h1, h2⟩ := ih fun i hi => hel i (by omega)
        obtain ⟨x, hx⟩ := hel len (by omega)
        refine ⟨xs ++ [x], by simp [h1], fun i y hy => ?_⟩
        by_cases hi : i < xs.length
        · rw [List.getElem?_append_left hi] at hy; exact h2 i y hy
        · have hl := (List.getElem?_eq_some_iff.1 hy).1
          simp at hl
          obtain rfl : i = len := by omega
          rw [List.getElem?_append_right (by omega), h1, Nat.sub_self] at hy
          simp at hy; subst hy; exact hx
    obtain ⟨xs, h1, h2⟩ := hxs
    refine ⟨.slice (some a) len cap, xs, hcs, .inl (.inr ⟨a, cap, by rw [h1], by omega, ?_⟩), fun y hy => ?_, ?_⟩
    · refine (cellsAt_spec _ _ _).2 ⟨all_len, fun j hj => ?_⟩
      rw [Nat.zero_add]
      by_cases hz : C.sz = 0
      · rw [hz] at hj; omega
      · have hd : j / C.sz < xs.length := (Nat.div_lt_iff_lt_mul (by omega)).2 hj
        have e : j / C.sz * C.sz + j % C.sz = j := by rw [Nat.mul_comm]; exact Nat.div_add_mod _ _
        have hm : j % C.sz < C.sz := Nat.mod_lt _ (by omega)
        obtain ⟨y, hy⟩ : ∃ y, xs[j / C.sz]? = some y := ⟨_, List.getElem?_eq_getElem hd⟩
        have := (h2 _ y hy).2 _ hm
        rw [e] at this
        rw [this]
        have := all_get (C := C) hy hm
        rw [e] at this
        exact this.symm
    · obtain ⟨i, hi, e⟩ := List.getElem_of_mem hy
      exact (h2 i y (by rw [List.getElem?_eq_getElem hi, e])).1
    · have : maxLen < 2 ^ 63 := by decide
      omega
theorem struct_cells {t : TypeId} {fs : Array Field} {fuel : Nat} {cs : List Value} {x : DataW H × List MemPlace} (ht : P.underlying t = some (.struct fs)) (hone : oneCellFields P fs = true) (hl : cs.length = fs.size)
    (h : DataW.trod enc P w base spare held fuel t cs = some x) : ∀ (j : Nat) (f : Field), fs[j]? = some f → ∃ (v : Value) (n : Nat) (y : DataW H × List MemPlace), cs[j]? = some v ∧ DataW.trod enc P w base spare held n f.type [v] = some y := by
  obtain ⟨ys, n', hn', hy, hlen, hyl, hf⟩ := DataW.trod_struct ht h
  intro j f hj
  obtain ⟨ho, hk⟩ := hone_of hone j f hj
  have hjl : j < fs.size := (Array.getElem?_eq_some_iff.1 hj).1
  have h1 := hf j f hj
  rw [ho, hk] at h1
  have hone' : (cs.drop j).take 1 = [cs[j]'(by omega)] := by
    rw [List.drop_eq_getElem_cons (by omega)]
    rfl
  rw [hone'] at h1
  have hys : ys[j]? = some (ys[j]'(by omega)) := List.getElem?_eq_getElem (by omega)
  exact ⟨_, n', _, List.getElem?_eq_getElem (by omega), h1.trans hys⟩
end
end Go.Proofs.Ytagcifbfokneoaa.Den
end

section
set_option linter.unusedVariables false
set_option linter.unusedSimpArgs false
set_option maxRecDepth 8000
namespace Go.Proofs.Ytagcifbfokneoaa.Den
open Go Go.Joins Go.RowKit Go.ChangeShapes Go.WideShapes Go.ChangeAt Go.Deep
theorem und3 : Try.prog.underlying 3 = some (.int .i64) := by kernel_rfl
theorem und4 : Try.prog.underlying 4 = some .bool := by kernel_rfl
theorem und5 : Try.prog.underlying 5 = some (.int .u8) := by kernel_rfl
theorem und22 : Try.prog.underlying 22 = some (.slice 3) := by kernel_rfl
theorem und23 : Try.prog.underlying 23 = some (.slice 39) := by kernel_rfl
theorem und25 : Try.prog.underlying 25 = some (.struct (structOf 25)) := by kernel_rfl
theorem und39 : Try.prog.underlying 39 = some (.struct (structOf 39)) := by kernel_rfl
section
variable {H : Type} {enc : TypeId × Value → H} {w : World} {base : Nat} {spare : Nat → Bool} {held : Bool}
theorem ints_open {fuel : Nat} {cs : List Value} {x : DataW H × List MemPlace} (h : DataW.trod enc Try.prog w base spare held fuel 22 cs = some x) :
    ∃ s xs, cs = [s] ∧ TR cI w [] s xs ∧ xs.length < 2 ^ 63 := by
  obtain ⟨s, xs, h1, h2, _, h3⟩ := slice_open (C := cI) (p := fun _ => True) und22 (by kernel_rfl) (fun fuel cs x h hl => by
    match cs, hl with
    | [v], _ => obtain ⟨i, rfl, _⟩ := int_cell und3 h; exact ⟨i, rfl, trivial⟩) h
  exact ⟨s, xs, h1, h2, h3⟩
theorem edge_open {fuel : Nat} {cs : List Value} {x : DataW H × List MemPlace} (h : DataW.trod enc Try.prog w base spare held fuel 39 cs = some x) (hl : cs.length = 2) : ∃ a b : Int, cs = [I a, I b] := by
  have hc := struct_cells und39 (by kernel_rfl) (hl.trans (by kernel_rfl)) h
  match cs, hl with
  | [v0, v1], _ =>
    obtain ⟨f0, g0, e0⟩ := field_of (t := 39) (j := 0) (ft := 3) (by kernel_rfl)
    obtain ⟨_, _, _, c0, t0⟩ := hc 0 f0 g0
    rw [e0] at t0
    obtain ⟨f1, g1, e1⟩ := field_of (t := 39) (j := 1) (ft := 3) (by kernel_rfl)
    obtain ⟨_, _, _, c1, t1⟩ := hc 1 f1 g1
    rw [e1] at t1
    simp at c0 c1
    subst c0 c1
    obtain ⟨a, rfl, _⟩ := int_cell und3 t0
    obtain ⟨b, rfl, _⟩ := int_cell und3 t1
    exact ⟨a, b, rfl⟩
theorem edges_open {fuel : Nat} {cs : List Value} {x : DataW H × List MemPlace} (h : DataW.trod enc Try.prog w base spare held fuel 23 cs = some x) :
    ∃ s xs, cs = [s] ∧ TR cE w [] s xs ∧ xs.length < 2 ^ 63 := by
  obtain ⟨s, xs, h1, h2, _, h3⟩ := slice_open (C := cE) (p := fun _ => True) und23 (by kernel_rfl) (fun fuel cs x h hl => by
    obtain ⟨a, b, rfl⟩ := edge_open h hl
    exact ⟨(a, b), rfl, trivial⟩) h
  exact ⟨s, xs, h1, h2, h3⟩
theorem graph_open {b0 : Nat} {v : Value} {d : DataW H} {p : List MemPlace} (hv : Value.okWide Try.prog w .any b0 25 v) (h : DataW.Trod enc Try.prog w base spare held 25 v d p) :
    ∃ sb se base es, v = .agg ⟨[sb, se]⟩ ∧ TR cI w [] sb base ∧ TR cE w [] se es := by
  obtain ⟨cs, rfl, hsz⟩ := okWide_struct und25 hv
  obtain ⟨l⟩ := cs
  obtain ⟨fuel, hf⟩ := h
  have hl : l.length = 2 := hsz.trans (by kernel_rfl)
  have hc := struct_cells und25 (by kernel_rfl) (hl.trans (by kernel_rfl)) hf
  match l, hl with
  | [v0, v1], _ =>
    obtain ⟨f0, g0, e0⟩ := field_of (t := 25) (j := 0) (ft := 22) (by kernel_rfl)
    obtain ⟨_, _, _, c0, t0⟩ := hc 0 f0 g0
    rw [e0] at t0
    obtain ⟨f1, g1, e1⟩ := field_of (t := 25) (j := 1) (ft := 23) (by kernel_rfl)
    obtain ⟨_, _, _, c1, t1⟩ := hc 1 f1 g1
    rw [e1] at t1
    simp [Value.cells] at c0 c1
    subst c0 c1
    obtain ⟨sb, xs, h1, h2, _⟩ := ints_open t0
    obtain ⟨se, ys, h3, h4, _⟩ := edges_open t1
    injection h1 with h1 _
    injection h3 with h3 _
    subst h1 h3
    exact ⟨_, _, xs, ys, rfl, h2, h4⟩
theorem int_open {v : Value} {d : DataW H} {p : List MemPlace} {b0 : Nat} (hv : Value.okWide Try.prog w .any b0 3 v) (h : DataW.Trod enc Try.prog w base spare held 3 v d p) : ∃ i, v = I i := by
  obtain ⟨fuel, hf⟩ := h
  obtain ⟨i, h1, _, _⟩ := DataW.trod_int und3 hf
  cases v <;> simp [Value.cells] at h1
  · rename_i k n
    obtain ⟨rfl, rfl⟩ := h1; exact ⟨_, rfl⟩
  · simp only [Value.okWide, und3] at hv
    simp_all [Cell.okWide, Cell.ok]
end
end Go.Proofs.Ytagcifbfokneoaa.Den
end
