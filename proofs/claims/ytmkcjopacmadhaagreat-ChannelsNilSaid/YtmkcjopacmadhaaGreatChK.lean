/- Channels: insertion in order. Conditions: none. -/
import Derived.Test.YtmkcjopacmadhaaGreatChJ
set_option linter.unusedVariables false
set_option linter.unusedSimpArgs false
set_option maxRecDepth 8000
set_option maxHeartbeats 2000000
namespace Go.Proofs.YtmkcjopacmadhaaGreat.Den
open Go Go.RowKit
theorem bfr_trans {a b c d e f : Int} (h1 : bfr a b c d = true) (h2 : bfr c d e f = true) : bfr a b e f = true := by
  unfold bfr at *
  simp only [Bool.or_eq_true, Bool.and_eq_true, decide_eq_true_eq] at *
  omega
/-- In order. -/
def SrtE (l : List Ent) : Prop := l.Pairwise fun a b => bfr a.pri a.com b.pri b.com = true
theorem insE_at {x : Ent} : ∀ {xs : List Ent} {i : Nat}, i ≤ xs.length → (∀ (k : Nat) a, k < i → xs[k]? = some a → bfr a.pri a.com x.pri x.com = true) → (∀ a, xs[i]? = some a → bfr a.pri a.com x.pri x.com = false) → xs.take i ++ x :: xs.drop i = insE x xs
  | [], i, hi, h1, h2 => by
    obtain rfl : i = 0 := by simpa using hi
    rfl
  | y :: l, 0, hi, h1, h2 => by
    have := h2 y rfl
    simp [insE, this]
  | y :: l, i + 1, hi, h1, h2 => by
    have := h1 0 y (by omega) rfl
    have ih := insE_at (x := x) (xs := l) (i := i) (by simpa using hi) (fun k a hk ha => h1 (k + 1) a (by omega) (by simpa using ha)) (fun a ha => h2 a (by simpa using ha))
    simp [insE, this, ← ih]
section
variable {w w' w0 : World} {L L' F cs cs2 cs3 : List Chunk} {s s2 : Value} {K : VK} {R : ER}
theorem insE_spec {xs : List Ent} {x : Ent} {g : Nat} (hg : OfE g) (h : TS cEn 110 s xs cs) (hs : SrtE xs) (hl : xs.length < 2 ^ 30) (H : Hp w0 w (cs ++ F)) :
    Calls Pg 130 ⟨[s, .agg ⟨x.cells⟩, .func (.func g) ⟨[]⟩ ⟨[]⟩]⟩ w fun e w' => ∃ s' cs', e = .returned s' ∧ Hp w0 w' (cs' ++ F) ∧ TS cEn 110 s' (insE x xs) cs' := by
  apply F130_calls
  unfold F130
  have hxl : x.cells.length = 11 := rfl
  refine bx_m H fun w bx H => ?_
  refine bxs_h H rfl fun w fb H => ?_
  repeat (first | simp only [W0] | refine lss_a ?_ | refine lss_b ?_ | refine gtr_a ?_ | refine gtr_b ?_ | refine geq_a ?_ | refine geq_b ?_ | refine leq_a ?_ | refine leq_b ?_ | refine eql_a ?_ | refine eql_b ?_ | refine neq_a ?_ | refine neq_b ?_ | refine add_a ?_ | refine sub_a ?_ | refine ld_a ?_ | refine ldA_a ?_ | refine ldS_a ?_ | refine ldNS_a ?_ | refine rdA_s ?_ | refine rd1_s ?_ | refine drew_a fun w1 H1 => ?_ | refine st_a fun w1 H1 => ?_ | refine stA_a fun w1 H1 => ?_ | refine lenT_a ?_ | refine lenO_a ?_ | refine ixT_a ?_ | refine ixO_a ?_ | refine bld_a ?_ | refine min_a ?_ | refine max_a ?_ | fail)
  refine calD_k (a := []) (c := []) hg.ok ?_
  refine cal_h (hg.sp x w0 _ _ (by assumption)) ?_
  rintro _ w2 ⟨rfl, H2⟩
  simp only [ret_k]
  refine cal_h (bsE_spec (p := x.pri) (q := x.com) (f := 159) (cap := [ptr fb 0]) (cv := fun y => ocv x.pri x.com y.pri y.com) h.tr H2 (by intro c hc; simp [hc]) (by omega) (by kernel_rfl) (fun y hy w c H => insEC_spec hg H (Has.cons Has.here)) (fun i j a b hij ha hb hn => ?_)) ?_
  · rw [ocv_neg] at hn ⊢
    refine bfr_trans ?_ hn
    obtain ⟨h1, rfl⟩ := List.getElem?_eq_some_iff.1 ha
    obtain ⟨h2, rfl⟩ := List.getElem?_eq_some_iff.1 hb
    exact List.pairwise_iff_getElem.1 hs i j h1 h2 hij
  rintro _ w3 ⟨i, fd, rfl, H3, hi, hlo, hhi⟩
  repeat (first | simp only [W0] | refine lss_a ?_ | refine lss_b ?_ | refine gtr_a ?_ | refine gtr_b ?_ | refine geq_a ?_ | refine geq_b ?_ | refine leq_a ?_ | refine leq_b ?_ | refine eql_a ?_ | refine eql_b ?_ | refine neq_a ?_ | refine neq_b ?_ | refine add_a ?_ | refine sub_a ?_ | refine ld_a ?_ | refine ldA_a ?_ | refine ldS_a ?_ | refine ldNS_a ?_ | refine rdA_s ?_ | refine rd1_s ?_ | refine drew_a fun w1 H1 => ?_ | refine st_a fun w1 H1 => ?_ | refine stA_a fun w1 H1 => ?_ | refine lenT_a ?_ | refine lenO_a ?_ | refine ixT_a ?_ | refine ixO_a ?_ | refine bld_a ?_ | refine min_a ?_ | refine max_a ?_ | fail)
  refine lit1_t (C := cEn) (x := x) elEn H3 rfl (by decide) fun w4 s4 cs4 H4 h4 => ?_
  refine cal_h (sInsE_spec (F := ⟨fb, 192, [.func (.func g) ⟨[]⟩ ⟨[]⟩]⟩ :: ⟨bx, 110, x.cells⟩ :: F) h hi h4 hl (H4.re)) ?_
  rintro _ w5 ⟨s', cs', rfl, H5, h5⟩
  rw [insE_at hi (fun k a hk ha => ocv_neg.1 (hlo k a hk ha)) (fun a ha => by
    have := hhi i a (Nat.le_refl _) ha
    cases hb : bfr a.pri a.com x.pri x.com with
    | false => rfl
    | true => have := ocv_neg.2 hb; omega)] at h5
  exact ⟨s', cs', rfl, H5.re, h5⟩
end
/-- In order. -/
def SrtR (l : List Rcv) : Prop := l.Pairwise fun a b => bfr a.pri a.com b.pri b.com = true
theorem insR_at {x : Rcv} : ∀ {xs : List Rcv} {i : Nat}, i ≤ xs.length → (∀ (k : Nat) a, k < i → xs[k]? = some a → bfr a.pri a.com x.pri x.com = true) → (∀ a, xs[i]? = some a → bfr a.pri a.com x.pri x.com = false) → xs.take i ++ x :: xs.drop i = insR x xs
  | [], i, hi, h1, h2 => by
    obtain rfl : i = 0 := by simpa using hi
    rfl
  | y :: l, 0, hi, h1, h2 => by
    have := h2 y rfl
    simp [insR, this]
  | y :: l, i + 1, hi, h1, h2 => by
    have := h1 0 y (by omega) rfl
    have ih := insR_at (x := x) (xs := l) (i := i) (by simpa using hi) (fun k a hk ha => h1 (k + 1) a (by omega) (by simpa using ha)) (fun a ha => h2 a (by simpa using ha))
    simp [insR, this, ← ih]
section
variable {w w' w0 : World} {L L' F cs cs2 cs3 : List Chunk} {s s2 : Value} {K : VK} {R : ER}
theorem insR_spec {xs : List Rcv} {x : Rcv} {g : Nat} (hg : OfR g) (h : TS cRc 107 s xs cs) (hs : SrtR xs) (hl : xs.length < 2 ^ 30) (H : Hp w0 w (cs ++ F)) :
    Calls Pg 85 ⟨[s, .agg ⟨x.cells⟩, .func (.func g) ⟨[]⟩ ⟨[]⟩]⟩ w fun e w' => ∃ s' cs', e = .returned s' ∧ Hp w0 w' (cs' ++ F) ∧ TS cRc 107 s' (insR x xs) cs' := by
  apply F85_calls
  unfold F85
  have hxl : x.cells.length = 4 := rfl
  refine bx_m H fun w bx H => ?_
  refine bxs_h H rfl fun w fb H => ?_
  repeat (first | simp only [W0] | refine lss_a ?_ | refine lss_b ?_ | refine gtr_a ?_ | refine gtr_b ?_ | refine geq_a ?_ | refine geq_b ?_ | refine leq_a ?_ | refine leq_b ?_ | refine eql_a ?_ | refine eql_b ?_ | refine neq_a ?_ | refine neq_b ?_ | refine add_a ?_ | refine sub_a ?_ | refine ld_a ?_ | refine ldA_a ?_ | refine ldS_a ?_ | refine ldNS_a ?_ | refine rdA_s ?_ | refine rd1_s ?_ | refine drew_a fun w1 H1 => ?_ | refine st_a fun w1 H1 => ?_ | refine stA_a fun w1 H1 => ?_ | refine lenT_a ?_ | refine lenO_a ?_ | refine ixT_a ?_ | refine ixO_a ?_ | refine bld_a ?_ | refine min_a ?_ | refine max_a ?_ | fail)
  refine calD_k (a := []) (c := []) hg.ok ?_
  refine cal_h (hg.sp x w0 _ _ (by assumption)) ?_
  rintro _ w2 ⟨rfl, H2⟩
  simp only [ret_k]
  refine cal_h (bsR_spec (p := x.pri) (q := x.com) (f := 133) (cap := [ptr fb 0]) (cv := fun y => ocv x.pri x.com y.pri y.com) h.tr H2 (by intro c hc; simp [hc]) (by omega) (by kernel_rfl) (fun y hy w c H => insRC_spec hg H (Has.cons Has.here)) (fun i j a b hij ha hb hn => ?_)) ?_
  · rw [ocv_neg] at hn ⊢
    refine bfr_trans ?_ hn
    obtain ⟨h1, rfl⟩ := List.getElem?_eq_some_iff.1 ha
    obtain ⟨h2, rfl⟩ := List.getElem?_eq_some_iff.1 hb
    exact List.pairwise_iff_getElem.1 hs i j h1 h2 hij
  rintro _ w3 ⟨i, fd, rfl, H3, hi, hlo, hhi⟩
  repeat (first | simp only [W0] | refine lss_a ?_ | refine lss_b ?_ | refine gtr_a ?_ | refine gtr_b ?_ | refine geq_a ?_ | refine geq_b ?_ | refine leq_a ?_ | refine leq_b ?_ | refine eql_a ?_ | refine eql_b ?_ | refine neq_a ?_ | refine neq_b ?_ | refine add_a ?_ | refine sub_a ?_ | refine ld_a ?_ | refine ldA_a ?_ | refine ldS_a ?_ | refine ldNS_a ?_ | refine rdA_s ?_ | refine rd1_s ?_ | refine drew_a fun w1 H1 => ?_ | refine st_a fun w1 H1 => ?_ | refine stA_a fun w1 H1 => ?_ | refine lenT_a ?_ | refine lenO_a ?_ | refine ixT_a ?_ | refine ixO_a ?_ | refine bld_a ?_ | refine min_a ?_ | refine max_a ?_ | fail)
  refine lit1_t (C := cRc) (x := x) elRc H3 rfl (by decide) fun w4 s4 cs4 H4 h4 => ?_
  refine cal_h (sInsR_spec (F := ⟨fb, 150, [.func (.func g) ⟨[]⟩ ⟨[]⟩]⟩ :: ⟨bx, 107, x.cells⟩ :: F) h hi h4 hl (H4.re)) ?_
  rintro _ w5 ⟨s', cs', rfl, H5, h5⟩
  rw [insR_at hi (fun k a hk ha => ocv_neg.1 (hlo k a hk ha)) (fun a ha => by
    have := hhi i a (Nat.le_refl _) ha
    cases hb : bfr a.pri a.com x.pri x.com with
    | false => rfl
    | true => have := ocv_neg.2 hb; omega)] at h5
  exact ⟨s', cs', rfl, H5.re, h5⟩
end
end Go.Proofs.YtmkcjopacmadhaaGreat.Den
