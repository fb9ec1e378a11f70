/- Inherit: the program's tracker, Remove and SetBase. Conditions: none. -/
import Derived.Test.YtagcifbfokneoaaIhTv
set_option linter.unusedVariables false
set_option linter.unusedSimpArgs false
set_option maxRecDepth 8000
set_option maxHeartbeats 1000000
namespace Go.Proofs.Ytagcifbfokneoaa.Den
open Go Go.RowKit
def remE (E : List (Nat × Nat)) (e : Int × Int) : List (Nat × Nat) := E.filter fun x => decide (ofN x ≠ e)
section
variable {w w' w0 : World} {L L' F cs cs2 cs3 cb ce C : List Chunk} {s s2 sb se sd : Value} {K : VK} {R : ER} {base eff : List Int} {E E' : List (Nat × Nat)} {bt bm clock : Nat} {ents : List ((Int × Int) × Bool × Nat)}
theorem St.rem {e : Int × Int} (hS : St base E) : St base (remE E e) :=
  ⟨hS.len, hS.rg, fun x hx => hS.va x (List.mem_filter.1 hx).1, hS.nd.filter _, Nat.le_trans (List.length_filter_le _ _) hS.el⟩
theorem rem_spec {e : Int × Int} (hS : St base E) (hel : eff.length = base.length) (hT : PTr bt base E eff C) (H : Hp w0 w (C ++ L)) :
    Calls Pg 28 ⟨[ptr bt 0, .agg ⟨[I e.1, I e.2]⟩]⟩ w (OpQ 103 (PTr bt) (remC base E e) base E eff base (remE E e) w0 L) := by
  have hT0 := hT
  obtain ⟨bm, sb, se, cb, ce, ents, clock, rfl, hb, he, hw, hk, ht⟩ := hT
  have hkl : ents.length = E.length := by have := congrArg List.length hk; simpa [mkeys] using this
  apply F28_calls
  unfold F28
  refine bx_m H fun w b H => ?_
  try unfold F28_j2
  repeat (first | simp only [cI_enc, cE_enc, cN_enc, W0] | refine lss_a ?_ | refine lss_b ?_ | refine gtr_a ?_ | refine gtr_b ?_ | refine geq_a ?_ | refine geq_b ?_ | refine leq_a ?_ | refine leq_b ?_ | refine eql_a ?_ | refine eql_b ?_ | refine neq_a ?_ | refine neq_b ?_ | refine add_a ?_ | refine sub_a ?_ | refine ld_a ?_ | refine ldA_a ?_ | refine ldS_a ?_ | refine ldNS_a ?_ | refine rdA_s ?_ | refine rd1_s ?_ | refine drew_a fun w1 H1 => ?_ | refine st_a fun w1 H1 => ?_ | refine stA_a fun w1 H1 => ?_ | refine lenT_a ?_ | refine lenO_a ?_ | refine ixT_a ?_ | refine ixO_a ?_ | fail)
  try unfold F28_j3
  repeat (first | simp only [cI_enc, cE_enc, cN_enc, W0] | refine lss_a ?_ | refine lss_b ?_ | refine gtr_a ?_ | refine gtr_b ?_ | refine geq_a ?_ | refine geq_b ?_ | refine leq_a ?_ | refine leq_b ?_ | refine eql_a ?_ | refine eql_b ?_ | refine neq_a ?_ | refine neq_b ?_ | refine add_a ?_ | refine sub_a ?_ | refine ld_a ?_ | refine ldA_a ?_ | refine ldS_a ?_ | refine ldNS_a ?_ | refine rdA_s ?_ | refine rd1_s ?_ | refine drew_a fun w1 H1 => ?_ | refine st_a fun w1 H1 => ?_ | refine stA_a fun w1 H1 => ?_ | refine lenT_a ?_ | refine lenO_a ?_ | refine ixT_a ?_ | refine ixO_a ?_ | fail)
  try unfold F28_j4
  repeat (first | simp only [cI_enc, cE_enc, cN_enc, W0] | refine lss_a ?_ | refine lss_b ?_ | refine gtr_a ?_ | refine gtr_b ?_ | refine geq_a ?_ | refine geq_b ?_ | refine leq_a ?_ | refine leq_b ?_ | refine eql_a ?_ | refine eql_b ?_ | refine neq_a ?_ | refine neq_b ?_ | refine add_a ?_ | refine sub_a ?_ | refine ld_a ?_ | refine ldA_a ?_ | refine ldS_a ?_ | refine ldNS_a ?_ | refine rdA_s ?_ | refine rd1_s ?_ | refine drew_a fun w1 H1 => ?_ | refine st_a fun w1 H1 => ?_ | refine stA_a fun w1 H1 => ?_ | refine lenT_a ?_ | refine lenO_a ?_ | refine ixT_a ?_ | refine ixO_a ?_ | fail)
  refine cal_h (has57 (s := .map (some bm)) (se := se) hb (L := ⟨b, 39, [I e.1, I e.2]⟩ :: ⟨bm, .o (mobj kE Value.bool ents clock), []⟩ :: (cb ++ (ce ++ L))) (Hp.re (by assumption))) ?_
  rintro _ w ⟨rfl, H⟩
  have bad : ∀ {w : World} {c : Int}, remC base E e = c → c ≠ 0 → Hp w0 w (⟨bt, 88, [sb, .map (some bm), se]⟩ :: ⟨b, 39, [I e.1, I e.2]⟩ :: ⟨bm, .o (mobj kE Value.bool ents clock), []⟩ :: (cb ++ (ce ++ L))) →
      OpQ 103 (PTr bt) (remC base E e) base E eff base (remE E e) w0 L (.returned (.tuple ⟨[.slice none 0 0, I c]⟩)) w := by
    intro w c hc h0 H
    exact .inl ⟨by omega, by rw [hc], _, hT0, Hp.re (by assumption)⟩
  cases g1 : inR base.length e.1 with
  | false =>
    repeat (first | simp only [cI_enc, cE_enc, cN_enc, W0] | refine lss_a ?_ | refine lss_b ?_ | refine gtr_a ?_ | refine gtr_b ?_ | refine geq_a ?_ | refine geq_b ?_ | refine leq_a ?_ | refine leq_b ?_ | refine eql_a ?_ | refine eql_b ?_ | refine neq_a ?_ | refine neq_b ?_ | refine add_a ?_ | refine sub_a ?_ | refine ld_a ?_ | refine ldA_a ?_ | refine ldS_a ?_ | refine ldNS_a ?_ | refine rdA_s ?_ | refine rd1_s ?_ | refine drew_a fun w1 H1 => ?_ | refine st_a fun w1 H1 => ?_ | refine stA_a fun w1 H1 => ?_ | refine lenT_a ?_ | refine lenO_a ?_ | refine ixT_a ?_ | refine ixO_a ?_ | fail)
    try unfold F28_j5
    repeat (first | simp only [cI_enc, cE_enc, cN_enc, W0] | refine lss_a ?_ | refine lss_b ?_ | refine gtr_a ?_ | refine gtr_b ?_ | refine geq_a ?_ | refine geq_b ?_ | refine leq_a ?_ | refine leq_b ?_ | refine eql_a ?_ | refine eql_b ?_ | refine neq_a ?_ | refine neq_b ?_ | refine add_a ?_ | refine sub_a ?_ | refine ld_a ?_ | refine ldA_a ?_ | refine ldS_a ?_ | refine ldNS_a ?_ | refine rdA_s ?_ | refine rd1_s ?_ | refine drew_a fun w1 H1 => ?_ | refine st_a fun w1 H1 => ?_ | refine stA_a fun w1 H1 => ?_ | refine lenT_a ?_ | refine lenO_a ?_ | refine ixT_a ?_ | refine ixO_a ?_ | fail)
    exact bad (by unfold remC; rw [if_pos (by simp [g1])]) (by decide) (by assumption)
  | true =>
    repeat (first | simp only [cI_enc, cE_enc, cN_enc, W0] | refine lss_a ?_ | refine lss_b ?_ | refine gtr_a ?_ | refine gtr_b ?_ | refine geq_a ?_ | refine geq_b ?_ | refine leq_a ?_ | refine leq_b ?_ | refine eql_a ?_ | refine eql_b ?_ | refine neq_a ?_ | refine neq_b ?_ | refine add_a ?_ | refine sub_a ?_ | refine ld_a ?_ | refine ldA_a ?_ | refine ldS_a ?_ | refine ldNS_a ?_ | refine rdA_s ?_ | refine rd1_s ?_ | refine drew_a fun w1 H1 => ?_ | refine st_a fun w1 H1 => ?_ | refine stA_a fun w1 H1 => ?_ | refine lenT_a ?_ | refine lenO_a ?_ | refine ixT_a ?_ | refine ixO_a ?_ | fail)
    refine cal_h (has57 (s := .map (some bm)) (se := se) hb (L := ⟨b, 39, [I e.1, I e.2]⟩ :: ⟨bm, .o (mobj kE Value.bool ents clock), []⟩ :: (cb ++ (ce ++ L))) (Hp.re (by assumption))) ?_
    rintro _ w ⟨rfl, H⟩
    cases g2 : inR base.length e.2 with
    | false =>
      repeat (first | simp only [cI_enc, cE_enc, cN_enc, W0] | refine lss_a ?_ | refine lss_b ?_ | refine gtr_a ?_ | refine gtr_b ?_ | refine geq_a ?_ | refine geq_b ?_ | refine leq_a ?_ | refine leq_b ?_ | refine eql_a ?_ | refine eql_b ?_ | refine neq_a ?_ | refine neq_b ?_ | refine add_a ?_ | refine sub_a ?_ | refine ld_a ?_ | refine ldA_a ?_ | refine ldS_a ?_ | refine ldNS_a ?_ | refine rdA_s ?_ | refine rd1_s ?_ | refine drew_a fun w1 H1 => ?_ | refine st_a fun w1 H1 => ?_ | refine stA_a fun w1 H1 => ?_ | refine lenT_a ?_ | refine lenO_a ?_ | refine ixT_a ?_ | refine ixO_a ?_ | fail)
      try unfold F28_j5
      repeat (first | simp only [cI_enc, cE_enc, cN_enc, W0] | refine lss_a ?_ | refine lss_b ?_ | refine gtr_a ?_ | refine gtr_b ?_ | refine geq_a ?_ | refine geq_b ?_ | refine leq_a ?_ | refine leq_b ?_ | refine eql_a ?_ | refine eql_b ?_ | refine neq_a ?_ | refine neq_b ?_ | refine add_a ?_ | refine sub_a ?_ | refine ld_a ?_ | refine ldA_a ?_ | refine ldS_a ?_ | refine ldNS_a ?_ | refine rdA_s ?_ | refine rd1_s ?_ | refine drew_a fun w1 H1 => ?_ | refine st_a fun w1 H1 => ?_ | refine stA_a fun w1 H1 => ?_ | refine lenT_a ?_ | refine lenO_a ?_ | refine ixT_a ?_ | refine ixO_a ?_ | fail)
      exact bad (by unfold remC; rw [if_pos (by simp [g2])]) (by decide) (by assumption)
    | true =>
      have c0 : remC base E e = if e ∉ E.map ofN then 22 else 0 := by unfold remC; rw [if_neg (by simp [g1, g2])]
      repeat (first | simp only [cI_enc, cE_enc, cN_enc, W0] | refine lss_a ?_ | refine lss_b ?_ | refine gtr_a ?_ | refine gtr_b ?_ | refine geq_a ?_ | refine geq_b ?_ | refine leq_a ?_ | refine leq_b ?_ | refine eql_a ?_ | refine eql_b ?_ | refine neq_a ?_ | refine neq_b ?_ | refine add_a ?_ | refine sub_a ?_ | refine ld_a ?_ | refine ldA_a ?_ | refine ldS_a ?_ | refine ldNS_a ?_ | refine rdA_s ?_ | refine rd1_s ?_ | refine drew_a fun w1 H1 => ?_ | refine st_a fun w1 H1 => ?_ | refine stA_a fun w1 H1 => ?_ | refine lenT_a ?_ | refine lenO_a ?_ | refine ixT_a ?_ | refine ixO_a ?_ | fail)
      refine lookup_h mapE e (by assumption) has ?_
      rw [mem_get hk ht]
      by_cases hm : e ∈ E.map ofN
      rotate_left
      · rw [decide_eq_false hm]
        rw [if_pos hm] at c0
        repeat (first | simp only [cI_enc, cE_enc, cN_enc, W0] | refine lss_a ?_ | refine lss_b ?_ | refine gtr_a ?_ | refine gtr_b ?_ | refine geq_a ?_ | refine geq_b ?_ | refine leq_a ?_ | refine leq_b ?_ | refine eql_a ?_ | refine eql_b ?_ | refine neq_a ?_ | refine neq_b ?_ | refine add_a ?_ | refine sub_a ?_ | refine ld_a ?_ | refine ldA_a ?_ | refine ldS_a ?_ | refine ldNS_a ?_ | refine rdA_s ?_ | refine rd1_s ?_ | refine drew_a fun w1 H1 => ?_ | refine st_a fun w1 H1 => ?_ | refine stA_a fun w1 H1 => ?_ | refine lenT_a ?_ | refine lenO_a ?_ | refine ixT_a ?_ | refine ixO_a ?_ | fail)
        exact bad c0 (by decide) (by assumption)
      rw [decide_eq_true hm]
      rw [if_neg (not_not_intro hm)] at c0
      repeat (first | simp only [cI_enc, cE_enc, cN_enc, W0] | refine lss_a ?_ | refine lss_b ?_ | refine gtr_a ?_ | refine gtr_b ?_ | refine geq_a ?_ | refine geq_b ?_ | refine leq_a ?_ | refine leq_b ?_ | refine eql_a ?_ | refine eql_b ?_ | refine neq_a ?_ | refine neq_b ?_ | refine add_a ?_ | refine sub_a ?_ | refine ld_a ?_ | refine ldA_a ?_ | refine ldS_a ?_ | refine ldNS_a ?_ | refine rdA_s ?_ | refine rd1_s ?_ | refine drew_a fun w1 H1 => ?_ | refine st_a fun w1 H1 => ?_ | refine stA_a fun w1 H1 => ?_ | refine lenT_a ?_ | refine lenO_a ?_ | refine ixT_a ?_ | refine ixO_a ?_ | fail)
      try unfold F28_j1
      repeat (first | simp only [cI_enc, cE_enc, cN_enc, W0] | refine lss_a ?_ | refine lss_b ?_ | refine gtr_a ?_ | refine gtr_b ?_ | refine geq_a ?_ | refine geq_b ?_ | refine leq_a ?_ | refine leq_b ?_ | refine eql_a ?_ | refine eql_b ?_ | refine neq_a ?_ | refine neq_b ?_ | refine add_a ?_ | refine sub_a ?_ | refine ld_a ?_ | refine ldA_a ?_ | refine ldS_a ?_ | refine ldNS_a ?_ | refine rdA_s ?_ | refine rd1_s ?_ | refine drew_a fun w1 H1 => ?_ | refine st_a fun w1 H1 => ?_ | refine stA_a fun w1 H1 => ?_ | refine lenT_a ?_ | refine lenO_a ?_ | refine ixT_a ?_ | refine ixO_a ?_ | fail)
      refine delete_h mapE e (by assumption) updd fun w H => ?_
      have hS' := hS.rem (e := e)
      have hk' : mkeys (mdel e ents) = (remE E e).map ofN := by
        have e1 : (remE E e).map ofN = (E.map ofN).filter fun x => decide (x ≠ e) := by rw [remE, List.filter_map]; rfl
        rw [e1, ← hk, mdel_eq hw.nd, mkeys, mkeys, List.filter_map]
        rfl
      repeat (first | simp only [cI_enc, cE_enc, cN_enc, W0] | refine lss_a ?_ | refine lss_b ?_ | refine gtr_a ?_ | refine gtr_b ?_ | refine geq_a ?_ | refine geq_b ?_ | refine leq_a ?_ | refine leq_b ?_ | refine eql_a ?_ | refine eql_b ?_ | refine neq_a ?_ | refine neq_b ?_ | refine add_a ?_ | refine sub_a ?_ | refine ld_a ?_ | refine ldA_a ?_ | refine ldS_a ?_ | refine ldNS_a ?_ | refine rdA_s ?_ | refine rd1_s ?_ | refine drew_a fun w1 H1 => ?_ | refine st_a fun w1 H1 => ?_ | refine stA_a fun w1 H1 => ?_ | refine lenT_a ?_ | refine lenO_a ?_ | refine ixT_a ?_ | refine ixO_a ?_ | fail)
      refine cal_h (update_spec (bm := bm) (F := ⟨b, 39, [I e.1, I e.2]⟩ :: L) hb he hel hw.del hk' hS'.nd hS'.el hS'.len hS'.rg hS'.va (Hp.re (by assumption))) ?_
      rintro _ w ⟨s, cs, se', ce', now, rfl, H, hse, hio, hcs⟩
      simp only [ret_k]
      exact .inr ⟨c0, s, cs, now, ⟨bt, 88, [sb, .map (some bm), se']⟩ :: ⟨bm, .o (mobj kE Value.bool (mdel e ents) clock), []⟩ :: (cb ++ ce'), rfl, hio, hcs, ⟨bm, sb, se', cb, ce', _, _, rfl, hb, hse, hw.del, hk', by intro x hx; rw [mdel_eq hw.nd] at hx; exact ht x (List.mem_filter.1 hx).1⟩, Hp.re (by assumption)⟩
theorem St.set {i : Nat} {p : Int} (hS : St base E) (h : 0 ≤ p ∧ p ≤ 255) : St (base.set i p) E :=
  ⟨by rw [List.length_set]; exact hS.len, fun x hx => by rcases List.mem_or_eq_of_mem_set hx with hx | rfl; exact hS.rg x hx; exact h, by rw [List.length_set]; exact hS.va, hS.nd, hS.el⟩
def setC (base : List Int) (t p : Int) : Int := if inR base.length t = true ∧ (0 ≤ p ∧ p ≤ 255) then 0 else 34
theorem set_spec {t p : Int} (hS : St base E) (hel : eff.length = base.length) (hT : PTr bt base E eff C) (H : Hp w0 w (C ++ L)) :
    Calls Pg 29 ⟨[ptr bt 0, I t, I p]⟩ w (OpQ 103 (PTr bt) (setC base t p) base E eff (base.set t.toNat p) E w0 L) := by
  have hT0 := hT
  obtain ⟨bm, sb, se, cb, ce, ents, clock, rfl, hb, he, hw, hk, ht⟩ := hT
  have bad : ∀ {w : World} {c : Int}, setC base t p = c → c ≠ 0 → Hp w0 w (⟨bt, 88, [sb, .map (some bm), se]⟩ :: ⟨bm, .o (mobj kE Value.bool ents clock), []⟩ :: (cb ++ (ce ++ L))) →
      OpQ 103 (PTr bt) (setC base t p) base E eff (base.set t.toNat p) E w0 L (.returned (.tuple ⟨[.slice none 0 0, I c]⟩)) w := by
    intro w c hc h0 H
    exact .inl ⟨by omega, by rw [hc], _, hT0, Hp.re (by assumption)⟩
  apply F29_calls
  unfold F29
  try unfold F29_j2
  repeat (first | simp only [cI_enc, cE_enc, cN_enc, W0] | refine lss_a ?_ | refine lss_b ?_ | refine gtr_a ?_ | refine gtr_b ?_ | refine geq_a ?_ | refine geq_b ?_ | refine leq_a ?_ | refine leq_b ?_ | refine eql_a ?_ | refine eql_b ?_ | refine neq_a ?_ | refine neq_b ?_ | refine add_a ?_ | refine sub_a ?_ | refine ld_a ?_ | refine ldA_a ?_ | refine ldS_a ?_ | refine ldNS_a ?_ | refine rdA_s ?_ | refine rd1_s ?_ | refine drew_a fun w1 H1 => ?_ | refine st_a fun w1 H1 => ?_ | refine stA_a fun w1 H1 => ?_ | refine lenT_a ?_ | refine lenO_a ?_ | refine ixT_a ?_ | refine ixO_a ?_ | fail)
  try unfold F29_j3
  repeat (first | simp only [cI_enc, cE_enc, cN_enc, W0] | refine lss_a ?_ | refine lss_b ?_ | refine gtr_a ?_ | refine gtr_b ?_ | refine geq_a ?_ | refine geq_b ?_ | refine leq_a ?_ | refine leq_b ?_ | refine eql_a ?_ | refine eql_b ?_ | refine neq_a ?_ | refine neq_b ?_ | refine add_a ?_ | refine sub_a ?_ | refine ld_a ?_ | refine ldA_a ?_ | refine ldS_a ?_ | refine ldNS_a ?_ | refine rdA_s ?_ | refine rd1_s ?_ | refine drew_a fun w1 H1 => ?_ | refine st_a fun w1 H1 => ?_ | refine stA_a fun w1 H1 => ?_ | refine lenT_a ?_ | refine lenO_a ?_ | refine ixT_a ?_ | refine ixO_a ?_ | fail)
  try unfold F29_j4
  refine cal_h (has57 (s := .map (some bm)) (se := se) hb (L := ⟨bm, .o (mobj kE Value.bool ents clock), []⟩ :: (cb ++ (ce ++ L))) (Hp.re (by assumption))) ?_
  rintro _ w ⟨rfl, H⟩
  cases g1 : inR base.length t with
  | false =>
    repeat (first | simp only [cI_enc, cE_enc, cN_enc, W0] | refine lss_a ?_ | refine lss_b ?_ | refine gtr_a ?_ | refine gtr_b ?_ | refine geq_a ?_ | refine geq_b ?_ | refine leq_a ?_ | refine leq_b ?_ | refine eql_a ?_ | refine eql_b ?_ | refine neq_a ?_ | refine neq_b ?_ | refine add_a ?_ | refine sub_a ?_ | refine ld_a ?_ | refine ldA_a ?_ | refine ldS_a ?_ | refine ldNS_a ?_ | refine rdA_s ?_ | refine rd1_s ?_ | refine drew_a fun w1 H1 => ?_ | refine st_a fun w1 H1 => ?_ | refine stA_a fun w1 H1 => ?_ | refine lenT_a ?_ | refine lenO_a ?_ | refine ixT_a ?_ | refine ixO_a ?_ | fail)
    exact bad (by unfold setC; rw [if_neg (by simp [g1])]) (by decide) (by assumption)
  | true =>
    repeat (first | simp only [cI_enc, cE_enc, cN_enc, W0] | refine lss_a ?_ | refine lss_b ?_ | refine gtr_a ?_ | refine gtr_b ?_ | refine geq_a ?_ | refine geq_b ?_ | refine leq_a ?_ | refine leq_b ?_ | refine eql_a ?_ | refine eql_b ?_ | refine neq_a ?_ | refine neq_b ?_ | refine add_a ?_ | refine sub_a ?_ | refine ld_a ?_ | refine ldA_a ?_ | refine ldS_a ?_ | refine ldNS_a ?_ | refine rdA_s ?_ | refine rd1_s ?_ | refine drew_a fun w1 H1 => ?_ | refine st_a fun w1 H1 => ?_ | refine stA_a fun w1 H1 => ?_ | refine lenT_a ?_ | refine lenO_a ?_ | refine ixT_a ?_ | refine ixO_a ?_ | fail)
    refine cal_h (isPri_spec (by assumption)) ?_
    rintro _ w ⟨rfl, H⟩
    by_cases g2 : 0 ≤ p ∧ p ≤ 255
    rotate_left
    · rw [decide_eq_false g2]
      repeat (first | simp only [cI_enc, cE_enc, cN_enc, W0] | refine lss_a ?_ | refine lss_b ?_ | refine gtr_a ?_ | refine gtr_b ?_ | refine geq_a ?_ | refine geq_b ?_ | refine leq_a ?_ | refine leq_b ?_ | refine eql_a ?_ | refine eql_b ?_ | refine neq_a ?_ | refine neq_b ?_ | refine add_a ?_ | refine sub_a ?_ | refine ld_a ?_ | refine ldA_a ?_ | refine ldS_a ?_ | refine ldNS_a ?_ | refine rdA_s ?_ | refine rd1_s ?_ | refine drew_a fun w1 H1 => ?_ | refine st_a fun w1 H1 => ?_ | refine stA_a fun w1 H1 => ?_ | refine lenT_a ?_ | refine lenO_a ?_ | refine ixT_a ?_ | refine ixO_a ?_ | fail)
      exact bad (by unfold setC; rw [if_neg (fun h => g2 h.2)]) (by decide) (by assumption)
    rw [decide_eq_true g2]
    have c0 : setC base t p = 0 := by unfold setC; rw [if_pos ⟨g1, g2⟩]
    have hin := g1
    rw [inR, decide_eq_true_eq] at hin
    obtain ⟨i, rfl⟩ : ∃ i : Nat, t = i := ⟨t.toNat, by omega⟩
    simp only [Int.toNat_natCast]
    repeat (first | simp only [cI_enc, cE_enc, cN_enc, W0] | refine lss_a ?_ | refine lss_b ?_ | refine gtr_a ?_ | refine gtr_b ?_ | refine geq_a ?_ | refine geq_b ?_ | refine leq_a ?_ | refine leq_b ?_ | refine eql_a ?_ | refine eql_b ?_ | refine neq_a ?_ | refine neq_b ?_ | refine add_a ?_ | refine sub_a ?_ | refine ld_a ?_ | refine ldA_a ?_ | refine ldS_a ?_ | refine ldNS_a ?_ | refine rdA_s ?_ | refine rd1_s ?_ | refine drew_a fun w1 H1 => ?_ | refine st_a fun w1 H1 => ?_ | refine stA_a fun w1 H1 => ?_ | refine lenT_a ?_ | refine lenO_a ?_ | refine ixT_a ?_ | refine ixO_a ?_ | fail)
    try unfold F29_j1
    repeat (first | simp only [cI_enc, cE_enc, cN_enc, W0] | refine lss_a ?_ | refine lss_b ?_ | refine gtr_a ?_ | refine gtr_b ?_ | refine geq_a ?_ | refine geq_b ?_ | refine leq_a ?_ | refine leq_b ?_ | refine eql_a ?_ | refine eql_b ?_ | refine neq_a ?_ | refine neq_b ?_ | refine add_a ?_ | refine sub_a ?_ | refine ld_a ?_ | refine ldA_a ?_ | refine ldS_a ?_ | refine ldNS_a ?_ | refine rdA_s ?_ | refine rd1_s ?_ | refine drew_a fun w1 H1 => ?_ | refine st_a fun w1 H1 => ?_ | refine stA_a fun w1 H1 => ?_ | refine lenT_a ?_ | refine lenO_a ?_ | refine ixT_a ?_ | refine ixO_a ?_ | fail)
    refine ist1_t (C := cI) (x := p) hb (by assumption) spl (by omega) rfl rfl fun w cb' H hb' => ?_
    have hS' := hS.set (i := i) g2
    refine cal_h (update_spec (bm := bm) (F := L) hb' he (by rw [List.length_set]; exact hel) hw hk hS'.nd hS'.el hS'.len hS'.rg hS'.va (Hp.re (by assumption))) ?_
    rintro _ w ⟨s, cs, se', ce', now, rfl, H, hse, hio, hcs⟩
    simp only [ret_k]
    exact .inr ⟨c0, s, cs, now, ⟨bt, 88, [sb, .map (some bm), se']⟩ :: ⟨bm, .o (mobj kE Value.bool ents clock), []⟩ :: (cb' ++ ce'), rfl, hio, hcs, ⟨bm, sb, se', cb', ce', _, _, rfl, hb', hse, hw, hk, ht⟩, Hp.re (by assumption)⟩
end
end Go.Proofs.Ytagcifbfokneoaa.Den
