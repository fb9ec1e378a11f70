/- Inherit: the program's tracker, its calls. Conditions: none. -/
import Derived.Test.YtagcifbfokneoaaIhTu
set_option linter.unusedVariables false
set_option linter.unusedSimpArgs false
set_option maxRecDepth 8000
set_option maxHeartbeats 1000000
namespace Go.Proofs.Ytagcifbfokneoaa.Den
open Go Go.RowKit
structure St (base : List Int) (E : List (Nat × Nat)) : Prop where
  len : base.length ≤ 256
  rg : ∀ x ∈ base, 0 ≤ x ∧ x ≤ 255
  va : Valid E base.length
  nd : E.Nodup
  el : E.length ≤ 2000
/-- The program's tracker at a block. -/
def PTr (bt : Nat) (base : List Int) (E : List (Nat × Nat)) (eff : List Int) (C : List Chunk) : Prop :=
  ∃ bm sb se cb ce ents clock, C = ⟨bt, 88, [sb, .map (some bm), se]⟩ :: ⟨bm, .o (mobj kE Value.bool ents clock), []⟩ :: (cb ++ ce) ∧ TS cI 3 sb base cb ∧ TS cI 3 se eff ce ∧ MW ents clock ∧ mkeys ents = E.map ofN ∧ ∀ e ∈ ents, e.2.1 = true
/-- The reference's. -/
def RTr (br : Nat) (base : List Int) (E : List (Nat × Nat)) (eff : List Int) (C : List Chunk) : Prop :=
  ∃ sb se cb ce, C = ⟨br, 90, [sb, se]⟩ :: (cb ++ ce) ∧ TS cI 3 sb base cb ∧ TS cN 39 se E ce
/-- What a call leaves. -/
def OpQ (el : Nat) (T : List Int → List (Nat × Nat) → List Int → List Chunk → Prop) (code : Int) (base : List Int) (E : List (Nat × Nat)) (eff base' : List Int) (E' : List (Nat × Nat)) (w0 : World) (L : List Chunk) : ER := fun x w' =>
  (code ≠ 0 ∧ x = .returned (.tuple ⟨[.slice none 0 0, I code]⟩) ∧ ∃ C, T base E eff C ∧ Hp w0 w' (C ++ L)) ∨
  (code = 0 ∧ ∃ s cs now C, x = .returned (.tuple ⟨[s, I 0]⟩) ∧ IsEff base' E' now ∧ TS cE el s (dif eff now base'.length) cs ∧ T base' E' now C ∧ Hp w0 w' (C ++ (cs ++ L)))
def addC (base : List Int) (E : List (Nat × Nat)) (e : Int × Int) : Int :=
  if ¬ (inR base.length e.1 = true ∧ inR base.length e.2 = true) then 34 else if e ∈ E.map ofN then 10 else if 2000 ≤ E.length then 18 else 0
def remC (base : List Int) (E : List (Nat × Nat)) (e : Int × Int) : Int :=
  if ¬ (inR base.length e.1 = true ∧ inR base.length e.2 = true) then 34 else if e ∉ E.map ofN then 22 else 0
section
variable {w w' w0 : World} {L L' F cs cs2 cs3 cb ce C : List Chunk} {s s2 sb se sd : Value} {K : VK} {R : ER} {base eff : List Int} {E E' : List (Nat × Nat)} {bt bm clock : Nat} {ents : List ((Int × Int) × Bool × Nat)}
theorem has57 {n : Int} (hb : TS cI 3 sb base cb) (H : Hp w0 w (⟨bt, 88, [sb, s, se]⟩ :: L)) :
    Calls Pg 57 ⟨[ptr bt 0, I n]⟩ w fun x w' => x = .returned (.bool (inR base.length n)) ∧ Hp w0 w' (⟨bt, 88, [sb, s, se]⟩ :: L) := by
  apply F57_calls
  unfold F57
  by_cases h0 : 0 ≤ n
  · by_cases h1 : n < base.length
    · repeat (first | simp only [cI_enc, cE_enc, cN_enc, W0] | refine lss_a ?_ | refine lss_b ?_ | refine gtr_a ?_ | refine gtr_b ?_ | refine geq_a ?_ | refine geq_b ?_ | refine leq_a ?_ | refine leq_b ?_ | refine eql_a ?_ | refine eql_b ?_ | refine neq_a ?_ | refine neq_b ?_ | refine add_a ?_ | refine sub_a ?_ | refine ld_a ?_ | refine ldA_a ?_ | refine ldS_a ?_ | refine ldNS_a ?_ | refine rdA_s ?_ | refine rd1_s ?_ | refine drew_a fun w1 H1 => ?_ | refine st_a fun w1 H1 => ?_ | refine stA_a fun w1 H1 => ?_ | refine lenT_a ?_ | refine lenO_a ?_ | refine ixT_a ?_ | refine ixO_a ?_ | fail)
      exact ⟨by rw [inR, decide_eq_true ⟨h0, h1⟩], by assumption⟩
    · repeat (first | simp only [cI_enc, cE_enc, cN_enc, W0] | refine lss_a ?_ | refine lss_b ?_ | refine gtr_a ?_ | refine gtr_b ?_ | refine geq_a ?_ | refine geq_b ?_ | refine leq_a ?_ | refine leq_b ?_ | refine eql_a ?_ | refine eql_b ?_ | refine neq_a ?_ | refine neq_b ?_ | refine add_a ?_ | refine sub_a ?_ | refine ld_a ?_ | refine ldA_a ?_ | refine ldS_a ?_ | refine ldNS_a ?_ | refine rdA_s ?_ | refine rd1_s ?_ | refine drew_a fun w1 H1 => ?_ | refine st_a fun w1 H1 => ?_ | refine stA_a fun w1 H1 => ?_ | refine lenT_a ?_ | refine lenO_a ?_ | refine ixT_a ?_ | refine ixO_a ?_ | fail)
      exact ⟨by rw [inR, decide_eq_false (fun h => h1 h.2)], by assumption⟩
  · repeat (first | simp only [cI_enc, cE_enc, cN_enc, W0] | refine lss_a ?_ | refine lss_b ?_ | refine gtr_a ?_ | refine gtr_b ?_ | refine geq_a ?_ | refine geq_b ?_ | refine leq_a ?_ | refine leq_b ?_ | refine eql_a ?_ | refine eql_b ?_ | refine neq_a ?_ | refine neq_b ?_ | refine add_a ?_ | refine sub_a ?_ | refine ld_a ?_ | refine ldA_a ?_ | refine ldS_a ?_ | refine ldNS_a ?_ | refine rdA_s ?_ | refine rd1_s ?_ | refine drew_a fun w1 H1 => ?_ | refine st_a fun w1 H1 => ?_ | refine stA_a fun w1 H1 => ?_ | refine lenT_a ?_ | refine lenO_a ?_ | refine ixT_a ?_ | refine ixO_a ?_ | fail)
    exact ⟨by rw [inR, decide_eq_false (fun h => h0 h.1)], by assumption⟩
theorem mem_get {e : Int × Int} (hk : mkeys ents = E.map ofN) (ht : ∀ x ∈ ents, x.2.1 = true) : lkv Value.bool false (mget e ents) = .bool (decide (e ∈ E.map ofN)) := by
  rw [← hk]
  unfold lkv
  cases h : mget e ents with
  | none => rw [decide_eq_false (mget_none.1 h)]; rfl
  | some v =>
    obtain ⟨n, hn⟩ := mget_some h
    have := ht _ hn
    simp at this; subst this
    have : e ∈ mkeys ents := List.mem_map.2 ⟨_, hn, rfl⟩
    rw [decide_eq_true this]; rfl
theorem St.add {e : Int × Int} (hS : St base E) (g1 : inR base.length e.1 = true) (g2 : inR base.length e.2 = true) (hm : e ∉ E.map ofN) (hl : E.length < 2000) : St base (E ++ [toN e]) := by
  rw [inR, decide_eq_true_eq] at g1 g2
  have he' : ofN (toN e) = e := Prod.ext (by simp [ofN, toN]; omega) (by simp [ofN, toN]; omega)
  refine ⟨hS.len, hS.rg, ?_, ?_, by simp; omega⟩
  · intro x hx
    rcases List.mem_append.1 hx with h | h
    · exact hS.va x h
    · simp at h; subst h
      simp only [toN]; omega
  · rw [List.nodup_append]
    refine ⟨hS.nd, by simp, ?_⟩
    intro a ha b hb
    simp at hb; subst hb
    rintro rfl
    exact hm (by rw [← he']; exact List.mem_map_of_mem ha)
theorem add_spec {e : Int × Int} (hS : St base E) (hel : eff.length = base.length) (hT : PTr bt base E eff C) (H : Hp w0 w (C ++ L)) :
    Calls Pg 31 ⟨[ptr bt 0, .agg ⟨[I e.1, I e.2]⟩]⟩ w (OpQ 103 (PTr bt) (addC base E e) base E eff base (E ++ [toN e]) w0 L) := by
  have hT0 := hT
  obtain ⟨bm, sb, se, cb, ce, ents, clock, rfl, hb, he, hw, hk, ht⟩ := hT
  have hkl : ents.length = E.length := by have := congrArg List.length hk; simpa [mkeys] using this
  apply F31_calls
  unfold F31
  refine bx_m H fun w b H => ?_
  try unfold F31_j2
  repeat (first | simp only [cI_enc, cE_enc, cN_enc, W0] | refine lss_a ?_ | refine lss_b ?_ | refine gtr_a ?_ | refine gtr_b ?_ | refine geq_a ?_ | refine geq_b ?_ | refine leq_a ?_ | refine leq_b ?_ | refine eql_a ?_ | refine eql_b ?_ | refine neq_a ?_ | refine neq_b ?_ | refine add_a ?_ | refine sub_a ?_ | refine ld_a ?_ | refine ldA_a ?_ | refine ldS_a ?_ | refine ldNS_a ?_ | refine rdA_s ?_ | refine rd1_s ?_ | refine drew_a fun w1 H1 => ?_ | refine st_a fun w1 H1 => ?_ | refine stA_a fun w1 H1 => ?_ | refine lenT_a ?_ | refine lenO_a ?_ | refine ixT_a ?_ | refine ixO_a ?_ | fail)
  try unfold F31_j3
  repeat (first | simp only [cI_enc, cE_enc, cN_enc, W0] | refine lss_a ?_ | refine lss_b ?_ | refine gtr_a ?_ | refine gtr_b ?_ | refine geq_a ?_ | refine geq_b ?_ | refine leq_a ?_ | refine leq_b ?_ | refine eql_a ?_ | refine eql_b ?_ | refine neq_a ?_ | refine neq_b ?_ | refine add_a ?_ | refine sub_a ?_ | refine ld_a ?_ | refine ldA_a ?_ | refine ldS_a ?_ | refine ldNS_a ?_ | refine rdA_s ?_ | refine rd1_s ?_ | refine drew_a fun w1 H1 => ?_ | refine st_a fun w1 H1 => ?_ | refine stA_a fun w1 H1 => ?_ | refine lenT_a ?_ | refine lenO_a ?_ | refine ixT_a ?_ | refine ixO_a ?_ | fail)
  try unfold F31_j4
  repeat (first | simp only [cI_enc, cE_enc, cN_enc, W0] | refine lss_a ?_ | refine lss_b ?_ | refine gtr_a ?_ | refine gtr_b ?_ | refine geq_a ?_ | refine geq_b ?_ | refine leq_a ?_ | refine leq_b ?_ | refine eql_a ?_ | refine eql_b ?_ | refine neq_a ?_ | refine neq_b ?_ | refine add_a ?_ | refine sub_a ?_ | refine ld_a ?_ | refine ldA_a ?_ | refine ldS_a ?_ | refine ldNS_a ?_ | refine rdA_s ?_ | refine rd1_s ?_ | refine drew_a fun w1 H1 => ?_ | refine st_a fun w1 H1 => ?_ | refine stA_a fun w1 H1 => ?_ | refine lenT_a ?_ | refine lenO_a ?_ | refine ixT_a ?_ | refine ixO_a ?_ | fail)
  refine cal_h (has57 (s := .map (some bm)) (se := se) hb (L := ⟨b, 39, [I e.1, I e.2]⟩ :: ⟨bm, .o (mobj kE Value.bool ents clock), []⟩ :: (cb ++ (ce ++ L))) (Hp.re (by assumption))) ?_
  rintro _ w ⟨rfl, H⟩
  have bad : ∀ {w : World} {c : Int}, addC base E e = c → c ≠ 0 → Hp w0 w (⟨bt, 88, [sb, .map (some bm), se]⟩ :: ⟨b, 39, [I e.1, I e.2]⟩ :: ⟨bm, .o (mobj kE Value.bool ents clock), []⟩ :: (cb ++ (ce ++ L))) →
      OpQ 103 (PTr bt) (addC base E e) base E eff base (E ++ [toN e]) w0 L (.returned (.tuple ⟨[.slice none 0 0, I c]⟩)) w := by
    intro w c hc h0 H
    exact .inl ⟨by omega, by rw [hc], _, hT0, Hp.re (by assumption)⟩
  cases g1 : inR base.length e.1 with
  | false =>
    repeat (first | simp only [cI_enc, cE_enc, cN_enc, W0] | refine lss_a ?_ | refine lss_b ?_ | refine gtr_a ?_ | refine gtr_b ?_ | refine geq_a ?_ | refine geq_b ?_ | refine leq_a ?_ | refine leq_b ?_ | refine eql_a ?_ | refine eql_b ?_ | refine neq_a ?_ | refine neq_b ?_ | refine add_a ?_ | refine sub_a ?_ | refine ld_a ?_ | refine ldA_a ?_ | refine ldS_a ?_ | refine ldNS_a ?_ | refine rdA_s ?_ | refine rd1_s ?_ | refine drew_a fun w1 H1 => ?_ | refine st_a fun w1 H1 => ?_ | refine stA_a fun w1 H1 => ?_ | refine lenT_a ?_ | refine lenO_a ?_ | refine ixT_a ?_ | refine ixO_a ?_ | fail)
    try unfold F31_j5
    repeat (first | simp only [cI_enc, cE_enc, cN_enc, W0] | refine lss_a ?_ | refine lss_b ?_ | refine gtr_a ?_ | refine gtr_b ?_ | refine geq_a ?_ | refine geq_b ?_ | refine leq_a ?_ | refine leq_b ?_ | refine eql_a ?_ | refine eql_b ?_ | refine neq_a ?_ | refine neq_b ?_ | refine add_a ?_ | refine sub_a ?_ | refine ld_a ?_ | refine ldA_a ?_ | refine ldS_a ?_ | refine ldNS_a ?_ | refine rdA_s ?_ | refine rd1_s ?_ | refine drew_a fun w1 H1 => ?_ | refine st_a fun w1 H1 => ?_ | refine stA_a fun w1 H1 => ?_ | refine lenT_a ?_ | refine lenO_a ?_ | refine ixT_a ?_ | refine ixO_a ?_ | fail)
    exact bad (by unfold addC; rw [if_pos (by simp [g1])]) (by decide) (by assumption)
  | true =>
    repeat (first | simp only [cI_enc, cE_enc, cN_enc, W0] | refine lss_a ?_ | refine lss_b ?_ | refine gtr_a ?_ | refine gtr_b ?_ | refine geq_a ?_ | refine geq_b ?_ | refine leq_a ?_ | refine leq_b ?_ | refine eql_a ?_ | refine eql_b ?_ | refine neq_a ?_ | refine neq_b ?_ | refine add_a ?_ | refine sub_a ?_ | refine ld_a ?_ | refine ldA_a ?_ | refine ldS_a ?_ | refine ldNS_a ?_ | refine rdA_s ?_ | refine rd1_s ?_ | refine drew_a fun w1 H1 => ?_ | refine st_a fun w1 H1 => ?_ | refine stA_a fun w1 H1 => ?_ | refine lenT_a ?_ | refine lenO_a ?_ | refine ixT_a ?_ | refine ixO_a ?_ | fail)
    refine cal_h (has57 (s := .map (some bm)) (se := se) hb (L := ⟨b, 39, [I e.1, I e.2]⟩ :: ⟨bm, .o (mobj kE Value.bool ents clock), []⟩ :: (cb ++ (ce ++ L))) (Hp.re (by assumption))) ?_
    rintro _ w ⟨rfl, H⟩
    cases g2 : inR base.length e.2 with
    | false =>
      repeat (first | simp only [cI_enc, cE_enc, cN_enc, W0] | refine lss_a ?_ | refine lss_b ?_ | refine gtr_a ?_ | refine gtr_b ?_ | refine geq_a ?_ | refine geq_b ?_ | refine leq_a ?_ | refine leq_b ?_ | refine eql_a ?_ | refine eql_b ?_ | refine neq_a ?_ | refine neq_b ?_ | refine add_a ?_ | refine sub_a ?_ | refine ld_a ?_ | refine ldA_a ?_ | refine ldS_a ?_ | refine ldNS_a ?_ | refine rdA_s ?_ | refine rd1_s ?_ | refine drew_a fun w1 H1 => ?_ | refine st_a fun w1 H1 => ?_ | refine stA_a fun w1 H1 => ?_ | refine lenT_a ?_ | refine lenO_a ?_ | refine ixT_a ?_ | refine ixO_a ?_ | fail)
      try unfold F31_j5
      repeat (first | simp only [cI_enc, cE_enc, cN_enc, W0] | refine lss_a ?_ | refine lss_b ?_ | refine gtr_a ?_ | refine gtr_b ?_ | refine geq_a ?_ | refine geq_b ?_ | refine leq_a ?_ | refine leq_b ?_ | refine eql_a ?_ | refine eql_b ?_ | refine neq_a ?_ | refine neq_b ?_ | refine add_a ?_ | refine sub_a ?_ | refine ld_a ?_ | refine ldA_a ?_ | refine ldS_a ?_ | refine ldNS_a ?_ | refine rdA_s ?_ | refine rd1_s ?_ | refine drew_a fun w1 H1 => ?_ | refine st_a fun w1 H1 => ?_ | refine stA_a fun w1 H1 => ?_ | refine lenT_a ?_ | refine lenO_a ?_ | refine ixT_a ?_ | refine ixO_a ?_ | fail)
      exact bad (by unfold addC; rw [if_pos (by simp [g2])]) (by decide) (by assumption)
    | true =>
      have c0 : addC base E e = if e ∈ E.map ofN then 10 else if 2000 ≤ E.length then 18 else 0 := by unfold addC; rw [if_neg (by simp [g1, g2])]
      repeat (first | simp only [cI_enc, cE_enc, cN_enc, W0] | refine lss_a ?_ | refine lss_b ?_ | refine gtr_a ?_ | refine gtr_b ?_ | refine geq_a ?_ | refine geq_b ?_ | refine leq_a ?_ | refine leq_b ?_ | refine eql_a ?_ | refine eql_b ?_ | refine neq_a ?_ | refine neq_b ?_ | refine add_a ?_ | refine sub_a ?_ | refine ld_a ?_ | refine ldA_a ?_ | refine ldS_a ?_ | refine ldNS_a ?_ | refine rdA_s ?_ | refine rd1_s ?_ | refine drew_a fun w1 H1 => ?_ | refine st_a fun w1 H1 => ?_ | refine stA_a fun w1 H1 => ?_ | refine lenT_a ?_ | refine lenO_a ?_ | refine ixT_a ?_ | refine ixO_a ?_ | fail)
      try unfold F31_j5
      repeat (first | simp only [cI_enc, cE_enc, cN_enc, W0] | refine lss_a ?_ | refine lss_b ?_ | refine gtr_a ?_ | refine gtr_b ?_ | refine geq_a ?_ | refine geq_b ?_ | refine leq_a ?_ | refine leq_b ?_ | refine eql_a ?_ | refine eql_b ?_ | refine neq_a ?_ | refine neq_b ?_ | refine add_a ?_ | refine sub_a ?_ | refine ld_a ?_ | refine ldA_a ?_ | refine ldS_a ?_ | refine ldNS_a ?_ | refine rdA_s ?_ | refine rd1_s ?_ | refine drew_a fun w1 H1 => ?_ | refine st_a fun w1 H1 => ?_ | refine stA_a fun w1 H1 => ?_ | refine lenT_a ?_ | refine lenO_a ?_ | refine ixT_a ?_ | refine ixO_a ?_ | fail)
      try unfold F31_j6
      repeat (first | simp only [cI_enc, cE_enc, cN_enc, W0] | refine lss_a ?_ | refine lss_b ?_ | refine gtr_a ?_ | refine gtr_b ?_ | refine geq_a ?_ | refine geq_b ?_ | refine leq_a ?_ | refine leq_b ?_ | refine eql_a ?_ | refine eql_b ?_ | refine neq_a ?_ | refine neq_b ?_ | refine add_a ?_ | refine sub_a ?_ | refine ld_a ?_ | refine ldA_a ?_ | refine ldS_a ?_ | refine ldNS_a ?_ | refine rdA_s ?_ | refine rd1_s ?_ | refine drew_a fun w1 H1 => ?_ | refine st_a fun w1 H1 => ?_ | refine stA_a fun w1 H1 => ?_ | refine lenT_a ?_ | refine lenO_a ?_ | refine ixT_a ?_ | refine ixO_a ?_ | fail)
      refine lookup_h mapE e (by assumption) has ?_
      rw [mem_get hk ht]
      by_cases hm : e ∈ E.map ofN
      · rw [decide_eq_true hm]
        rw [if_pos hm] at c0
        repeat (first | simp only [cI_enc, cE_enc, cN_enc, W0] | refine lss_a ?_ | refine lss_b ?_ | refine gtr_a ?_ | refine gtr_b ?_ | refine geq_a ?_ | refine geq_b ?_ | refine leq_a ?_ | refine leq_b ?_ | refine eql_a ?_ | refine eql_b ?_ | refine neq_a ?_ | refine neq_b ?_ | refine add_a ?_ | refine sub_a ?_ | refine ld_a ?_ | refine ldA_a ?_ | refine ldS_a ?_ | refine ldNS_a ?_ | refine rdA_s ?_ | refine rd1_s ?_ | refine drew_a fun w1 H1 => ?_ | refine st_a fun w1 H1 => ?_ | refine stA_a fun w1 H1 => ?_ | refine lenT_a ?_ | refine lenO_a ?_ | refine ixT_a ?_ | refine ixO_a ?_ | fail)
        exact bad c0 (by decide) (by assumption)
      rw [decide_eq_false hm]
      rw [if_neg hm] at c0
      repeat (first | simp only [cI_enc, cE_enc, cN_enc, W0] | refine lss_a ?_ | refine lss_b ?_ | refine gtr_a ?_ | refine gtr_b ?_ | refine geq_a ?_ | refine geq_b ?_ | refine leq_a ?_ | refine leq_b ?_ | refine eql_a ?_ | refine eql_b ?_ | refine neq_a ?_ | refine neq_b ?_ | refine add_a ?_ | refine sub_a ?_ | refine ld_a ?_ | refine ldA_a ?_ | refine ldS_a ?_ | refine ldNS_a ?_ | refine rdA_s ?_ | refine rd1_s ?_ | refine drew_a fun w1 H1 => ?_ | refine st_a fun w1 H1 => ?_ | refine stA_a fun w1 H1 => ?_ | refine lenT_a ?_ | refine lenO_a ?_ | refine ixT_a ?_ | refine ixO_a ?_ | fail)
      refine mlen_h mapE (by assumption) has ?_
      by_cases hl : 2000 ≤ E.length
      · rw [if_pos hl] at c0
        repeat (first | simp only [cI_enc, cE_enc, cN_enc, W0] | refine lss_a ?_ | refine lss_b ?_ | refine gtr_a ?_ | refine gtr_b ?_ | refine geq_a ?_ | refine geq_b ?_ | refine leq_a ?_ | refine leq_b ?_ | refine eql_a ?_ | refine eql_b ?_ | refine neq_a ?_ | refine neq_b ?_ | refine add_a ?_ | refine sub_a ?_ | refine ld_a ?_ | refine ldA_a ?_ | refine ldS_a ?_ | refine ldNS_a ?_ | refine rdA_s ?_ | refine rd1_s ?_ | refine drew_a fun w1 H1 => ?_ | refine st_a fun w1 H1 => ?_ | refine stA_a fun w1 H1 => ?_ | refine lenT_a ?_ | refine lenO_a ?_ | refine ixT_a ?_ | refine ixO_a ?_ | fail)
        exact bad c0 (by decide) (by assumption)
      rw [if_neg hl] at c0
      repeat (first | simp only [cI_enc, cE_enc, cN_enc, W0] | refine lss_a ?_ | refine lss_b ?_ | refine gtr_a ?_ | refine gtr_b ?_ | refine geq_a ?_ | refine geq_b ?_ | refine leq_a ?_ | refine leq_b ?_ | refine eql_a ?_ | refine eql_b ?_ | refine neq_a ?_ | refine neq_b ?_ | refine add_a ?_ | refine sub_a ?_ | refine ld_a ?_ | refine ldA_a ?_ | refine ldS_a ?_ | refine ldNS_a ?_ | refine rdA_s ?_ | refine rd1_s ?_ | refine drew_a fun w1 H1 => ?_ | refine st_a fun w1 H1 => ?_ | refine stA_a fun w1 H1 => ?_ | refine lenT_a ?_ | refine lenO_a ?_ | refine ixT_a ?_ | refine ixO_a ?_ | fail)
      try unfold F31_j1
      repeat (first | simp only [cI_enc, cE_enc, cN_enc, W0] | refine lss_a ?_ | refine lss_b ?_ | refine gtr_a ?_ | refine gtr_b ?_ | refine geq_a ?_ | refine geq_b ?_ | refine leq_a ?_ | refine leq_b ?_ | refine eql_a ?_ | refine eql_b ?_ | refine neq_a ?_ | refine neq_b ?_ | refine add_a ?_ | refine sub_a ?_ | refine ld_a ?_ | refine ldA_a ?_ | refine ldS_a ?_ | refine ldNS_a ?_ | refine rdA_s ?_ | refine rd1_s ?_ | refine drew_a fun w1 H1 => ?_ | refine st_a fun w1 H1 => ?_ | refine stA_a fun w1 H1 => ?_ | refine lenT_a ?_ | refine lenO_a ?_ | refine ixT_a ?_ | refine ixO_a ?_ | fail)
      refine put_h mapE e true (by assumption) updd fun w H => ?_
      have hx : e ∉ mkeys ents := by rw [hk]; exact hm
      obtain ⟨p1, p2⟩ := mput_new (v := true) (clock := clock) hx
      rw [p1, p2] at H
      have he' : ofN (toN e) = e := by
        rw [inR, decide_eq_true_eq] at g1 g2
        exact Prod.ext (by simp [ofN, toN]; omega) (by simp [ofN, toN]; omega)
      have hS' := hS.add g1 g2 hm (by omega)
      have hk' : mkeys (ents ++ [(e, true, clock)]) = (E ++ [toN e]).map ofN := by rw [List.map_append, ← hk, List.map_cons, he']; simp [mkeys]
      repeat (first | simp only [cI_enc, cE_enc, cN_enc, W0] | refine lss_a ?_ | refine lss_b ?_ | refine gtr_a ?_ | refine gtr_b ?_ | refine geq_a ?_ | refine geq_b ?_ | refine leq_a ?_ | refine leq_b ?_ | refine eql_a ?_ | refine eql_b ?_ | refine neq_a ?_ | refine neq_b ?_ | refine add_a ?_ | refine sub_a ?_ | refine ld_a ?_ | refine ldA_a ?_ | refine ldS_a ?_ | refine ldNS_a ?_ | refine rdA_s ?_ | refine rd1_s ?_ | refine drew_a fun w1 H1 => ?_ | refine st_a fun w1 H1 => ?_ | refine stA_a fun w1 H1 => ?_ | refine lenT_a ?_ | refine lenO_a ?_ | refine ixT_a ?_ | refine ixO_a ?_ | fail)
      refine cal_h (update_spec (bm := bm) (F := ⟨b, 39, [I e.1, I e.2]⟩ :: L) hb he hel (MW.put_new hx hw) hk' hS'.nd hS'.el hS'.len hS'.rg hS'.va (Hp.re (by assumption))) ?_
      rintro _ w ⟨s, cs, se', ce', now, rfl, H, hse, hio, hcs⟩
      simp only [ret_k]
      exact .inr ⟨c0, s, cs, now, ⟨bt, 88, [sb, .map (some bm), se']⟩ :: ⟨bm, .o (mobj kE Value.bool (ents ++ [(e, true, clock)]) (clock + 1)), []⟩ :: (cb ++ ce'), rfl, hio, hcs, ⟨bm, sb, se', cb, ce', _, _, rfl, hb, hse, MW.put_new hx hw, hk', by intro x hx; rcases List.mem_append.1 hx with h | h; exact ht x h; simp at h; subst h; rfl⟩, Hp.re (by assumption)⟩
end
end Go.Proofs.Ytagcifbfokneoaa.Den
