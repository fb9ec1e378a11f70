/- Inherit: Check of the program, walked. Conditions: none. -/
import Derived.Test.YtagcifbfokneoaaIhG
import Derived.Test.YtagcifbfokneoaaOck
set_option linter.unusedVariables false
set_option linter.unusedSimpArgs false
set_option maxRecDepth 8000
namespace Go.Proofs.Ytagcifbfokneoaa.Den
open Go Go.RowKit
def kE (e : Int × Int) : Value := .agg ⟨[I e.1, I e.2]⟩
theorem mapE : MapK (κ := Int × Int) (ν := Bool) 72 39 4 (.struct (Pg.fieldsOf 39)) kE Value.bool false :=
  MapK.agg (cells := fun e : Int × Int => [I e.1, I e.2]) (ks := [0, 0]) (by kernel_rfl) (by kernel_rfl) (by kernel_rfl) (by kernel_rfl) (fun _ => rfl) (fun x y => by
    simp only [eqCells, eqLeaf, if_true]
    have : (x.1 == y.1 && (x.2 == y.2 && true)) = decide (x = y) := by rw [Bool.eq_iff_iff]; simp [Prod.ext_iff]
    rw [this]) (fun x => by simp [Instr.sameBits])
section
variable {w w' w0 : World} {L L' F cs cs2 cs3 : List Chunk} {s s2 sb se sd : Value} {K : VK} {R : ER} {base d : List Int} {es : List (Int × Int)} {E : List (Nat × Nat)} {n f : Nat} {cap : List Value}
theorem Index60_spec {xs : List Int} {p : Int → Bool} (h : TR cI w0 cs s xs) (H : Hp w0 w L) (m1 : ∀ c ∈ cs, c ∈ L) (hl : xs.length < 2 ^ 62) (hf : enterOk Pg f = true)
    (hc : ∀ x ∈ xs, ∀ w, Hp w0 w L → Calls Pg f ⟨[] ++ [I x] ++ cap⟩ w fun e w' => e = .returned (.bool (p x)) ∧ Hp w0 w' L) :
    Calls Pg 60 ⟨[s, .func (.func f) ⟨[]⟩ ⟨cap⟩]⟩ w fun e w' => (∃ i : Int, e = .returned (I i) ∧ (decide (0 ≤ i) = xs.any p)) ∧ Hp w0 w' L := by
  apply F60_calls
  unfold F60 F60_j2 F60_j3
  repeat (first | simp only [cI_enc, cE_enc, cN_enc, W0] | refine lss_a ?_ | refine lss_b ?_ | refine gtr_a ?_ | refine gtr_b ?_ | refine geq_a ?_ | refine geq_b ?_ | refine leq_a ?_ | refine leq_b ?_ | refine eql_a ?_ | refine eql_b ?_ | refine neq_a ?_ | refine neq_b ?_ | refine add_a ?_ | refine sub_a ?_ | refine ld_a ?_ | refine ldA_a ?_ | refine ldS_a ?_ | refine ldNS_a ?_ | refine rdA_s ?_ | refine rd1_s ?_ | refine drew_a fun w1 H1 => ?_ | refine st_a fun w1 H1 => ?_ | refine stA_a fun w1 H1 => ?_ | refine lenT_a ?_ | refine lenO_a ?_ | refine ixT_a ?_ | refine ixO_a ?_ | fail)
  refine loop4 (F60_l1_succ _) (fun m x0 x1 x7 x8 w => ∃ i : Nat, x0 = s ∧ x1 = .func (.func f) ⟨[]⟩ ⟨cap⟩ ∧ x7 = I (xs.length : Int) ∧ x8 = I i ∧ m + i = xs.length ∧ (∀ x ∈ xs.take i, p x = false) ∧ Hp w0 w L) ?_ (m := xs.length) ⟨0, rfl, rfl, rfl, rfl, rfl, by simp, H⟩
  clear H
  rintro m k s _ _ _ w ⟨i, rfl, rfl, rfl, rfl, hm, hp, H⟩ hk
  unfold F60_b1
  refine lss_k (fun hi => ?_) (fun hi => ?_)
  · have hx : xs[i]? = some xs[i] := List.getElem?_eq_getElem (by omega)
    unfold F60_j4
    repeat (first | simp only [cI_enc, cE_enc, cN_enc, W0] | refine lss_a ?_ | refine lss_b ?_ | refine gtr_a ?_ | refine gtr_b ?_ | refine geq_a ?_ | refine geq_b ?_ | refine leq_a ?_ | refine leq_b ?_ | refine eql_a ?_ | refine eql_b ?_ | refine neq_a ?_ | refine neq_b ?_ | refine add_a ?_ | refine sub_a ?_ | refine ld_a ?_ | refine ldA_a ?_ | refine ldS_a ?_ | refine ldNS_a ?_ | refine rdA_s ?_ | refine rd1_s ?_ | refine drew_a fun w1 H1 => ?_ | refine st_a fun w1 H1 => ?_ | refine stA_a fun w1 H1 => ?_ | refine lenT_a ?_ | refine lenO_a ?_ | refine ixT_a ?_ | refine ixO_a ?_ | fail)
    refine calD_k hf ?_
    refine cal_h (hc xs[i] (List.getElem_mem _) w H) ?_
    rintro _ w ⟨rfl, H⟩
    simp only [ret_k]
    refine cnd_k (fun hv => ?_) (fun hv => ?_)
    · refine ⟨⟨_, rfl, ?_⟩, H⟩
      rw [decide_eq_true (by omega)]
      exact (List.any_eq_true.2 ⟨_, List.getElem_mem _, hv⟩).symm
    · repeat (first | simp only [cI_enc, cE_enc, cN_enc, W0] | refine lss_a ?_ | refine lss_b ?_ | refine gtr_a ?_ | refine gtr_b ?_ | refine geq_a ?_ | refine geq_b ?_ | refine leq_a ?_ | refine leq_b ?_ | refine eql_a ?_ | refine eql_b ?_ | refine neq_a ?_ | refine neq_b ?_ | refine add_a ?_ | refine sub_a ?_ | refine ld_a ?_ | refine ldA_a ?_ | refine ldS_a ?_ | refine ldNS_a ?_ | refine rdA_s ?_ | refine rd1_s ?_ | refine drew_a fun w1 H1 => ?_ | refine st_a fun w1 H1 => ?_ | refine stA_a fun w1 H1 => ?_ | refine lenT_a ?_ | refine lenO_a ?_ | refine ixT_a ?_ | refine ixO_a ?_ | fail)
      refine hk (m - 1) _ _ _ _ _ (by omega) ⟨i + 1, rfl, rfl, rfl, rfl, by omega, ?_, H⟩
      rw [List.take_add_one, hx]
      intro x hx
      rcases List.mem_append.1 hx with hm | hm
      · exact hp x hm
      · simp at hm; subst hm; exact hv
  · repeat (first | simp only [cI_enc, cE_enc, cN_enc, W0] | refine lss_a ?_ | refine lss_b ?_ | refine gtr_a ?_ | refine gtr_b ?_ | refine geq_a ?_ | refine geq_b ?_ | refine leq_a ?_ | refine leq_b ?_ | refine eql_a ?_ | refine eql_b ?_ | refine neq_a ?_ | refine neq_b ?_ | refine add_a ?_ | refine sub_a ?_ | refine ld_a ?_ | refine ldA_a ?_ | refine ldS_a ?_ | refine ldNS_a ?_ | refine rdA_s ?_ | refine rd1_s ?_ | refine drew_a fun w1 H1 => ?_ | refine st_a fun w1 H1 => ?_ | refine stA_a fun w1 H1 => ?_ | refine lenT_a ?_ | refine lenO_a ?_ | refine ixT_a ?_ | refine ixO_a ?_ | fail)
    unfold F60_j1
    rw [List.take_of_length_le (by omega)] at hp
    refine ⟨⟨_, rfl, ?_⟩, H⟩
    rw [decide_eq_false (by omega)]
    symm; rw [List.any_eq_false]
    intro x hx; rw [hp x hx]; simp
theorem Index61_spec {p : Int × Int → Bool} (h : TR cE w0 cs s es) (H : Hp w0 w L) (m1 : ∀ c ∈ cs, c ∈ L) (hl : es.length < 2 ^ 62) (hf : enterOk Pg f = true)
    (hc : ∀ x ∈ es, ∀ w, Hp w0 w L → Calls Pg f ⟨[] ++ [kE x] ++ cap⟩ w fun e w' => e = .returned (.bool (p x)) ∧ Hp w0 w' L) :
    Calls Pg 61 ⟨[s, .func (.func f) ⟨[]⟩ ⟨cap⟩]⟩ w fun e w' => (∃ i : Int, e = .returned (I i) ∧ (decide (0 ≤ i) = es.any p)) ∧ Hp w0 w' L := by
  apply F61_calls
  unfold F61 F61_j2 F61_j3
  repeat (first | simp only [cI_enc, cE_enc, cN_enc, W0] | refine lss_a ?_ | refine lss_b ?_ | refine gtr_a ?_ | refine gtr_b ?_ | refine geq_a ?_ | refine geq_b ?_ | refine leq_a ?_ | refine leq_b ?_ | refine eql_a ?_ | refine eql_b ?_ | refine neq_a ?_ | refine neq_b ?_ | refine add_a ?_ | refine sub_a ?_ | refine ld_a ?_ | refine ldA_a ?_ | refine ldS_a ?_ | refine ldNS_a ?_ | refine rdA_s ?_ | refine rd1_s ?_ | refine drew_a fun w1 H1 => ?_ | refine st_a fun w1 H1 => ?_ | refine stA_a fun w1 H1 => ?_ | refine lenT_a ?_ | refine lenO_a ?_ | refine ixT_a ?_ | refine ixO_a ?_ | fail)
  refine loop4 (F61_l1_succ _) (fun m x0 x1 x7 x8 w => ∃ i : Nat, x0 = s ∧ x1 = .func (.func f) ⟨[]⟩ ⟨cap⟩ ∧ x7 = I (es.length : Int) ∧ x8 = I i ∧ m + i = es.length ∧ (∀ x ∈ es.take i, p x = false) ∧ Hp w0 w L) ?_ (m := es.length) ⟨0, rfl, rfl, rfl, rfl, rfl, by simp, H⟩
  clear H
  rintro m k s _ _ _ w ⟨i, rfl, rfl, rfl, rfl, hm, hp, H⟩ hk
  unfold F61_b1
  refine lss_k (fun hi => ?_) (fun hi => ?_)
  · have hx : es[i]? = some es[i] := List.getElem?_eq_getElem (by omega)
    unfold F61_j4
    repeat (first | simp only [cI_enc, cE_enc, cN_enc, W0] | refine lss_a ?_ | refine lss_b ?_ | refine gtr_a ?_ | refine gtr_b ?_ | refine geq_a ?_ | refine geq_b ?_ | refine leq_a ?_ | refine leq_b ?_ | refine eql_a ?_ | refine eql_b ?_ | refine neq_a ?_ | refine neq_b ?_ | refine add_a ?_ | refine sub_a ?_ | refine ld_a ?_ | refine ldA_a ?_ | refine ldS_a ?_ | refine ldNS_a ?_ | refine rdA_s ?_ | refine rd1_s ?_ | refine drew_a fun w1 H1 => ?_ | refine st_a fun w1 H1 => ?_ | refine stA_a fun w1 H1 => ?_ | refine lenT_a ?_ | refine lenO_a ?_ | refine ixT_a ?_ | refine ixO_a ?_ | fail)
    refine ixN_t (C := cE) h H m1 hx (by decide) ?_
    refine calD_k hf ?_
    refine cal_h (hc es[i] (List.getElem_mem _) w H) ?_
    rintro _ w ⟨rfl, H⟩
    simp only [ret_k]
    refine cnd_k (fun hv => ?_) (fun hv => ?_)
    · refine ⟨⟨_, rfl, ?_⟩, H⟩
      rw [decide_eq_true (by omega)]
      exact (List.any_eq_true.2 ⟨_, List.getElem_mem _, hv⟩).symm
    · repeat (first | simp only [cI_enc, cE_enc, cN_enc, W0] | refine lss_a ?_ | refine lss_b ?_ | refine gtr_a ?_ | refine gtr_b ?_ | refine geq_a ?_ | refine geq_b ?_ | refine leq_a ?_ | refine leq_b ?_ | refine eql_a ?_ | refine eql_b ?_ | refine neq_a ?_ | refine neq_b ?_ | refine add_a ?_ | refine sub_a ?_ | refine ld_a ?_ | refine ldA_a ?_ | refine ldS_a ?_ | refine ldNS_a ?_ | refine rdA_s ?_ | refine rd1_s ?_ | refine drew_a fun w1 H1 => ?_ | refine st_a fun w1 H1 => ?_ | refine stA_a fun w1 H1 => ?_ | refine lenT_a ?_ | refine lenO_a ?_ | refine ixT_a ?_ | refine ixO_a ?_ | fail)
      refine hk (m - 1) _ _ _ _ _ (by omega) ⟨i + 1, rfl, rfl, rfl, rfl, by omega, ?_, H⟩
      rw [List.take_add_one, hx]
      intro x hx
      rcases List.mem_append.1 hx with hm | hm
      · exact hp x hm
      · simp at hm; subst hm; exact hv
  · repeat (first | simp only [cI_enc, cE_enc, cN_enc, W0] | refine lss_a ?_ | refine lss_b ?_ | refine gtr_a ?_ | refine gtr_b ?_ | refine geq_a ?_ | refine geq_b ?_ | refine leq_a ?_ | refine leq_b ?_ | refine eql_a ?_ | refine eql_b ?_ | refine neq_a ?_ | refine neq_b ?_ | refine add_a ?_ | refine sub_a ?_ | refine ld_a ?_ | refine ldA_a ?_ | refine ldS_a ?_ | refine ldNS_a ?_ | refine rdA_s ?_ | refine rd1_s ?_ | refine drew_a fun w1 H1 => ?_ | refine st_a fun w1 H1 => ?_ | refine stA_a fun w1 H1 => ?_ | refine lenT_a ?_ | refine lenO_a ?_ | refine ixT_a ?_ | refine ixO_a ?_ | fail)
    unfold F61_j1
    rw [List.take_of_length_le (by omega)] at hp
    refine ⟨⟨_, rfl, ?_⟩, H⟩
    rw [decide_eq_false (by omega)]
    symm; rw [List.any_eq_false]
    intro x hx; rw [hp x hx]; simp
theorem isPri_spec {x : Int} (H : Hp w0 w L) : Calls Pg 37 ⟨[I x]⟩ w fun e w' => e = .returned (.bool (decide (0 ≤ x ∧ x ≤ 255))) ∧ Hp w0 w' L := by
  apply F37_calls
  unfold F37
  refine geq_k (fun h => ?_) (fun h => ?_)
  · repeat (first | simp only [cI_enc, cE_enc, cN_enc, W0] | refine lss_a ?_ | refine lss_b ?_ | refine gtr_a ?_ | refine gtr_b ?_ | refine geq_a ?_ | refine geq_b ?_ | refine leq_a ?_ | refine leq_b ?_ | refine eql_a ?_ | refine eql_b ?_ | refine neq_a ?_ | refine neq_b ?_ | refine add_a ?_ | refine sub_a ?_ | refine ld_a ?_ | refine ldA_a ?_ | refine ldS_a ?_ | refine ldNS_a ?_ | refine rdA_s ?_ | refine rd1_s ?_ | refine drew_a fun w1 H1 => ?_ | refine st_a fun w1 H1 => ?_ | refine stA_a fun w1 H1 => ?_ | refine lenT_a ?_ | refine lenO_a ?_ | refine ixT_a ?_ | refine ixO_a ?_ | fail)
    refine leq_k (fun h2 => ?_) (fun h2 => ?_)
    · repeat (first | simp only [cI_enc, cE_enc, cN_enc, W0] | refine lss_a ?_ | refine lss_b ?_ | refine gtr_a ?_ | refine gtr_b ?_ | refine geq_a ?_ | refine geq_b ?_ | refine leq_a ?_ | refine leq_b ?_ | refine eql_a ?_ | refine eql_b ?_ | refine neq_a ?_ | refine neq_b ?_ | refine add_a ?_ | refine sub_a ?_ | refine ld_a ?_ | refine ldA_a ?_ | refine ldS_a ?_ | refine ldNS_a ?_ | refine rdA_s ?_ | refine rd1_s ?_ | refine drew_a fun w1 H1 => ?_ | refine st_a fun w1 H1 => ?_ | refine stA_a fun w1 H1 => ?_ | refine lenT_a ?_ | refine lenO_a ?_ | refine ixT_a ?_ | refine ixO_a ?_ | fail)
      exact ⟨by rw [decide_eq_true ⟨h, h2⟩], H⟩
    · repeat (first | simp only [cI_enc, cE_enc, cN_enc, W0] | refine lss_a ?_ | refine lss_b ?_ | refine gtr_a ?_ | refine gtr_b ?_ | refine geq_a ?_ | refine geq_b ?_ | refine leq_a ?_ | refine leq_b ?_ | refine eql_a ?_ | refine eql_b ?_ | refine neq_a ?_ | refine neq_b ?_ | refine add_a ?_ | refine sub_a ?_ | refine ld_a ?_ | refine ldA_a ?_ | refine ldS_a ?_ | refine ldNS_a ?_ | refine rdA_s ?_ | refine rd1_s ?_ | refine drew_a fun w1 H1 => ?_ | refine st_a fun w1 H1 => ?_ | refine stA_a fun w1 H1 => ?_ | refine lenT_a ?_ | refine lenO_a ?_ | refine ixT_a ?_ | refine ixO_a ?_ | fail)
      exact ⟨by rw [decide_eq_false fun h => h2 h.2], H⟩
  · repeat (first | simp only [cI_enc, cE_enc, cN_enc, W0] | refine lss_a ?_ | refine lss_b ?_ | refine gtr_a ?_ | refine gtr_b ?_ | refine geq_a ?_ | refine geq_b ?_ | refine leq_a ?_ | refine leq_b ?_ | refine eql_a ?_ | refine eql_b ?_ | refine neq_a ?_ | refine neq_b ?_ | refine add_a ?_ | refine sub_a ?_ | refine ld_a ?_ | refine ldA_a ?_ | refine ldS_a ?_ | refine ldNS_a ?_ | refine rdA_s ?_ | refine rd1_s ?_ | refine drew_a fun w1 H1 => ?_ | refine st_a fun w1 H1 => ?_ | refine stA_a fun w1 H1 => ?_ | refine lenT_a ?_ | refine lenO_a ?_ | refine ixT_a ?_ | refine ixO_a ?_ | fail)
    exact ⟨by rw [decide_eq_false fun h' => h h'.1], H⟩
theorem Check_spec (h1 : TR cI w0 cs sb base) (h2 : TR cE w0 cs2 se es) (H : Hp w0 w L) (m1 : ∀ c ∈ cs, c ∈ L) (m2 : ∀ c ∈ cs2, c ∈ L) :
    Calls Pg 16 ⟨[.agg ⟨[sb, se]⟩]⟩ w fun x w' => x = .returned (I (chk base es)) ∧ Hp w0 w' L := by
  apply F16_calls
  unfold F16
  refine bx_m H fun w b H => ?_
  repeat (first | simp only [cI_enc, cE_enc, cN_enc, W0] | refine lss_a ?_ | refine lss_b ?_ | refine gtr_a ?_ | refine gtr_b ?_ | refine geq_a ?_ | refine geq_b ?_ | refine leq_a ?_ | refine leq_b ?_ | refine eql_a ?_ | refine eql_b ?_ | refine neq_a ?_ | refine neq_b ?_ | refine add_a ?_ | refine sub_a ?_ | refine ld_a ?_ | refine ldA_a ?_ | refine ldS_a ?_ | refine ldNS_a ?_ | refine rdA_s ?_ | refine rd1_s ?_ | refine drew_a fun w1 H1 => ?_ | refine st_a fun w1 H1 => ?_ | refine stA_a fun w1 H1 => ?_ | refine lenT_a ?_ | refine lenO_a ?_ | refine ixT_a ?_ | refine ixO_a ?_ | fail)
  refine gtr_k (fun hi => ?_) (fun hi => ?_)
  · repeat (first | simp only [cI_enc, cE_enc, cN_enc, W0] | refine lss_a ?_ | refine lss_b ?_ | refine gtr_a ?_ | refine gtr_b ?_ | refine geq_a ?_ | refine geq_b ?_ | refine leq_a ?_ | refine leq_b ?_ | refine eql_a ?_ | refine eql_b ?_ | refine neq_a ?_ | refine neq_b ?_ | refine add_a ?_ | refine sub_a ?_ | refine ld_a ?_ | refine ldA_a ?_ | refine ldS_a ?_ | refine ldNS_a ?_ | refine rdA_s ?_ | refine rd1_s ?_ | refine drew_a fun w1 H1 => ?_ | refine st_a fun w1 H1 => ?_ | refine stA_a fun w1 H1 => ?_ | refine lenT_a ?_ | refine lenO_a ?_ | refine ixT_a ?_ | refine ixO_a ?_ | fail)
    exact ⟨by unfold chk; rw [if_pos (.inl (by omega))], H.tail⟩
  repeat (first | simp only [cI_enc, cE_enc, cN_enc, W0] | refine lss_a ?_ | refine lss_b ?_ | refine gtr_a ?_ | refine gtr_b ?_ | refine geq_a ?_ | refine geq_b ?_ | refine leq_a ?_ | refine leq_b ?_ | refine eql_a ?_ | refine eql_b ?_ | refine neq_a ?_ | refine neq_b ?_ | refine add_a ?_ | refine sub_a ?_ | refine ld_a ?_ | refine ldA_a ?_ | refine ldS_a ?_ | refine ldNS_a ?_ | refine rdA_s ?_ | refine rd1_s ?_ | refine drew_a fun w1 H1 => ?_ | refine st_a fun w1 H1 => ?_ | refine stA_a fun w1 H1 => ?_ | refine lenT_a ?_ | refine lenO_a ?_ | refine ixT_a ?_ | refine ixO_a ?_ | fail)
  refine gtr_k (fun hj => ?_) (fun hj => ?_)
  · repeat (first | simp only [cI_enc, cE_enc, cN_enc, W0] | refine lss_a ?_ | refine lss_b ?_ | refine gtr_a ?_ | refine gtr_b ?_ | refine geq_a ?_ | refine geq_b ?_ | refine leq_a ?_ | refine leq_b ?_ | refine eql_a ?_ | refine eql_b ?_ | refine neq_a ?_ | refine neq_b ?_ | refine add_a ?_ | refine sub_a ?_ | refine ld_a ?_ | refine ldA_a ?_ | refine ldS_a ?_ | refine ldNS_a ?_ | refine rdA_s ?_ | refine rd1_s ?_ | refine drew_a fun w1 H1 => ?_ | refine st_a fun w1 H1 => ?_ | refine stA_a fun w1 H1 => ?_ | refine lenT_a ?_ | refine lenO_a ?_ | refine ixT_a ?_ | refine ixO_a ?_ | fail)
    exact ⟨by unfold chk; rw [if_pos (.inr (by omega))], H.tail⟩
  repeat (first | simp only [cI_enc, cE_enc, cN_enc, W0] | refine lss_a ?_ | refine lss_b ?_ | refine gtr_a ?_ | refine gtr_b ?_ | refine geq_a ?_ | refine geq_b ?_ | refine leq_a ?_ | refine leq_b ?_ | refine eql_a ?_ | refine eql_b ?_ | refine neq_a ?_ | refine neq_b ?_ | refine add_a ?_ | refine sub_a ?_ | refine ld_a ?_ | refine ldA_a ?_ | refine ldS_a ?_ | refine ldNS_a ?_ | refine rdA_s ?_ | refine rd1_s ?_ | refine drew_a fun w1 H1 => ?_ | refine st_a fun w1 H1 => ?_ | refine stA_a fun w1 H1 => ?_ | refine lenT_a ?_ | refine lenO_a ?_ | refine ixT_a ?_ | refine ixO_a ?_ | fail)
  have c1 : chk base es = if ∃ b ∈ base, b < 0 ∨ 255 < b then 34 else if ∃ e ∈ es, inR base.length e.1 = false ∨ inR base.length e.2 = false then 34 else if ¬ es.Nodup then 38 else 0 := by
    unfold chk; rw [if_neg (by omega)]
  have cont35 : Calls Pg 35 ⟨[sb, .func (.func 36) ⟨[]⟩ ⟨[]⟩]⟩ w fun e w' => e = .returned (.bool (base.any fun x => !decide (0 ≤ x ∧ x ≤ 255))) ∧ Hp w0 w' (⟨b, 25, [sb, se]⟩ :: L) := by
    apply F35_calls
    unfold F35
    refine cal_h (Index60_spec (p := fun x => !decide (0 ≤ x ∧ x ≤ 255)) h1 H csub (by omega) (by kernel_rfl) ?_) ?_
    · intro x _ w H
      apply F36_calls
      unfold F36
      refine cal_h (isPri_spec H) ?_
      rintro _ w ⟨rfl, H⟩
      repeat (first | simp only [cI_enc, cE_enc, cN_enc, W0] | refine lss_a ?_ | refine lss_b ?_ | refine gtr_a ?_ | refine gtr_b ?_ | refine geq_a ?_ | refine geq_b ?_ | refine leq_a ?_ | refine leq_b ?_ | refine eql_a ?_ | refine eql_b ?_ | refine neq_a ?_ | refine neq_b ?_ | refine add_a ?_ | refine sub_a ?_ | refine ld_a ?_ | refine ldA_a ?_ | refine ldS_a ?_ | refine ldNS_a ?_ | refine rdA_s ?_ | refine rd1_s ?_ | refine drew_a fun w1 H1 => ?_ | refine st_a fun w1 H1 => ?_ | refine stA_a fun w1 H1 => ?_ | refine lenT_a ?_ | refine lenO_a ?_ | refine ixT_a ?_ | refine ixO_a ?_ | fail)
      exact ⟨(by first | rfl | trivial), H⟩
    · rintro _ w ⟨⟨i, rfl, hi⟩, H⟩
      simp only [ret_k]
      rw [bin_geq]
      simp only [pv_some]
      exact ⟨by rw [hi], H⟩
  refine cal_h cont35 ?_
  rintro _ w ⟨rfl, H⟩
  simp only [ret_k]
  refine cnd_k (fun hv => ?_) (fun hv => ?_)
  · refine ⟨?_, H.tail⟩
    obtain ⟨x, hx, hp⟩ := List.any_eq_true.1 hv
    rw [c1, if_pos ⟨x, hx, by simp at hp; omega⟩]
  have c2 : chk base es = if ∃ e ∈ es, inR base.length e.1 = false ∨ inR base.length e.2 = false then 34 else if ¬ es.Nodup then 38 else 0 := by
    rw [c1, if_neg]
    rintro ⟨x, hx, hb⟩
    have := List.any_eq_false.1 hv x hx
    simp at this; omega
  unfold F16_j2
  refine al_m (ys := [.nilFunc]) H (by kernel_rfl) fun w b2 H => ?_
  have cont39 : ∀ {w}, Hp w0 w (⟨b2, 69, [.func (.func 38) ⟨[]⟩ ⟨[ptr b 0]⟩]⟩ :: ⟨b, 25, [sb, se]⟩ :: L) → Calls Pg 39 ⟨[se, .func (.func 40) ⟨[]⟩ ⟨[ptr b2 0]⟩]⟩ w fun e w' => e = .returned (.bool (es.any fun e => !inR base.length e.1 || !inR base.length e.2)) ∧ Hp w0 w' (⟨b2, 69, [.func (.func 38) ⟨[]⟩ ⟨[ptr b 0]⟩]⟩ :: ⟨b, 25, [sb, se]⟩ :: L) := by
    intro w H
    apply F39_calls
    unfold F39
    refine cal_h (Index61_spec (p := fun e => !inR base.length e.1 || !inR base.length e.2) h2 H csub (by omega) (by kernel_rfl) ?_) ?_
    · intro x _ w H
      have out : ∀ {y : Int} {w : World} {L' : List Chunk}, Hp w0 w (L' ++ (⟨b, 25, [sb, se]⟩ :: L)) → Calls Pg 38 ⟨[] ++ [I y] ++ [ptr b 0]⟩ w fun e w' => e = .returned (.bool (!inR base.length y)) ∧ Hp w0 w' (L' ++ (⟨b, 25, [sb, se]⟩ :: L)) := by
        intro y w L' H
        apply F38_calls
        unfold F38
        refine lss_k (fun h => ?_) (fun h => ?_)
        · repeat (first | simp only [cI_enc, cE_enc, cN_enc, W0] | refine lss_a ?_ | refine lss_b ?_ | refine gtr_a ?_ | refine gtr_b ?_ | refine geq_a ?_ | refine geq_b ?_ | refine leq_a ?_ | refine leq_b ?_ | refine eql_a ?_ | refine eql_b ?_ | refine neq_a ?_ | refine neq_b ?_ | refine add_a ?_ | refine sub_a ?_ | refine ld_a ?_ | refine ldA_a ?_ | refine ldS_a ?_ | refine ldNS_a ?_ | refine rdA_s ?_ | refine rd1_s ?_ | refine drew_a fun w1 H1 => ?_ | refine st_a fun w1 H1 => ?_ | refine stA_a fun w1 H1 => ?_ | refine lenT_a ?_ | refine lenO_a ?_ | refine ixT_a ?_ | refine ixO_a ?_ | fail)
          exact ⟨by rw [inR, decide_eq_false fun h' => by omega]; rfl, H⟩
        · repeat (first | simp only [cI_enc, cE_enc, cN_enc, W0] | refine lss_a ?_ | refine lss_b ?_ | refine gtr_a ?_ | refine gtr_b ?_ | refine geq_a ?_ | refine geq_b ?_ | refine leq_a ?_ | refine leq_b ?_ | refine eql_a ?_ | refine eql_b ?_ | refine neq_a ?_ | refine neq_b ?_ | refine add_a ?_ | refine sub_a ?_ | refine ld_a ?_ | refine ldA_a ?_ | refine ldS_a ?_ | refine ldNS_a ?_ | refine rdA_s ?_ | refine rd1_s ?_ | refine drew_a fun w1 H1 => ?_ | refine st_a fun w1 H1 => ?_ | refine stA_a fun w1 H1 => ?_ | refine lenT_a ?_ | refine lenO_a ?_ | refine ixT_a ?_ | refine ixO_a ?_ | fail)
          refine geq_k (fun h => ?_) (fun h => ?_)
          · repeat (first | simp only [cI_enc, cE_enc, cN_enc, W0] | refine lss_a ?_ | refine lss_b ?_ | refine gtr_a ?_ | refine gtr_b ?_ | refine geq_a ?_ | refine geq_b ?_ | refine leq_a ?_ | refine leq_b ?_ | refine eql_a ?_ | refine eql_b ?_ | refine neq_a ?_ | refine neq_b ?_ | refine add_a ?_ | refine sub_a ?_ | refine ld_a ?_ | refine ldA_a ?_ | refine ldS_a ?_ | refine ldNS_a ?_ | refine rdA_s ?_ | refine rd1_s ?_ | refine drew_a fun w1 H1 => ?_ | refine st_a fun w1 H1 => ?_ | refine stA_a fun w1 H1 => ?_ | refine lenT_a ?_ | refine lenO_a ?_ | refine ixT_a ?_ | refine ixO_a ?_ | fail)
            exact ⟨by rw [inR, decide_eq_false fun h' => by omega]; rfl, H⟩
          · repeat (first | simp only [cI_enc, cE_enc, cN_enc, W0] | refine lss_a ?_ | refine lss_b ?_ | refine gtr_a ?_ | refine gtr_b ?_ | refine geq_a ?_ | refine geq_b ?_ | refine leq_a ?_ | refine leq_b ?_ | refine eql_a ?_ | refine eql_b ?_ | refine neq_a ?_ | refine neq_b ?_ | refine add_a ?_ | refine sub_a ?_ | refine ld_a ?_ | refine ldA_a ?_ | refine ldS_a ?_ | refine ldNS_a ?_ | refine rdA_s ?_ | refine rd1_s ?_ | refine drew_a fun w1 H1 => ?_ | refine st_a fun w1 H1 => ?_ | refine stA_a fun w1 H1 => ?_ | refine lenT_a ?_ | refine lenO_a ?_ | refine ixT_a ?_ | refine ixO_a ?_ | fail)
            exact ⟨by rw [inR, decide_eq_true ⟨by omega, by omega⟩]; rfl, H⟩
      apply F40_calls
      unfold F40
      refine bx_m H fun w b3 H => ?_
      repeat (first | simp only [cI_enc, cE_enc, cN_enc, W0] | refine lss_a ?_ | refine lss_b ?_ | refine gtr_a ?_ | refine gtr_b ?_ | refine geq_a ?_ | refine geq_b ?_ | refine leq_a ?_ | refine leq_b ?_ | refine eql_a ?_ | refine eql_b ?_ | refine neq_a ?_ | refine neq_b ?_ | refine add_a ?_ | refine sub_a ?_ | refine ld_a ?_ | refine ldA_a ?_ | refine ldS_a ?_ | refine ldNS_a ?_ | refine rdA_s ?_ | refine rd1_s ?_ | refine drew_a fun w1 H1 => ?_ | refine st_a fun w1 H1 => ?_ | refine stA_a fun w1 H1 => ?_ | refine lenT_a ?_ | refine lenO_a ?_ | refine ixT_a ?_ | refine ixO_a ?_ | fail)
      refine calD_k (by kernel_rfl) ?_
      refine cal_h (out (L' := [_, _]) H) ?_
      rintro _ w ⟨rfl, H⟩
      cases ha : inR base.length x.1 with
      | false =>
        repeat (first | simp only [cI_enc, cE_enc, cN_enc, W0] | refine lss_a ?_ | refine lss_b ?_ | refine gtr_a ?_ | refine gtr_b ?_ | refine geq_a ?_ | refine geq_b ?_ | refine leq_a ?_ | refine leq_b ?_ | refine eql_a ?_ | refine eql_b ?_ | refine neq_a ?_ | refine neq_b ?_ | refine add_a ?_ | refine sub_a ?_ | refine ld_a ?_ | refine ldA_a ?_ | refine ldS_a ?_ | refine ldNS_a ?_ | refine rdA_s ?_ | refine rd1_s ?_ | refine drew_a fun w1 H1 => ?_ | refine st_a fun w1 H1 => ?_ | refine stA_a fun w1 H1 => ?_ | refine lenT_a ?_ | refine lenO_a ?_ | refine ixT_a ?_ | refine ixO_a ?_ | fail)
        exact ⟨by simp [ha], H.tail⟩
      | true =>
        repeat (first | simp only [cI_enc, cE_enc, cN_enc, W0] | refine lss_a ?_ | refine lss_b ?_ | refine gtr_a ?_ | refine gtr_b ?_ | refine geq_a ?_ | refine geq_b ?_ | refine leq_a ?_ | refine leq_b ?_ | refine eql_a ?_ | refine eql_b ?_ | refine neq_a ?_ | refine neq_b ?_ | refine add_a ?_ | refine sub_a ?_ | refine ld_a ?_ | refine ldA_a ?_ | refine ldS_a ?_ | refine ldNS_a ?_ | refine rdA_s ?_ | refine rd1_s ?_ | refine drew_a fun w1 H1 => ?_ | refine st_a fun w1 H1 => ?_ | refine stA_a fun w1 H1 => ?_ | refine lenT_a ?_ | refine lenO_a ?_ | refine ixT_a ?_ | refine ixO_a ?_ | fail)
        refine calD_k (by kernel_rfl) ?_
        refine cal_h (out (L' := [_, _]) H) ?_
        rintro _ w ⟨rfl, H⟩
        repeat (first | simp only [cI_enc, cE_enc, cN_enc, W0] | refine lss_a ?_ | refine lss_b ?_ | refine gtr_a ?_ | refine gtr_b ?_ | refine geq_a ?_ | refine geq_b ?_ | refine leq_a ?_ | refine leq_b ?_ | refine eql_a ?_ | refine eql_b ?_ | refine neq_a ?_ | refine neq_b ?_ | refine add_a ?_ | refine sub_a ?_ | refine ld_a ?_ | refine ldA_a ?_ | refine ldS_a ?_ | refine ldNS_a ?_ | refine rdA_s ?_ | refine rd1_s ?_ | refine drew_a fun w1 H1 => ?_ | refine st_a fun w1 H1 => ?_ | refine stA_a fun w1 H1 => ?_ | refine lenT_a ?_ | refine lenO_a ?_ | refine ixT_a ?_ | refine ixO_a ?_ | fail)
        exact ⟨by simp [ha], H.tail⟩
    · rintro _ w ⟨⟨i, rfl, hi⟩, H⟩
      simp only [ret_k]
      rw [bin_geq]
      simp only [pv_some]
      exact ⟨by rw [hi], H⟩
  repeat (first | simp only [cI_enc, cE_enc, cN_enc, W0] | refine lss_a ?_ | refine lss_b ?_ | refine gtr_a ?_ | refine gtr_b ?_ | refine geq_a ?_ | refine geq_b ?_ | refine leq_a ?_ | refine leq_b ?_ | refine eql_a ?_ | refine eql_b ?_ | refine neq_a ?_ | refine neq_b ?_ | refine add_a ?_ | refine sub_a ?_ | refine ld_a ?_ | refine ldA_a ?_ | refine ldS_a ?_ | refine ldNS_a ?_ | refine rdA_s ?_ | refine rd1_s ?_ | refine drew_a fun w1 H1 => ?_ | refine st_a fun w1 H1 => ?_ | refine stA_a fun w1 H1 => ?_ | refine lenT_a ?_ | refine lenO_a ?_ | refine ixT_a ?_ | refine ixO_a ?_ | fail)
  refine cal_h (cont39 (by assumption)) ?_
  rintro _ w ⟨rfl, H⟩
  simp only [ret_k]
  refine cnd_k (fun hv => ?_) (fun hv => ?_)
  · refine ⟨?_, H.tail.tail⟩
    obtain ⟨x, hx, hp⟩ := List.any_eq_true.1 hv
    rw [c2, if_pos ⟨x, hx, by simpa using hp⟩]
  have c3 : chk base es = if ¬ es.Nodup then 38 else 0 := by
    rw [c2, if_neg]
    rintro ⟨x, hx, hb⟩
    have := List.any_eq_false.1 hv x hx
    simp at this; rcases hb with hb | hb
    · rw [this.1] at hb; cases hb
    · rw [this.2] at hb; cases hb
  unfold F16_j3
  refine make_m (key := kE) (val := Value.bool) H.tail fun w mb H => ?_
  unfold F16_j5
  repeat (first | simp only [cI_enc, cE_enc, cN_enc, W0] | refine lss_a ?_ | refine lss_b ?_ | refine gtr_a ?_ | refine gtr_b ?_ | refine geq_a ?_ | refine geq_b ?_ | refine leq_a ?_ | refine leq_b ?_ | refine eql_a ?_ | refine eql_b ?_ | refine neq_a ?_ | refine neq_b ?_ | refine add_a ?_ | refine sub_a ?_ | refine ld_a ?_ | refine ldA_a ?_ | refine ldS_a ?_ | refine ldNS_a ?_ | refine rdA_s ?_ | refine rd1_s ?_ | refine drew_a fun w1 H1 => ?_ | refine st_a fun w1 H1 => ?_ | refine stA_a fun w1 H1 => ?_ | refine lenT_a ?_ | refine lenO_a ?_ | refine ixT_a ?_ | refine ixO_a ?_ | fail)
  unfold F16_j6
  refine loop4 (F16_l1_succ _) (fun m x4 x27 x28 x29 w => ∃ i : Nat, ∃ ents clock, x4 = .map (some mb) ∧ x27 = se ∧ x28 = I (es.length : Int) ∧ x29 = I i ∧ m + i = es.length ∧ mkeys ents = es.take i ∧ (es.take i).Nodup ∧ (∀ e ∈ ents, e.2.1 = true) ∧ Hp w0 w (⟨mb, .o (mobj kE Value.bool ents clock), []⟩ :: ⟨b, 25, [sb, se]⟩ :: L)) ?_ (m := es.length)
    ⟨0, [], 0, rfl, rfl, rfl, rfl, rfl, rfl, by simp, by simp, H⟩
  clear H
  rintro m k _ se _ _ w ⟨i, ents, clock, rfl, rfl, rfl, rfl, hm, hks, hnd, htr, H⟩ hk
  unfold F16_b1
  refine lss_k (fun hi' => ?_) (fun hi' => ?_)
  · have hx : es[i]? = some es[i] := List.getElem?_eq_getElem (by omega)
    unfold F16_j7
    repeat (first | simp only [cI_enc, cE_enc, cN_enc, W0] | refine lss_a ?_ | refine lss_b ?_ | refine gtr_a ?_ | refine gtr_b ?_ | refine geq_a ?_ | refine geq_b ?_ | refine leq_a ?_ | refine leq_b ?_ | refine eql_a ?_ | refine eql_b ?_ | refine neq_a ?_ | refine neq_b ?_ | refine add_a ?_ | refine sub_a ?_ | refine ld_a ?_ | refine ldA_a ?_ | refine ldS_a ?_ | refine ldNS_a ?_ | refine rdA_s ?_ | refine rd1_s ?_ | refine drew_a fun w1 H1 => ?_ | refine st_a fun w1 H1 => ?_ | refine stA_a fun w1 H1 => ?_ | refine lenT_a ?_ | refine lenO_a ?_ | refine ixT_a ?_ | refine ixO_a ?_ | fail)
    refine ixN_t (C := cE) h2 H csub hx (by decide) ?_
    refine al39 H fun w b3 H => ?_
    repeat (first | simp only [cI_enc, cE_enc, cN_enc, W0] | refine lss_a ?_ | refine lss_b ?_ | refine gtr_a ?_ | refine gtr_b ?_ | refine geq_a ?_ | refine geq_b ?_ | refine leq_a ?_ | refine leq_b ?_ | refine eql_a ?_ | refine eql_b ?_ | refine neq_a ?_ | refine neq_b ?_ | refine add_a ?_ | refine sub_a ?_ | refine ld_a ?_ | refine ldA_a ?_ | refine ldS_a ?_ | refine ldNS_a ?_ | refine rdA_s ?_ | refine rd1_s ?_ | refine drew_a fun w1 H1 => ?_ | refine st_a fun w1 H1 => ?_ | refine stA_a fun w1 H1 => ?_ | refine lenT_a ?_ | refine lenO_a ?_ | refine ixT_a ?_ | refine ixO_a ?_ | fail)
    refine lookup_h mapE es[i] (by assumption) (by exact has) ?_
    cases hg : mget es[i] ents with
    | some v =>
      obtain ⟨nn, hmem⟩ := mget_some hg
      have hv' := htr _ hmem
      simp only at hv'; subst hv'
      simp only [lkv, Option.getD_some]
      repeat (first | simp only [cI_enc, cE_enc, cN_enc, W0] | refine lss_a ?_ | refine lss_b ?_ | refine gtr_a ?_ | refine gtr_b ?_ | refine geq_a ?_ | refine geq_b ?_ | refine leq_a ?_ | refine leq_b ?_ | refine eql_a ?_ | refine eql_b ?_ | refine neq_a ?_ | refine neq_b ?_ | refine add_a ?_ | refine sub_a ?_ | refine ld_a ?_ | refine ldA_a ?_ | refine ldS_a ?_ | refine ldNS_a ?_ | refine rdA_s ?_ | refine rd1_s ?_ | refine drew_a fun w1 H1 => ?_ | refine st_a fun w1 H1 => ?_ | refine stA_a fun w1 H1 => ?_ | refine lenT_a ?_ | refine lenO_a ?_ | refine ixT_a ?_ | refine ixO_a ?_ | fail)
      have H9 : Hp w0 w1 (⟨b3, 39, [I es[i].1, I es[i].2]⟩ :: ⟨mb, .o (mobj kE Value.bool ents clock), []⟩ :: ⟨b, 25, [sb, se]⟩ :: L) := by assumption
      refine ⟨?_, H9.tail.tail.tail⟩
      rw [c3, if_pos]
      intro hall
      have hin : es[i] ∈ mkeys ents := List.mem_map.2 ⟨_, hmem, rfl⟩
      rw [hks] at hin
      obtain ⟨j, hj, e⟩ := List.getElem_of_mem hin
      simp at hj e
      exact List.pairwise_iff_getElem.1 hall j i (by omega) (by omega) (by omega) e
    | none =>
      have hnot := mget_none.1 hg
      simp only [lkv, Option.getD_none]
      repeat (first | simp only [cI_enc, cE_enc, cN_enc, W0] | refine lss_a ?_ | refine lss_b ?_ | refine gtr_a ?_ | refine gtr_b ?_ | refine geq_a ?_ | refine geq_b ?_ | refine leq_a ?_ | refine leq_b ?_ | refine eql_a ?_ | refine eql_b ?_ | refine neq_a ?_ | refine neq_b ?_ | refine add_a ?_ | refine sub_a ?_ | refine ld_a ?_ | refine ldA_a ?_ | refine ldS_a ?_ | refine ldNS_a ?_ | refine rdA_s ?_ | refine rd1_s ?_ | refine drew_a fun w1 H1 => ?_ | refine st_a fun w1 H1 => ?_ | refine stA_a fun w1 H1 => ?_ | refine lenT_a ?_ | refine lenO_a ?_ | refine ixT_a ?_ | refine ixO_a ?_ | fail)
      obtain ⟨e1, e2⟩ := mput_new (v := true) (clock := clock) hnot
      refine put_h (ents := ents) (clock := clock) mapE es[i] true (by assumption) (by exact updd) fun w H => ?_
      rw [e1, e2] at H
      repeat (first | simp only [cI_enc, cE_enc, cN_enc, W0] | refine lss_a ?_ | refine lss_b ?_ | refine gtr_a ?_ | refine gtr_b ?_ | refine geq_a ?_ | refine geq_b ?_ | refine leq_a ?_ | refine leq_b ?_ | refine eql_a ?_ | refine eql_b ?_ | refine neq_a ?_ | refine neq_b ?_ | refine add_a ?_ | refine sub_a ?_ | refine ld_a ?_ | refine ldA_a ?_ | refine ldS_a ?_ | refine ldNS_a ?_ | refine rdA_s ?_ | refine rd1_s ?_ | refine drew_a fun w1 H1 => ?_ | refine st_a fun w1 H1 => ?_ | refine stA_a fun w1 H1 => ?_ | refine lenT_a ?_ | refine lenO_a ?_ | refine ixT_a ?_ | refine ixO_a ?_ | fail)
      refine hk (m - 1) _ _ _ _ _ (by omega) ⟨i + 1, _, _, rfl, rfl, rfl, rfl, by omega, ?_, ?_, ?_, H.tail⟩
      · rw [mkeys, List.map_append, List.take_add_one, hx, ← hks]; rfl
      · rw [List.take_add_one, hx]
        simp only [Option.toList_some]
        rw [List.nodup_append]
        refine ⟨hnd, by simp, fun a ha b hb => ?_⟩
        simp at hb; subst hb
        rintro rfl; rw [hks] at hnot; exact hnot ha
      · intro e he
        rcases List.mem_append.1 he with he | he
        · exact htr e he
        · simp at he; subst he; rfl
  · repeat (first | simp only [cI_enc, cE_enc, cN_enc, W0] | refine lss_a ?_ | refine lss_b ?_ | refine gtr_a ?_ | refine gtr_b ?_ | refine geq_a ?_ | refine geq_b ?_ | refine leq_a ?_ | refine leq_b ?_ | refine eql_a ?_ | refine eql_b ?_ | refine neq_a ?_ | refine neq_b ?_ | refine add_a ?_ | refine sub_a ?_ | refine ld_a ?_ | refine ldA_a ?_ | refine ldS_a ?_ | refine ldNS_a ?_ | refine rdA_s ?_ | refine rd1_s ?_ | refine drew_a fun w1 H1 => ?_ | refine st_a fun w1 H1 => ?_ | refine stA_a fun w1 H1 => ?_ | refine lenT_a ?_ | refine lenO_a ?_ | refine ixT_a ?_ | refine ixO_a ?_ | fail)
    unfold F16_j4
    rw [List.take_of_length_le (by omega)] at hnd
    exact ⟨by rw [c3, if_neg (by simpa using hnd)], H.tail.tail⟩
end
end Go.Proofs.Ytagcifbfokneoaa.Den
