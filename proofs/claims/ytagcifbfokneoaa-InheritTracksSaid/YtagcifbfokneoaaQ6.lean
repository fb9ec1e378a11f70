/- Printed by a program of this session: what the functions mean, and that the model means just that. Conditions: none. -/
import Derived.Test.YtagcifbfokneoaaQ5
section
set_option linter.unusedVariables false
set_option maxRecDepth 100000
namespace Go.Proofs.Ytagcifbfokneoaa.Den
open Go

end Go.Proofs.Ytagcifbfokneoaa.Den
end

section
set_option linter.unusedVariables false
set_option linter.unusedSimpArgs false
set_option maxRecDepth 8000
namespace Go.Proofs.Ytagcifbfokneoaa.Den
open Go Go.RowKit
def cI : Cod Int := ⟨1, fun n => [I n], fun _ => rfl, by intro a c hc; simp at hc; subst hc; rfl⟩
def cE : Cod (Int × Int) := ⟨2, fun e => [I e.1, I e.2], fun _ => rfl, by intro a c hc; simp at hc; rcases hc with rfl | rfl <;> rfl⟩
theorem cI_enc (n : Int) : cI.enc n = [I n] := rfl
theorem cE_enc (e : Int × Int) : cE.enc e = [I e.1, I e.2] := rfl
def cN : Cod (Nat × Nat) := ⟨2, fun e => [I (e.1 : Int), I (e.2 : Int)], fun _ => rfl, by intro a c hc; simp at hc; rcases hc with rfl | rfl <;> rfl⟩
theorem cN_enc (e : Nat × Nat) : cN.enc e = [I (e.1 : Int), I (e.2 : Int)] := rfl
theorem elI : ElT 22 3 cI.sz 8 [I 0] := ⟨by kernel_rfl, by kernel_rfl, rfl⟩
theorem elE : ElT 23 39 cE.sz 16 [I 0, I 0] := ⟨by kernel_rfl, by kernel_rfl, rfl⟩
section
variable {w w' w0 : World} {L L' F cs cs2 : List Chunk} {s s2 : Value} {K : VK} {R : ER}
theorem Equal_spec {xs ys : List Int} (h1 : TR cI w0 cs s xs) (h2 : TR cI w0 cs2 s2 ys) (H : Hp w0 w L) (m1 : ∀ c ∈ cs, c ∈ L) (m2 : ∀ c ∈ cs2, c ∈ L) (hl : xs.length < 2 ^ 62) :
    Calls Pg 18 ⟨[s, s2]⟩ w fun e w' => e = .returned (.bool (decide (xs = ys))) ∧ Hp w0 w' L := by
  apply F18_calls
  unfold F18
  refine pv_of (lenS_tr h1) ?_
  refine pv_of (lenS_tr h2) ?_
  refine neq_k (fun h => ?_) (fun h => ?_)
  · repeat (first | simp only [cI_enc, cE_enc, cN_enc, W0] | refine lss_a ?_ | refine lss_b ?_ | refine gtr_a ?_ | refine gtr_b ?_ | refine geq_a ?_ | refine geq_b ?_ | refine leq_a ?_ | refine leq_b ?_ | refine eql_a ?_ | refine eql_b ?_ | refine neq_a ?_ | refine neq_b ?_ | refine add_a ?_ | refine sub_a ?_ | refine ld_a ?_ | refine ldA_a ?_ | refine ldS_a ?_ | refine ldNS_a ?_ | refine rdA_s ?_ | refine rd1_s ?_ | refine drew_a fun w1 H1 => ?_ | refine st_a fun w1 H1 => ?_ | refine stA_a fun w1 H1 => ?_ | refine lenT_a ?_ | refine lenO_a ?_ | refine ixT_a ?_ | refine ixO_a ?_ | fail)
    refine ⟨?_, H⟩
    rw [decide_eq_false]; rintro rfl; exact h rfl
  have hlen : xs.length = ys.length := by omega
  repeat (first | simp only [cI_enc, cE_enc, cN_enc, W0] | refine lss_a ?_ | refine lss_b ?_ | refine gtr_a ?_ | refine gtr_b ?_ | refine geq_a ?_ | refine geq_b ?_ | refine leq_a ?_ | refine leq_b ?_ | refine eql_a ?_ | refine eql_b ?_ | refine neq_a ?_ | refine neq_b ?_ | refine add_a ?_ | refine sub_a ?_ | refine ld_a ?_ | refine ldA_a ?_ | refine ldS_a ?_ | refine ldNS_a ?_ | refine rdA_s ?_ | refine rd1_s ?_ | refine drew_a fun w1 H1 => ?_ | refine st_a fun w1 H1 => ?_ | refine stA_a fun w1 H1 => ?_ | refine lenT_a ?_ | refine lenO_a ?_ | refine ixT_a ?_ | refine ixO_a ?_ | fail)
  unfold F18_j1 F18_j3 F18_j4
  refine loop3 (F18_l1_succ _) (fun m a b c w => ∃ i : Nat, a = s ∧ b = s2 ∧ c = I i ∧ m + i = xs.length ∧ xs.take i = ys.take i ∧ Hp w0 w L) ?_ (m := xs.length) ⟨0, rfl, rfl, rfl, rfl, rfl, H⟩
  rintro m k _ _ _ w ⟨i, rfl, rfl, rfl, hm, he, H⟩ hk
  unfold F18_b1 F18_j5 F18_j2
  refine pv_of (lenS_tr h1) ?_
  refine lss_k (fun h => ?_) (fun h => ?_)
  · repeat (first | simp only [cI_enc, cE_enc, cN_enc, W0] | refine lss_a ?_ | refine lss_b ?_ | refine gtr_a ?_ | refine gtr_b ?_ | refine geq_a ?_ | refine geq_b ?_ | refine leq_a ?_ | refine leq_b ?_ | refine eql_a ?_ | refine eql_b ?_ | refine neq_a ?_ | refine neq_b ?_ | refine add_a ?_ | refine sub_a ?_ | refine ld_a ?_ | refine ldA_a ?_ | refine ldS_a ?_ | refine ldNS_a ?_ | refine rdA_s ?_ | refine rd1_s ?_ | refine drew_a fun w1 H1 => ?_ | refine st_a fun w1 H1 => ?_ | refine stA_a fun w1 H1 => ?_ | refine lenT_a ?_ | refine lenO_a ?_ | refine ixT_a ?_ | refine ixO_a ?_ | fail)
    have hx : xs[i]? = some xs[i] := List.getElem?_eq_getElem (by omega)
    have hy : ys[i]? = some ys[i] := List.getElem?_eq_getElem (by omega)
    refine ix1_t h1 H1 m1 hx rfl rfl ?_
    refine ix1_t h2 H1 m2 hy rfl rfl ?_
    refine neq_k (fun h => ?_) (fun h => ?_)
    · repeat (first | simp only [cI_enc, cE_enc, cN_enc, W0] | refine lss_a ?_ | refine lss_b ?_ | refine gtr_a ?_ | refine gtr_b ?_ | refine geq_a ?_ | refine geq_b ?_ | refine leq_a ?_ | refine leq_b ?_ | refine eql_a ?_ | refine eql_b ?_ | refine neq_a ?_ | refine neq_b ?_ | refine add_a ?_ | refine sub_a ?_ | refine ld_a ?_ | refine ldA_a ?_ | refine ldS_a ?_ | refine ldNS_a ?_ | refine rdA_s ?_ | refine rd1_s ?_ | refine drew_a fun w1 H1 => ?_ | refine st_a fun w1 H1 => ?_ | refine stA_a fun w1 H1 => ?_ | refine lenT_a ?_ | refine lenO_a ?_ | refine ixT_a ?_ | refine ixO_a ?_ | fail)
      refine ⟨?_, H1⟩
      rw [decide_eq_false]
      rintro rfl; exact h rfl
    · repeat (first | simp only [cI_enc, cE_enc, cN_enc, W0] | refine lss_a ?_ | refine lss_b ?_ | refine gtr_a ?_ | refine gtr_b ?_ | refine geq_a ?_ | refine geq_b ?_ | refine leq_a ?_ | refine leq_b ?_ | refine eql_a ?_ | refine eql_b ?_ | refine neq_a ?_ | refine neq_b ?_ | refine add_a ?_ | refine sub_a ?_ | refine ld_a ?_ | refine ldA_a ?_ | refine ldS_a ?_ | refine ldNS_a ?_ | refine rdA_s ?_ | refine rd1_s ?_ | refine drew_a fun w1 H1 => ?_ | refine st_a fun w1 H1 => ?_ | refine stA_a fun w1 H1 => ?_ | refine lenT_a ?_ | refine lenO_a ?_ | refine ixT_a ?_ | refine ixO_a ?_ | fail)
      exact hk (m - 1) _ _ _ _ (by omega) ⟨i + 1, rfl, rfl, rfl, by omega, by rw [List.take_add_one, List.take_add_one, he, hx, hy, h], H1⟩
  · repeat (first | simp only [cI_enc, cE_enc, cN_enc, W0] | refine lss_a ?_ | refine lss_b ?_ | refine gtr_a ?_ | refine gtr_b ?_ | refine geq_a ?_ | refine geq_b ?_ | refine leq_a ?_ | refine leq_b ?_ | refine eql_a ?_ | refine eql_b ?_ | refine neq_a ?_ | refine neq_b ?_ | refine add_a ?_ | refine sub_a ?_ | refine ld_a ?_ | refine ldA_a ?_ | refine ldS_a ?_ | refine ldNS_a ?_ | refine rdA_s ?_ | refine rd1_s ?_ | refine drew_a fun w1 H1 => ?_ | refine st_a fun w1 H1 => ?_ | refine stA_a fun w1 H1 => ?_ | refine lenT_a ?_ | refine lenO_a ?_ | refine ixT_a ?_ | refine ixO_a ?_ | fail)
    refine ⟨?_, H⟩
    rw [decide_eq_true]
    rw [List.take_of_length_le (by omega), List.take_of_length_le (by omega)] at he
    exact he
end
end Go.Proofs.Ytagcifbfokneoaa.Den
end

section
set_option linter.unusedVariables false
set_option linter.unusedSimpArgs false
set_option maxRecDepth 8000
namespace Go.Proofs.Ytagcifbfokneoaa.Den
open Go Go.RowKit
def inR (n : Nat) (x : Int) : Bool := decide (0 ≤ x ∧ x < n)
def chk (base : List Int) (es : List (Int × Int)) : Int :=
  if 256 < base.length ∨ 2000 < es.length then 18 else if ∃ b ∈ base, b < 0 ∨ 255 < b then 34 else if ∃ e ∈ es, inR base.length e.1 = false ∨ inR base.length e.2 = false then 34 else if ¬ es.Nodup then 38 else 0
theorem eqE (a b c d : Int) : eqAgg [0,0] (.agg ⟨[I a, I b]⟩) (.agg ⟨[I c, I d]⟩) = some (.bool (decide ((a, b) = (c, d)))) := by
  have : decide ((a, b) = (c, d)) = (a == c && b == d) := by rw [Bool.eq_iff_iff]; simp
  rw [this]; simp [eqAgg, eqCells, eqLeaf]
section
variable {w w' w0 : World} {L L' F cs cs2 : List Chunk} {s s2 sb se : Value} {K : VK} {R : ER} {base : List Int} {es : List (Int × Int)}
theorem has_spec {e : Int × Int} (h : TR cE w0 cs s es) (H : Hp w0 w L) (m : ∀ c ∈ cs, c ∈ L) (hl : es.length < 2 ^ 62) :
    Calls Pg 42 ⟨[s, .agg ⟨[I e.1, I e.2]⟩]⟩ w fun x w' => x = .returned (.bool (decide (e ∈ es))) ∧ Hp w0 w' L := by
  apply F42_calls
  unfold F42 F42_j2 F42_j3
  refine bx_m H fun w b H => ?_
  refine loop3 (F42_l1_succ _) (fun m x y c w => ∃ i : Nat, x = s ∧ y = ptr b 0 ∧ c = I i ∧ m + i = es.length ∧ e ∉ es.take i ∧ Hp w0 w (⟨b, 39, [I e.1, I e.2]⟩ :: L)) ?_ (m := es.length) ⟨0, rfl, rfl, rfl, rfl, by simp, H⟩
  rintro n k _ _ _ w ⟨i, rfl, rfl, rfl, hm, he, H⟩ hk
  unfold F42_b1 F42_j4 F42_j1
  refine pv_of (lenS_tr h) ?_
  refine lss_k (fun hi => ?_) (fun hi => ?_)
  · have hx : es[i]? = some es[i] := List.getElem?_eq_getElem (by omega)
    repeat (first | simp only [cI_enc, cE_enc, cN_enc, W0] | refine lss_a ?_ | refine lss_b ?_ | refine gtr_a ?_ | refine gtr_b ?_ | refine geq_a ?_ | refine geq_b ?_ | refine leq_a ?_ | refine leq_b ?_ | refine eql_a ?_ | refine eql_b ?_ | refine neq_a ?_ | refine neq_b ?_ | refine add_a ?_ | refine sub_a ?_ | refine ld_a ?_ | refine ldA_a ?_ | refine ldS_a ?_ | refine ldNS_a ?_ | refine rdA_s ?_ | refine rd1_s ?_ | refine drew_a fun w1 H1 => ?_ | refine st_a fun w1 H1 => ?_ | refine stA_a fun w1 H1 => ?_ | refine lenT_a ?_ | refine lenO_a ?_ | refine ixT_a ?_ | refine ixO_a ?_ | fail)
    refine ixN_t (C := cE) h H1 (by intro c hc; simp [m c hc]) hx (by decide) ?_
    repeat (first | simp only [cI_enc, cE_enc, cN_enc, W0] | refine lss_a ?_ | refine lss_b ?_ | refine gtr_a ?_ | refine gtr_b ?_ | refine geq_a ?_ | refine geq_b ?_ | refine leq_a ?_ | refine leq_b ?_ | refine eql_a ?_ | refine eql_b ?_ | refine neq_a ?_ | refine neq_b ?_ | refine add_a ?_ | refine sub_a ?_ | refine ld_a ?_ | refine ldA_a ?_ | refine ldS_a ?_ | refine ldNS_a ?_ | refine rdA_s ?_ | refine rd1_s ?_ | refine drew_a fun w1 H1 => ?_ | refine st_a fun w1 H1 => ?_ | refine stA_a fun w1 H1 => ?_ | refine lenT_a ?_ | refine lenO_a ?_ | refine ixT_a ?_ | refine ixO_a ?_ | fail)
    refine pv_of (eqE _ _ _ _) ?_
    refine cnd_k (fun hv => ?_) (fun hv => ?_)
    · refine ⟨?_, H1.tail⟩
      rw [decide_eq_true]
      have := of_decide_eq_true hv
      exact List.mem_of_getElem? (i := i) (hx.trans (congrArg some this))
    · refine add_k (by omega) (by omega) rfl ?_
      refine hk (n - 1) _ _ _ _ (by omega) ⟨i + 1, rfl, rfl, rfl, by omega, ?_, H1⟩
      rw [List.take_add_one, hx]
      intro hm
      rcases List.mem_append.1 hm with hm | hm
      · exact he hm
      · simp at hm; subst hm; exact of_decide_eq_false hv rfl
  · repeat (first | simp only [cI_enc, cE_enc, cN_enc, W0] | refine lss_a ?_ | refine lss_b ?_ | refine gtr_a ?_ | refine gtr_b ?_ | refine geq_a ?_ | refine geq_b ?_ | refine leq_a ?_ | refine leq_b ?_ | refine eql_a ?_ | refine eql_b ?_ | refine neq_a ?_ | refine neq_b ?_ | refine add_a ?_ | refine sub_a ?_ | refine ld_a ?_ | refine ldA_a ?_ | refine ldS_a ?_ | refine ldNS_a ?_ | refine rdA_s ?_ | refine rd1_s ?_ | refine drew_a fun w1 H1 => ?_ | refine st_a fun w1 H1 => ?_ | refine stA_a fun w1 H1 => ?_ | refine lenT_a ?_ | refine lenO_a ?_ | refine ixT_a ?_ | refine ixO_a ?_ | fail)
    refine ⟨?_, H.tail⟩
    rw [List.take_of_length_le (by omega)] at he
    rw [decide_eq_false he]
theorem thread_spec {n : Int} (h : TR cI w0 cs sb base) (hs : scalar se = true) (H : Hp w0 w L) :
    Calls Pg 41 ⟨[.agg ⟨[sb, se]⟩, I n]⟩ w fun x w' => x = .returned (.bool (inR base.length n)) ∧ Hp w0 w' L := by
  apply F41_calls
  unfold F41
  refine bx_m H fun w b H => ?_
  refine geq_k (fun hi => ?_) (fun hi => ?_)
  · repeat (first | simp only [cI_enc, cE_enc, cN_enc, W0] | refine lss_a ?_ | refine lss_b ?_ | refine gtr_a ?_ | refine gtr_b ?_ | refine geq_a ?_ | refine geq_b ?_ | refine leq_a ?_ | refine leq_b ?_ | refine eql_a ?_ | refine eql_b ?_ | refine neq_a ?_ | refine neq_b ?_ | refine add_a ?_ | refine sub_a ?_ | refine ld_a ?_ | refine ldA_a ?_ | refine ldS_a ?_ | refine ldNS_a ?_ | refine rdA_s ?_ | refine rd1_s ?_ | refine drew_a fun w1 H1 => ?_ | refine st_a fun w1 H1 => ?_ | refine stA_a fun w1 H1 => ?_ | refine lenT_a ?_ | refine lenO_a ?_ | refine ixT_a ?_ | refine ixO_a ?_ | fail)
    refine lss_k (fun hj => ?_) (fun hj => ?_)
    · repeat (first | simp only [cI_enc, cE_enc, cN_enc, W0] | refine lss_a ?_ | refine lss_b ?_ | refine gtr_a ?_ | refine gtr_b ?_ | refine geq_a ?_ | refine geq_b ?_ | refine leq_a ?_ | refine leq_b ?_ | refine eql_a ?_ | refine eql_b ?_ | refine neq_a ?_ | refine neq_b ?_ | refine add_a ?_ | refine sub_a ?_ | refine ld_a ?_ | refine ldA_a ?_ | refine ldS_a ?_ | refine ldNS_a ?_ | refine rdA_s ?_ | refine rd1_s ?_ | refine drew_a fun w1 H1 => ?_ | refine st_a fun w1 H1 => ?_ | refine stA_a fun w1 H1 => ?_ | refine lenT_a ?_ | refine lenO_a ?_ | refine ixT_a ?_ | refine ixO_a ?_ | fail)
      exact ⟨by rw [inR, decide_eq_true ⟨hi, hj⟩], H.tail⟩
    · repeat (first | simp only [cI_enc, cE_enc, cN_enc, W0] | refine lss_a ?_ | refine lss_b ?_ | refine gtr_a ?_ | refine gtr_b ?_ | refine geq_a ?_ | refine geq_b ?_ | refine leq_a ?_ | refine leq_b ?_ | refine eql_a ?_ | refine eql_b ?_ | refine neq_a ?_ | refine neq_b ?_ | refine add_a ?_ | refine sub_a ?_ | refine ld_a ?_ | refine ldA_a ?_ | refine ldS_a ?_ | refine ldNS_a ?_ | refine rdA_s ?_ | refine rd1_s ?_ | refine drew_a fun w1 H1 => ?_ | refine st_a fun w1 H1 => ?_ | refine stA_a fun w1 H1 => ?_ | refine lenT_a ?_ | refine lenO_a ?_ | refine ixT_a ?_ | refine ixO_a ?_ | fail)
      exact ⟨by rw [inR, decide_eq_false (fun h => hj h.2)], H.tail⟩
  · repeat (first | simp only [cI_enc, cE_enc, cN_enc, W0] | refine lss_a ?_ | refine lss_b ?_ | refine gtr_a ?_ | refine gtr_b ?_ | refine geq_a ?_ | refine geq_b ?_ | refine leq_a ?_ | refine leq_b ?_ | refine eql_a ?_ | refine eql_b ?_ | refine neq_a ?_ | refine neq_b ?_ | refine add_a ?_ | refine sub_a ?_ | refine ld_a ?_ | refine ldA_a ?_ | refine ldS_a ?_ | refine ldNS_a ?_ | refine rdA_s ?_ | refine rd1_s ?_ | refine drew_a fun w1 H1 => ?_ | refine st_a fun w1 H1 => ?_ | refine stA_a fun w1 H1 => ?_ | refine lenT_a ?_ | refine lenO_a ?_ | refine ixT_a ?_ | refine ixO_a ?_ | fail)
    exact ⟨by rw [inR, decide_eq_false (fun h => hi h.1)], H.tail⟩
theorem rCheck_spec (h1 : TR cI w0 cs sb base) (h2 : TR cE w0 cs2 se es) (H : Hp w0 w L) (m1 : ∀ c ∈ cs, c ∈ L) (m2 : ∀ c ∈ cs2, c ∈ L) :
    Calls Pg 17 ⟨[.agg ⟨[sb, se]⟩]⟩ w fun x w' => x = .returned (I (chk base es)) ∧ Hp w0 w' L := by
  apply F17_calls
  unfold F17
  refine bx_m H fun w b H => ?_
  have M1 : ∀ c ∈ cs, c ∈ (⟨b, 32, [sb, se]⟩ : Chunk) :: L := by intro c hc; simp [m1 c hc]
  have M2 : ∀ c ∈ cs2, c ∈ (⟨b, 32, [sb, se]⟩ : Chunk) :: L := by intro c hc; simp [m2 c hc]
  repeat (first | simp only [cI_enc, cE_enc, cN_enc, W0] | refine lss_a ?_ | refine lss_b ?_ | refine gtr_a ?_ | refine gtr_b ?_ | refine geq_a ?_ | refine geq_b ?_ | refine leq_a ?_ | refine leq_b ?_ | refine eql_a ?_ | refine eql_b ?_ | refine neq_a ?_ | refine neq_b ?_ | refine add_a ?_ | refine sub_a ?_ | refine ld_a ?_ | refine ldA_a ?_ | refine ldS_a ?_ | refine ldNS_a ?_ | refine rdA_s ?_ | refine rd1_s ?_ | refine drew_a fun w1 H1 => ?_ | refine st_a fun w1 H1 => ?_ | refine stA_a fun w1 H1 => ?_ | refine lenT_a ?_ | refine lenO_a ?_ | refine ixT_a ?_ | refine ixO_a ?_ | fail)
  refine gtr_k (fun hi => ?_) (fun hi => ?_)
  · repeat (first | simp only [cI_enc, cE_enc, cN_enc, W0] | refine lss_a ?_ | refine lss_b ?_ | refine gtr_a ?_ | refine gtr_b ?_ | refine geq_a ?_ | refine geq_b ?_ | refine leq_a ?_ | refine leq_b ?_ | refine eql_a ?_ | refine eql_b ?_ | refine neq_a ?_ | refine neq_b ?_ | refine add_a ?_ | refine sub_a ?_ | refine ld_a ?_ | refine ldA_a ?_ | refine ldS_a ?_ | refine ldNS_a ?_ | refine rdA_s ?_ | refine rd1_s ?_ | refine drew_a fun w1 H1 => ?_ | refine st_a fun w1 H1 => ?_ | refine stA_a fun w1 H1 => ?_ | refine lenT_a ?_ | refine lenO_a ?_ | refine ixT_a ?_ | refine ixO_a ?_ | fail)
    exact ⟨by unfold chk; rw [if_pos (.inl (by omega))], H.tail⟩
  repeat (first | simp only [cI_enc, cE_enc, cN_enc, W0] | refine lss_a ?_ | refine lss_b ?_ | refine gtr_a ?_ | refine gtr_b ?_ | refine geq_a ?_ | refine geq_b ?_ | refine leq_a ?_ | refine leq_b ?_ | refine eql_a ?_ | refine eql_b ?_ | refine neq_a ?_ | refine neq_b ?_ | refine add_a ?_ | refine sub_a ?_ | refine ld_a ?_ | refine ldA_a ?_ | refine ldS_a ?_ | refine ldNS_a ?_ | refine rdA_s ?_ | refine rd1_s ?_ | refine drew_a fun w1 H1 => ?_ | refine st_a fun w1 H1 => ?_ | refine stA_a fun w1 H1 => ?_ | refine lenT_a ?_ | refine lenO_a ?_ | refine ixT_a ?_ | refine ixO_a ?_ | fail)
  refine gtr_k (fun hj => ?_) (fun hj => ?_)
  · repeat (first | simp only [cI_enc, cE_enc, cN_enc, W0] | refine lss_a ?_ | refine lss_b ?_ | refine gtr_a ?_ | refine gtr_b ?_ | refine geq_a ?_ | refine geq_b ?_ | refine leq_a ?_ | refine leq_b ?_ | refine eql_a ?_ | refine eql_b ?_ | refine neq_a ?_ | refine neq_b ?_ | refine add_a ?_ | refine sub_a ?_ | refine ld_a ?_ | refine ldA_a ?_ | refine ldS_a ?_ | refine ldNS_a ?_ | refine rdA_s ?_ | refine rd1_s ?_ | refine drew_a fun w1 H1 => ?_ | refine st_a fun w1 H1 => ?_ | refine stA_a fun w1 H1 => ?_ | refine lenT_a ?_ | refine lenO_a ?_ | refine ixT_a ?_ | refine ixO_a ?_ | fail)
    exact ⟨by unfold chk; rw [if_pos (.inr (by omega))], H.tail⟩
  repeat (first | simp only [cI_enc, cE_enc, cN_enc, W0] | refine lss_a ?_ | refine lss_b ?_ | refine gtr_a ?_ | refine gtr_b ?_ | refine geq_a ?_ | refine geq_b ?_ | refine leq_a ?_ | refine leq_b ?_ | refine eql_a ?_ | refine eql_b ?_ | refine neq_a ?_ | refine neq_b ?_ | refine add_a ?_ | refine sub_a ?_ | refine ld_a ?_ | refine ldA_a ?_ | refine ldS_a ?_ | refine ldNS_a ?_ | refine rdA_s ?_ | refine rd1_s ?_ | refine drew_a fun w1 H1 => ?_ | refine st_a fun w1 H1 => ?_ | refine stA_a fun w1 H1 => ?_ | refine lenT_a ?_ | refine lenO_a ?_ | refine ixT_a ?_ | refine ixO_a ?_ | fail)
  have c1 : chk base es = if ∃ b ∈ base, b < 0 ∨ 255 < b then 34 else if ∃ e ∈ es, inR base.length e.1 = false ∨ inR base.length e.2 = false then 34 else if ¬ es.Nodup then 38 else 0 := by
    unfold chk; rw [if_neg (by omega)]
  unfold F17_j1 F17_j11 F17_j12
  refine loop2 (F17_l3_succ _) (fun m x c w => ∃ i : Nat, x = ptr b 0 ∧ c = I i ∧ m + i = base.length ∧ (∀ x ∈ base.take i, ¬ (x < 0 ∨ 255 < x)) ∧ Hp w0 w (⟨b, 32, [sb, se]⟩ :: L)) ?_ (m := base.length) ⟨0, rfl, rfl, rfl, by simp, H⟩
  rintro n k _ _ w ⟨i, rfl, rfl, hm, he, H⟩ hk
  unfold F17_b3 F17_j13
  repeat (first | simp only [cI_enc, cE_enc, cN_enc, W0] | refine lss_a ?_ | refine lss_b ?_ | refine gtr_a ?_ | refine gtr_b ?_ | refine geq_a ?_ | refine geq_b ?_ | refine leq_a ?_ | refine leq_b ?_ | refine eql_a ?_ | refine eql_b ?_ | refine neq_a ?_ | refine neq_b ?_ | refine add_a ?_ | refine sub_a ?_ | refine ld_a ?_ | refine ldA_a ?_ | refine ldS_a ?_ | refine ldNS_a ?_ | refine rdA_s ?_ | refine rd1_s ?_ | refine drew_a fun w1 H1 => ?_ | refine st_a fun w1 H1 => ?_ | refine stA_a fun w1 H1 => ?_ | refine lenT_a ?_ | refine lenO_a ?_ | refine ixT_a ?_ | refine ixO_a ?_ | fail)
  refine lss_k (fun hi' => ?_) (fun hi' => ?_)
  · have hx : base[i]? = some base[i] := List.getElem?_eq_getElem (by omega)
    have bad : base[i] < 0 ∨ 255 < base[i] → chk base es = 34 := fun hb => by rw [c1, if_pos ⟨_, List.getElem_mem _, hb⟩]
    repeat (first | simp only [cI_enc, cE_enc, cN_enc, W0] | refine lss_a ?_ | refine lss_b ?_ | refine gtr_a ?_ | refine gtr_b ?_ | refine geq_a ?_ | refine geq_b ?_ | refine leq_a ?_ | refine leq_b ?_ | refine eql_a ?_ | refine eql_b ?_ | refine neq_a ?_ | refine neq_b ?_ | refine add_a ?_ | refine sub_a ?_ | refine ld_a ?_ | refine ldA_a ?_ | refine ldS_a ?_ | refine ldNS_a ?_ | refine rdA_s ?_ | refine rd1_s ?_ | refine drew_a fun w1 H1 => ?_ | refine st_a fun w1 H1 => ?_ | refine stA_a fun w1 H1 => ?_ | refine lenT_a ?_ | refine lenO_a ?_ | refine ixT_a ?_ | refine ixO_a ?_ | fail)
    refine lss_k (fun ha => ?_) (fun ha => ?_)
    · repeat (first | simp only [cI_enc, cE_enc, cN_enc, W0] | refine lss_a ?_ | refine lss_b ?_ | refine gtr_a ?_ | refine gtr_b ?_ | refine geq_a ?_ | refine geq_b ?_ | refine leq_a ?_ | refine leq_b ?_ | refine eql_a ?_ | refine eql_b ?_ | refine neq_a ?_ | refine neq_b ?_ | refine add_a ?_ | refine sub_a ?_ | refine ld_a ?_ | refine ldA_a ?_ | refine ldS_a ?_ | refine ldNS_a ?_ | refine rdA_s ?_ | refine rd1_s ?_ | refine drew_a fun w1 H1 => ?_ | refine st_a fun w1 H1 => ?_ | refine stA_a fun w1 H1 => ?_ | refine lenT_a ?_ | refine lenO_a ?_ | refine ixT_a ?_ | refine ixO_a ?_ | fail)
      exact ⟨by rw [bad (.inl ha)], H.tail⟩
    repeat (first | simp only [cI_enc, cE_enc, cN_enc, W0] | refine lss_a ?_ | refine lss_b ?_ | refine gtr_a ?_ | refine gtr_b ?_ | refine geq_a ?_ | refine geq_b ?_ | refine leq_a ?_ | refine leq_b ?_ | refine eql_a ?_ | refine eql_b ?_ | refine neq_a ?_ | refine neq_b ?_ | refine add_a ?_ | refine sub_a ?_ | refine ld_a ?_ | refine ldA_a ?_ | refine ldS_a ?_ | refine ldNS_a ?_ | refine rdA_s ?_ | refine rd1_s ?_ | refine drew_a fun w1 H1 => ?_ | refine st_a fun w1 H1 => ?_ | refine stA_a fun w1 H1 => ?_ | refine lenT_a ?_ | refine lenO_a ?_ | refine ixT_a ?_ | refine ixO_a ?_ | fail)
    refine gtr_k (fun hb => ?_) (fun hb => ?_)
    · repeat (first | simp only [cI_enc, cE_enc, cN_enc, W0] | refine lss_a ?_ | refine lss_b ?_ | refine gtr_a ?_ | refine gtr_b ?_ | refine geq_a ?_ | refine geq_b ?_ | refine leq_a ?_ | refine leq_b ?_ | refine eql_a ?_ | refine eql_b ?_ | refine neq_a ?_ | refine neq_b ?_ | refine add_a ?_ | refine sub_a ?_ | refine ld_a ?_ | refine ldA_a ?_ | refine ldS_a ?_ | refine ldNS_a ?_ | refine rdA_s ?_ | refine rd1_s ?_ | refine drew_a fun w1 H1 => ?_ | refine st_a fun w1 H1 => ?_ | refine stA_a fun w1 H1 => ?_ | refine lenT_a ?_ | refine lenO_a ?_ | refine ixT_a ?_ | refine ixO_a ?_ | fail)
      exact ⟨by rw [bad (.inr hb)], H.tail⟩
    repeat (first | simp only [cI_enc, cE_enc, cN_enc, W0] | refine lss_a ?_ | refine lss_b ?_ | refine gtr_a ?_ | refine gtr_b ?_ | refine geq_a ?_ | refine geq_b ?_ | refine leq_a ?_ | refine leq_b ?_ | refine eql_a ?_ | refine eql_b ?_ | refine neq_a ?_ | refine neq_b ?_ | refine add_a ?_ | refine sub_a ?_ | refine ld_a ?_ | refine ldA_a ?_ | refine ldS_a ?_ | refine ldNS_a ?_ | refine rdA_s ?_ | refine rd1_s ?_ | refine drew_a fun w1 H1 => ?_ | refine st_a fun w1 H1 => ?_ | refine stA_a fun w1 H1 => ?_ | refine lenT_a ?_ | refine lenO_a ?_ | refine ixT_a ?_ | refine ixO_a ?_ | fail)
    refine hk (n - 1) _ _ _ (by omega) ⟨i + 1, rfl, rfl, by omega, ?_, H⟩
    rw [List.take_add_one, hx]
    intro x hx
    rcases List.mem_append.1 hx with hm | hm
    · exact he x hm
    · simp at hm; subst hm; omega
  repeat (first | simp only [cI_enc, cE_enc, cN_enc, W0] | refine lss_a ?_ | refine lss_b ?_ | refine gtr_a ?_ | refine gtr_b ?_ | refine geq_a ?_ | refine geq_b ?_ | refine leq_a ?_ | refine leq_b ?_ | refine eql_a ?_ | refine eql_b ?_ | refine neq_a ?_ | refine neq_b ?_ | refine add_a ?_ | refine sub_a ?_ | refine ld_a ?_ | refine ldA_a ?_ | refine ldS_a ?_ | refine ldNS_a ?_ | refine rdA_s ?_ | refine rd1_s ?_ | refine drew_a fun w1 H1 => ?_ | refine st_a fun w1 H1 => ?_ | refine stA_a fun w1 H1 => ?_ | refine lenT_a ?_ | refine lenO_a ?_ | refine ixT_a ?_ | refine ixO_a ?_ | fail)
  rw [List.take_of_length_le (by omega)] at he
  have c2 : chk base es = if ∃ e ∈ es, inR base.length e.1 = false ∨ inR base.length e.2 = false then 34 else if ¬ es.Nodup then 38 else 0 := by
    rw [c1, if_neg (by rintro ⟨x, hx, hb⟩; exact he x hx hb)]
  unfold F17_j2 F17_j8 F17_j9
  refine loop2 (F17_l2_succ _) (fun m x c w => ∃ i : Nat, x = ptr b 0 ∧ c = I i ∧ m + i = es.length ∧ (∀ e ∈ es.take i, ¬ (inR base.length e.1 = false ∨ inR base.length e.2 = false)) ∧ Hp w0 w (⟨b, 32, [sb, se]⟩ :: L)) ?_ (m := es.length) ⟨0, rfl, rfl, rfl, by simp, H⟩
  rintro n k _ _ w ⟨i, rfl, rfl, hm, he, H⟩ hk
  unfold F17_b2 F17_j10
  repeat (first | simp only [cI_enc, cE_enc, cN_enc, W0] | refine lss_a ?_ | refine lss_b ?_ | refine gtr_a ?_ | refine gtr_b ?_ | refine geq_a ?_ | refine geq_b ?_ | refine leq_a ?_ | refine leq_b ?_ | refine eql_a ?_ | refine eql_b ?_ | refine neq_a ?_ | refine neq_b ?_ | refine add_a ?_ | refine sub_a ?_ | refine ld_a ?_ | refine ldA_a ?_ | refine ldS_a ?_ | refine ldNS_a ?_ | refine rdA_s ?_ | refine rd1_s ?_ | refine drew_a fun w1 H1 => ?_ | refine st_a fun w1 H1 => ?_ | refine stA_a fun w1 H1 => ?_ | refine lenT_a ?_ | refine lenO_a ?_ | refine ixT_a ?_ | refine ixO_a ?_ | fail)
  refine lss_k (fun hi' => ?_) (fun hi' => ?_)
  · have hx : es[i]? = some es[i] := List.getElem?_eq_getElem (by omega)
    have bad : inR base.length es[i].1 = false ∨ inR base.length es[i].2 = false → chk base es = 34 := fun hb => by rw [c2, if_pos ⟨_, List.getElem_mem _, hb⟩]
    repeat (first | simp only [cI_enc, cE_enc, cN_enc, W0] | refine lss_a ?_ | refine lss_b ?_ | refine gtr_a ?_ | refine gtr_b ?_ | refine geq_a ?_ | refine geq_b ?_ | refine leq_a ?_ | refine leq_b ?_ | refine eql_a ?_ | refine eql_b ?_ | refine neq_a ?_ | refine neq_b ?_ | refine add_a ?_ | refine sub_a ?_ | refine ld_a ?_ | refine ldA_a ?_ | refine ldS_a ?_ | refine ldNS_a ?_ | refine rdA_s ?_ | refine rd1_s ?_ | refine drew_a fun w1 H1 => ?_ | refine st_a fun w1 H1 => ?_ | refine stA_a fun w1 H1 => ?_ | refine lenT_a ?_ | refine lenO_a ?_ | refine ixT_a ?_ | refine ixO_a ?_ | fail)
    refine ixF_t (C := cE) h2 H1 M2 hx rfl ?_
    refine cal_h (thread_spec h1 h2.sc H1) ?_
    rintro _ w ⟨rfl, H⟩
    cases ha : inR base.length es[i].1 with
    | false =>
      repeat (first | simp only [cI_enc, cE_enc, cN_enc, W0] | refine lss_a ?_ | refine lss_b ?_ | refine gtr_a ?_ | refine gtr_b ?_ | refine geq_a ?_ | refine geq_b ?_ | refine leq_a ?_ | refine leq_b ?_ | refine eql_a ?_ | refine eql_b ?_ | refine neq_a ?_ | refine neq_b ?_ | refine add_a ?_ | refine sub_a ?_ | refine ld_a ?_ | refine ldA_a ?_ | refine ldS_a ?_ | refine ldNS_a ?_ | refine rdA_s ?_ | refine rd1_s ?_ | refine drew_a fun w1 H1 => ?_ | refine st_a fun w1 H1 => ?_ | refine stA_a fun w1 H1 => ?_ | refine lenT_a ?_ | refine lenO_a ?_ | refine ixT_a ?_ | refine ixO_a ?_ | fail)
      exact ⟨by rw [bad (.inl ha)], H.tail⟩
    | true =>
      repeat (first | simp only [cI_enc, cE_enc, cN_enc, W0] | refine lss_a ?_ | refine lss_b ?_ | refine gtr_a ?_ | refine gtr_b ?_ | refine geq_a ?_ | refine geq_b ?_ | refine leq_a ?_ | refine leq_b ?_ | refine eql_a ?_ | refine eql_b ?_ | refine neq_a ?_ | refine neq_b ?_ | refine add_a ?_ | refine sub_a ?_ | refine ld_a ?_ | refine ldA_a ?_ | refine ldS_a ?_ | refine ldNS_a ?_ | refine rdA_s ?_ | refine rd1_s ?_ | refine drew_a fun w1 H1 => ?_ | refine st_a fun w1 H1 => ?_ | refine stA_a fun w1 H1 => ?_ | refine lenT_a ?_ | refine lenO_a ?_ | refine ixT_a ?_ | refine ixO_a ?_ | fail)
      refine ixF_t (C := cE) h2 H M2 hx rfl ?_
      refine cal_h (thread_spec h1 h2.sc H) ?_
      rintro _ w ⟨rfl, H⟩
      cases hb : inR base.length es[i].2 with
      | false =>
        repeat (first | simp only [cI_enc, cE_enc, cN_enc, W0] | refine lss_a ?_ | refine lss_b ?_ | refine gtr_a ?_ | refine gtr_b ?_ | refine geq_a ?_ | refine geq_b ?_ | refine leq_a ?_ | refine leq_b ?_ | refine eql_a ?_ | refine eql_b ?_ | refine neq_a ?_ | refine neq_b ?_ | refine add_a ?_ | refine sub_a ?_ | refine ld_a ?_ | refine ldA_a ?_ | refine ldS_a ?_ | refine ldNS_a ?_ | refine rdA_s ?_ | refine rd1_s ?_ | refine drew_a fun w1 H1 => ?_ | refine st_a fun w1 H1 => ?_ | refine stA_a fun w1 H1 => ?_ | refine lenT_a ?_ | refine lenO_a ?_ | refine ixT_a ?_ | refine ixO_a ?_ | fail)
        exact ⟨by rw [bad (.inr hb)], H.tail⟩
      | true =>
        repeat (first | simp only [cI_enc, cE_enc, cN_enc, W0] | refine lss_a ?_ | refine lss_b ?_ | refine gtr_a ?_ | refine gtr_b ?_ | refine geq_a ?_ | refine geq_b ?_ | refine leq_a ?_ | refine leq_b ?_ | refine eql_a ?_ | refine eql_b ?_ | refine neq_a ?_ | refine neq_b ?_ | refine add_a ?_ | refine sub_a ?_ | refine ld_a ?_ | refine ldA_a ?_ | refine ldS_a ?_ | refine ldNS_a ?_ | refine rdA_s ?_ | refine rd1_s ?_ | refine drew_a fun w1 H1 => ?_ | refine st_a fun w1 H1 => ?_ | refine stA_a fun w1 H1 => ?_ | refine lenT_a ?_ | refine lenO_a ?_ | refine ixT_a ?_ | refine ixO_a ?_ | fail)
        refine hk (n - 1) _ _ _ (by omega) ⟨i + 1, rfl, rfl, by omega, ?_, H⟩
        rw [List.take_add_one, hx]
        intro x hx
        rcases List.mem_append.1 hx with hm | hm
        · exact he x hm
        · simp at hm; subst hm; simp [ha, hb]
  repeat (first | simp only [cI_enc, cE_enc, cN_enc, W0] | refine lss_a ?_ | refine lss_b ?_ | refine gtr_a ?_ | refine gtr_b ?_ | refine geq_a ?_ | refine geq_b ?_ | refine leq_a ?_ | refine leq_b ?_ | refine eql_a ?_ | refine eql_b ?_ | refine neq_a ?_ | refine neq_b ?_ | refine add_a ?_ | refine sub_a ?_ | refine ld_a ?_ | refine ldA_a ?_ | refine ldS_a ?_ | refine ldNS_a ?_ | refine rdA_s ?_ | refine rd1_s ?_ | refine drew_a fun w1 H1 => ?_ | refine st_a fun w1 H1 => ?_ | refine stA_a fun w1 H1 => ?_ | refine lenT_a ?_ | refine lenO_a ?_ | refine ixT_a ?_ | refine ixO_a ?_ | fail)
  rw [List.take_of_length_le (by omega)] at he
  have c3 : chk base es = if ¬ es.Nodup then 38 else 0 := by
    rw [c2, if_neg (by rintro ⟨x, hx, hb⟩; exact he x hx hb)]
  unfold F17_j3 F17_j5 F17_j6
  refine loop2 (F17_l1_succ _) (fun m x c w => ∃ i : Nat, x = ptr b 0 ∧ c = I i ∧ m + i = es.length ∧ (es.take i).Nodup ∧ Hp w0 w (⟨b, 32, [sb, se]⟩ :: L)) ?_ (m := es.length) ⟨0, rfl, rfl, rfl, by simp, H⟩
  rintro n k _ _ w ⟨i, rfl, rfl, hm, he, H⟩ hk
  unfold F17_b1 F17_j7 F17_j4
  repeat (first | simp only [cI_enc, cE_enc, cN_enc, W0] | refine lss_a ?_ | refine lss_b ?_ | refine gtr_a ?_ | refine gtr_b ?_ | refine geq_a ?_ | refine geq_b ?_ | refine leq_a ?_ | refine leq_b ?_ | refine eql_a ?_ | refine eql_b ?_ | refine neq_a ?_ | refine neq_b ?_ | refine add_a ?_ | refine sub_a ?_ | refine ld_a ?_ | refine ldA_a ?_ | refine ldS_a ?_ | refine ldNS_a ?_ | refine rdA_s ?_ | refine rd1_s ?_ | refine drew_a fun w1 H1 => ?_ | refine st_a fun w1 H1 => ?_ | refine stA_a fun w1 H1 => ?_ | refine lenT_a ?_ | refine lenO_a ?_ | refine ixT_a ?_ | refine ixO_a ?_ | fail)
  refine lss_k (fun hi' => ?_) (fun hi' => ?_)
  · have hx : es[i]? = some es[i] := List.getElem?_eq_getElem (by omega)
    repeat (first | simp only [cI_enc, cE_enc, cN_enc, W0] | refine lss_a ?_ | refine lss_b ?_ | refine gtr_a ?_ | refine gtr_b ?_ | refine geq_a ?_ | refine geq_b ?_ | refine leq_a ?_ | refine leq_b ?_ | refine eql_a ?_ | refine eql_b ?_ | refine neq_a ?_ | refine neq_b ?_ | refine add_a ?_ | refine sub_a ?_ | refine ld_a ?_ | refine ldA_a ?_ | refine ldS_a ?_ | refine ldNS_a ?_ | refine rdA_s ?_ | refine rd1_s ?_ | refine drew_a fun w1 H1 => ?_ | refine st_a fun w1 H1 => ?_ | refine stA_a fun w1 H1 => ?_ | refine lenT_a ?_ | refine lenO_a ?_ | refine ixT_a ?_ | refine ixO_a ?_ | fail)
    obtain ⟨s', e1, t1⟩ := slRto_t (hi := i) (by decide) h2 (by omega)
    refine pv_of e1 ?_
    repeat (first | simp only [cI_enc, cE_enc, cN_enc, W0] | refine lss_a ?_ | refine lss_b ?_ | refine gtr_a ?_ | refine gtr_b ?_ | refine geq_a ?_ | refine geq_b ?_ | refine leq_a ?_ | refine leq_b ?_ | refine eql_a ?_ | refine eql_b ?_ | refine neq_a ?_ | refine neq_b ?_ | refine add_a ?_ | refine sub_a ?_ | refine ld_a ?_ | refine ldA_a ?_ | refine ldS_a ?_ | refine ldNS_a ?_ | refine rdA_s ?_ | refine rd1_s ?_ | refine drew_a fun w1 H1 => ?_ | refine st_a fun w1 H1 => ?_ | refine stA_a fun w1 H1 => ?_ | refine lenT_a ?_ | refine lenO_a ?_ | refine ixT_a ?_ | refine ixO_a ?_ | fail)
    refine ixN_t (C := cE) h2 H1 M2 hx (by decide) ?_
    refine cal_h (has_spec (e := es[i]) t1 H1 M2 (by simp; omega)) ?_
    rintro _ w ⟨rfl, H⟩
    repeat (first | simp only [cI_enc, cE_enc, cN_enc, W0] | refine lss_a ?_ | refine lss_b ?_ | refine gtr_a ?_ | refine gtr_b ?_ | refine geq_a ?_ | refine geq_b ?_ | refine leq_a ?_ | refine leq_b ?_ | refine eql_a ?_ | refine eql_b ?_ | refine neq_a ?_ | refine neq_b ?_ | refine add_a ?_ | refine sub_a ?_ | refine ld_a ?_ | refine ldA_a ?_ | refine ldS_a ?_ | refine ldNS_a ?_ | refine rdA_s ?_ | refine rd1_s ?_ | refine drew_a fun w1 H1 => ?_ | refine st_a fun w1 H1 => ?_ | refine stA_a fun w1 H1 => ?_ | refine lenT_a ?_ | refine lenO_a ?_ | refine ixT_a ?_ | refine ixO_a ?_ | fail)
    refine cnd_k (fun hv => ?_) (fun hv => ?_)
    · refine ⟨?_, H.tail⟩
      have hmem := of_decide_eq_true hv
      rw [c3, if_pos]
      intro hnd
      obtain ⟨j, hj, e⟩ := List.getElem_of_mem hmem
      simp at hj e
      exact List.pairwise_iff_getElem.1 hnd j i (by omega) (by omega) (by omega) e
    · refine add_k (by omega) (by omega) rfl ?_
      refine hk (n - 1) _ _ _ (by omega) ⟨i + 1, rfl, rfl, by omega, ?_, H⟩
      rw [List.take_add_one, hx]
      have := of_decide_eq_false hv
      simp only [Option.toList_some]
      rw [List.nodup_append]
      refine ⟨he, by simp, fun a ha b hb => ?_⟩
      simp at hb; subst hb
      rintro rfl; exact this ha
  · repeat (first | simp only [cI_enc, cE_enc, cN_enc, W0] | refine lss_a ?_ | refine lss_b ?_ | refine gtr_a ?_ | refine gtr_b ?_ | refine geq_a ?_ | refine geq_b ?_ | refine leq_a ?_ | refine leq_b ?_ | refine eql_a ?_ | refine eql_b ?_ | refine neq_a ?_ | refine neq_b ?_ | refine add_a ?_ | refine sub_a ?_ | refine ld_a ?_ | refine ldA_a ?_ | refine ldS_a ?_ | refine ldNS_a ?_ | refine rdA_s ?_ | refine rd1_s ?_ | refine drew_a fun w1 H1 => ?_ | refine st_a fun w1 H1 => ?_ | refine stA_a fun w1 H1 => ?_ | refine lenT_a ?_ | refine lenO_a ?_ | refine ixT_a ?_ | refine ixO_a ?_ | fail)
    rw [List.take_of_length_le (by omega)] at he
    exact ⟨by rw [c3, if_neg (by simpa using he)], H.tail⟩
end
end Go.Proofs.Ytagcifbfokneoaa.Den
end

section
set_option linter.unusedVariables false
set_option linter.unusedSimpArgs false
namespace Go.Proofs.Ytagcifbfokneoaa.Den
open Go Go.RowKit
def gt (l : List Int) (i : Nat) : Int := l.getD i 0
section
variable {l : List Int} {i j n : Nat} {v : Int} {base out out' : List Int} {E E' : List (Nat × Nat)}
theorem gt_some (h : i < l.length) : l[i]? = some (gt l i) := by simp [gt, List.getD, h]
theorem gt_set (h : i < l.length) : gt (l.set i v) j = if j = i then v else gt l j := by
  unfold gt List.getD
  by_cases e : j = i
  · subst e; simp [h]
  · rw [if_neg e, List.getElem?_set_ne (fun h => e h.symm)]
theorem gt_rep {x : Int} (h : i < n) : gt (List.replicate n x) i = x := by simp [gt, List.getD, h]
inductive Reach (E : List (Nat × Nat)) : Nat → Nat → Prop
  | refl (a : Nat) : Reach E a a
  | step {a b c : Nat} : Reach E a b → (b, c) ∈ E → Reach E a c
def Valid (E : List (Nat × Nat)) (n : Nat) : Prop := ∀ e ∈ E, e.1 < n ∧ e.2 < n
structure IsEff (base : List Int) (E : List (Nat × Nat)) (out : List Int) : Prop where
  len : out.length = base.length
  ge : ∀ i, i < base.length → gt base i ≤ gt out i
  cl : ∀ e ∈ E, gt out e.1 ≤ gt out e.2
  why : ∀ i, i < base.length → ∃ j, j < base.length ∧ Reach E j i ∧ gt out i = gt base j
theorem Reach.mono (hs : ∀ e ∈ E, e ∈ E') {a b : Nat} (h : Reach E a b) : Reach E' a b := by
  induction h with
  | refl => exact .refl _
  | step h1 h2 ih => exact .step ih (hs _ h2)
theorem Reach.le (hc : ∀ e ∈ E, gt out e.1 ≤ gt out e.2) {a b : Nat} (h : Reach E a b) : gt out a ≤ gt out b := by
  induction h with
  | refl => exact Int.le_refl _
  | step h1 h2 ih => exact Int.le_trans ih (hc _ h2)
/-- More edges: no effective priority is less. -/
theorem IsEff.mono (h : IsEff base E out) (h' : IsEff base E' out') (hs : ∀ e ∈ E, e ∈ E') (hi : i < base.length) : gt out i ≤ gt out' i := by
  obtain ⟨j, hj, hr, e⟩ := h.why i hi
  rw [e]
  exact Int.le_trans (h'.ge j hj) ((hr.mono hs).le h'.cl)
theorem gt_ext (hl : out.length = out'.length) (h : ∀ i, i < out.length → gt out i = gt out' i) : out = out' := by
  apply List.ext_getElem? ; intro k
  by_cases hk : k < out.length
  · rw [gt_some hk, gt_some (hl ▸ hk), h k hk]
  · rw [List.getElem?_eq_none (by omega), List.getElem?_eq_none (by omega)]
theorem IsEff.unique (h : IsEff base E out) (h' : IsEff base E' out') (hs : ∀ e, e ∈ E ↔ e ∈ E') : out = out' := by
  refine gt_ext (h.len.trans h'.len.symm) fun i hi => ?_
  rw [h.len] at hi
  exact Int.le_antisymm (h.mono h' (fun e he => (hs e).1 he) hi) (h'.mono h (fun e he => (hs e).2 he) hi)
/-- What is left to raise. -/
def slack (l : List Int) : Nat := (l.map fun x => (255 - x).toNat).sum
theorem slack_set : ∀ {l : List Int} {i : Nat}, i < l.length → gt l i < v → v ≤ 255 → slack (l.set i v) + 1 ≤ slack l
  | [], i, h, _, _ => by simp at h
  | a :: l, 0, h, h1, h2 => by simp [slack, gt] at *; omega
  | a :: l, i + 1, h, h1, h2 => by
    have := slack_set (l := l) (i := i) (by simpa using h) (by simpa [gt] using h1) h2
    simp [slack] at *; omega
/-- What all loops keep: reasons, bounds. -/
structure Wk (base : List Int) (E : List (Nat × Nat)) (out : List Int) : Prop where
  len : out.length = base.length
  ge : ∀ i, i < base.length → gt base i ≤ gt out i
  why : ∀ i, i < base.length → ∃ j, j < base.length ∧ Reach E j i ∧ gt out i = gt base j
theorem Wk.start : Wk base E base := ⟨rfl, fun _ _ => Int.le_refl _, fun i hi => ⟨i, hi, .refl _, rfl⟩⟩
theorem Wk.raise {a b : Nat} (h : Wk base E out) (hv : Valid E base.length) (he : (a, b) ∈ E) (hlt : gt out b ≤ gt out a) : Wk base E (out.set b (gt out a)) := by
  have hb := (hv _ he).2
  have ha := (hv _ he).1
  refine ⟨by simp [h.len], fun i hi => ?_, fun i hi => ?_⟩
  · rw [gt_set (by rw [h.len]; exact hb)]
    split
    · rename_i e; subst e; exact Int.le_trans (h.ge _ hi) hlt
    · exact h.ge i hi
  · rw [gt_set (by rw [h.len]; exact hb)]
    split
    · rename_i e; subst e
      obtain ⟨j, hj, hr, e⟩ := h.why a ha
      exact ⟨j, hj, hr.step he, e⟩
    · exact h.why i hi
theorem Wk.done (h : Wk base E out) (hc : ∀ e ∈ E, gt out e.1 ≤ gt out e.2) : IsEff base E out := ⟨h.len, h.ge, hc, h.why⟩
theorem Wk.le (h : Wk base E out) (hb : ∀ x ∈ base, x ≤ 255) (hi : i < base.length) : gt out i ≤ 255 := by
  obtain ⟨j, hj, _, e⟩ := h.why i hi
  rw [e]; exact hb _ (List.mem_of_getElem? (gt_some hj))
/-! ### distances -/
inductive PathN (E : List (Nat × Nat)) : Nat → Nat → Nat → Prop
  | zero (a : Nat) : PathN E 0 a a
  | succ {k a b c : Nat} : (a, b) ∈ E → PathN E k b c → PathN E (k + 1) a c
/-- f is the number of edges of a shortest chain to a thread, or less than 0. -/
structure IsD (E : List (Nat × Nat)) (n to : Nat) (f : Nat → Int) : Prop where
  neg : ∀ v, v < n → f v < 0 → f v = -1
  le : ∀ v, v < n → ∀ k, PathN E k v to → 0 ≤ f v ∧ f v ≤ k
  ex : ∀ v, v < n → 0 ≤ f v → ∃ k : Nat, f v = k ∧ PathN E k v to
open Classical in
/-- The number of edges of a shortest chain, -1 without one. -/
noncomputable def dst (E : List (Nat × Nat)) (to v : Nat) : Int := if h : ∃ k : Nat, PathN E k v to ∧ ∀ j : Nat, PathN E j v to → k ≤ j then (Classical.choose h : Nat) else -1
theorem IsD.eq {f : Nat → Int} {to v : Nat} (hf : IsD E n to f) (hv : v < n) : f v = dst E to v := by
  unfold dst
  by_cases h0 : 0 ≤ f v
  · obtain ⟨k, e, p⟩ := hf.ex v hv h0
    have h : ∃ k : Nat, PathN E k v to ∧ ∀ j : Nat, PathN E j v to → k ≤ j := ⟨k, p, fun j pj => by have := (hf.le v hv j pj).2; omega⟩
    rw [dif_pos h]
    obtain ⟨c1, c2⟩ := Classical.choose_spec h
    have := c2 k p
    have := (hf.le v hv _ c1).2
    omega
  · rw [dif_neg]
    · exact hf.neg v hv (by omega)
    · rintro ⟨k, p, _⟩
      exact h0 (hf.le v hv k p).1
theorem IsD.dst {f : Nat → Int} {to : Nat} (hf : IsD E n to f) : IsD E n to (dst E to) :=
  ⟨fun v hv => by rw [← hf.eq hv]; exact hf.neg v hv, fun v hv => by rw [← hf.eq hv]; exact hf.le v hv, fun v hv => by rw [← hf.eq hv]; exact hf.ex v hv⟩
/-- From closure and reasons. -/
theorem IsD.of {f : Nat → Int} {to : Nat} (hv : Valid E n) (h0 : f to = 0) (hc : ∀ e ∈ E, 0 ≤ f e.2 → 0 ≤ f e.1 ∧ f e.1 ≤ f e.2 + 1) (hr : ∀ v, v < n → 0 ≤ f v → ∃ k : Nat, f v = k ∧ PathN E k v to) (hn : ∀ v, v < n → f v < 0 → f v = -1) : IsD E n to f := by
  refine ⟨hn, fun v hvn k p => ?_, hr⟩
  clear hr hvn hn
  generalize hto : to = t at p
  induction p with
  | zero a => subst hto; rw [h0]; exact ⟨Int.le_refl _, Int.le_refl _⟩
  | succ h1 h2 ih =>
    subst hto
    obtain ⟨i1, i2⟩ := ih rfl
    obtain ⟨c1, c2⟩ := hc _ h1 i1
    exact ⟨c1, by simp only at c2; omega⟩
theorem nodup_lt : ∀ (n : Nat) (l : List Nat), l.Nodup → (∀ x ∈ l, x < n) → l.length ≤ n
  | 0, l, _, h => by
    cases l with
    | nil => simp
    | cons a l => have := h a (by simp); omega
  | n + 1, l, hn, h => by
    have h1 : (l.filter (· != n)).Nodup := hn.filter _
    have h2 := nodup_lt n _ h1 fun x hx => by
      obtain ⟨hx, hne⟩ := List.mem_filter.1 hx
      have := h x hx
      simp at hne; omega
    have h3 : l.length ≤ (l.filter (· != n)).length + 1 := by
      have : ∀ l : List Nat, l.Nodup → l.length ≤ (l.filter (· != n)).length + 1 := by
        intro l
        induction l with
        | nil => simp
        | cons a l ih =>
          intro hn
          obtain ⟨ha, hn⟩ := List.nodup_cons.1 hn
          by_cases e : a = n
          · subst e
            have : l.filter (· != a) = l := List.filter_eq_self.2 fun x hx => by
              simp; rintro rfl; exact ha hx
            simp [this]
          · have := ih hn
            simp [e]; omega
      exact this l hn
    omega
/-- Levels without a gap: no level is above the number of threads. -/
theorem level_le {d : Nat → Int} (hs : ∀ v, v < n → 2 ≤ d v → ∃ u, u < n ∧ d u = d v - 1) : ∀ (k v : Nat), v < n → d v = (k : Int) + 1 → ∃ l : List Nat, l.length = k + 1 ∧ l.Nodup ∧ (∀ x ∈ l, x < n) ∧ ∀ x ∈ l, d x ≤ (k : Int) + 1
  | 0, v, hv, h => ⟨[v], rfl, by simp, by simpa using hv, by simp [h]⟩
  | k + 1, v, hv, h => by
    obtain ⟨u, hu, e⟩ := hs v hv (by omega)
    obtain ⟨l, h1, h2, h3, h4⟩ := level_le hs k u hu (by omega)
    refine ⟨v :: l, by simp [h1], List.nodup_cons.2 ⟨fun hm => ?_, h2⟩, ?_, ?_⟩
    · have := h4 v hm; omega
    · intro x hx
      rcases List.mem_cons.1 hx with rfl | hx
      · exact hv
      · exact h3 x hx
    · intro x hx
      rcases List.mem_cons.1 hx with rfl | hx
      · omega
      · have := h4 x hx; omega
/-- What the levels keep: k is done for the edges of D, all less than k are done for all. -/
structure Lv (E : List (Nat × Nat)) (n to k : Nat) (D : List (Nat × Nat)) (d : List Int) : Prop where
  len : d.length = n
  to1 : gt d to = 1
  nn : ∀ v, v < n → 0 ≤ gt d v ∧ gt d v ≤ k + 1
  why : ∀ v, v < n → 1 ≤ gt d v → ∃ j : Nat, gt d v = j + 1 ∧ PathN E j v to
  lt : ∀ e ∈ E, 1 ≤ gt d e.2 → gt d e.2 < k → 1 ≤ gt d e.1 ∧ gt d e.1 ≤ gt d e.2 + 1
  eq : ∀ e ∈ D, gt d e.2 = k → 1 ≤ gt d e.1 ∧ gt d e.1 ≤ gt d e.2 + 1
  gap : ∀ v, v < n → 2 ≤ gt d v → ∃ u, u < n ∧ gt d u = gt d v - 1
theorem Lv.start {to : Nat} (h : to < n) : Lv E n to 0 [] ((List.replicate n 0).set to 1) := by
  have e : ∀ v, gt ((List.replicate n (0 : Int)).set to 1) v = if v = to then 1 else gt (List.replicate n 0) v := fun v => gt_set (by simpa using h)
  have z : ∀ v, gt (List.replicate n (0 : Int)) v = 0 := fun v => by
    by_cases hv : v < n
    · exact gt_rep hv
    · unfold gt List.getD; rw [List.getElem?_eq_none (by simp; omega)]; rfl
  simp only [z] at e
  refine ⟨by simp, by rw [e, if_pos rfl], fun v hv => ?_, fun v hv h1 => ?_, fun e' he h1 h2 => ?_, by simp, fun v hv h2 => ?_⟩
  · rw [e]; split <;> omega
  · rw [e] at h1 ⊢
    split at h1
    · rename_i hv; subst hv; exact ⟨0, by simp, .zero _⟩
    · omega
  · simp only [Int.natCast_zero] at h2; omega
  · rw [e] at h2; split at h2 <;> omega
theorem Lv.next {to k : Nat} {d : List Int} (h : Lv E n to k E d) : Lv E n to (k + 1) [] d :=
  ⟨h.len, h.to1, fun v hv => by have := h.nn v hv; omega, h.why, fun e he h1 h2 => by
    by_cases hk : gt d e.2 = k
    · exact h.eq e he hk
    · exact h.lt e he h1 (by omega), by simp, h.gap⟩
theorem Lv.first {to : Nat} (h : to < n) : Lv E n to 1 [] ((List.replicate n 0).set to 1) := by
  have h0 := Lv.start (E := E) h
  have e : ∀ v, gt ((List.replicate n (0 : Int)).set to 1) v ≤ 1 := fun v => by
    rw [gt_set (by simpa using h)]; split
    · omega
    · by_cases hv : v < n
      · rw [gt_rep hv]; omega
      · unfold gt List.getD; rw [List.getElem?_eq_none (by simp; omega)]; simp
  exact ⟨h0.len, h0.to1, fun v hv => ⟨(h0.nn v hv).1, by have := e v; omega⟩, h0.why, fun x hx h1 h2 => by omega, by simp, h0.gap⟩
theorem Lv.skip {to k : Nat} {d : List Int} {D : List (Nat × Nat)} {e : Nat × Nat} (h : Lv E n to k D d) (he : gt d e.2 = k → gt d e.1 ≠ 0) (hv : e.1 < n) : Lv E n to k (D ++ [e]) d :=
  ⟨h.len, h.to1, h.nn, h.why, h.lt, fun x hx hk => by
    rcases List.mem_append.1 hx with hx | hx
    · exact h.eq x hx hk
    · simp at hx; subst hx
      have := h.nn _ hv
      have := he hk
      omega, h.gap⟩
theorem Lv.set {to k : Nat} {d : List Int} {D : List (Nat × Nat)} {e : Nat × Nat} (h : Lv E n to k D d) (hV : Valid E n) (he : e ∈ E) (hD : ∀ x ∈ D, x ∈ E) (hk : 1 ≤ k) (h1 : gt d e.2 = k) (h2 : gt d e.1 = 0) : Lv E n to k (D ++ [e]) (d.set e.1 (k + 1)) := by
  have hv := hV e he
  have g : ∀ v, gt (d.set e.1 ((k : Int) + 1)) v = if v = e.1 then (k : Int) + 1 else gt d v := fun v => gt_set (by rw [h.len]; exact hv.1)
  refine ⟨by simp [h.len], ?_, fun v hvn => ?_, fun v hvn hg => ?_, fun x hx g1 g2 => ?_, fun x hx g1 => ?_, fun v hvn hg => ?_⟩
  · rw [g, if_neg]
    · exact h.to1
    · intro e'; rw [← e', h.to1] at h2; omega
  · rw [g]; split
    · omega
    · exact h.nn v hvn
  · rw [g] at hg ⊢
    split
    · rename_i ev
      obtain ⟨j, ej, pj⟩ := h.why e.2 hv.2 (by omega)
      refine ⟨j + 1, by omega, ?_⟩
      rw [ev]; exact .succ (by exact he) pj
    · rename_i ev; rw [if_neg ev] at hg; exact h.why v hvn hg
  · rw [g] at g1 g2 ⊢
    rw [g]
    by_cases e2 : x.2 = e.1
    · rw [if_pos e2] at g2; omega
    · rw [if_neg e2] at g1 g2 ⊢
      have := h.lt x hx g1 g2
      split
      · rename_i e1; rw [e1] at this; omega
      · exact this
  · rw [g] at g1 ⊢
    rw [g]
    by_cases e2 : x.2 = e.1
    · rw [if_pos e2] at g1; omega
    · rw [if_neg e2] at g1 ⊢
      split
      · omega
      · rename_i e1
        rcases List.mem_append.1 hx with hx | hx
        · exact h.eq x hx g1
        · simp at hx; exact absurd (by rw [hx]) e1
  · rw [g] at hg
    by_cases ev : v = e.1
    · rw [if_pos ev] at hg
      refine ⟨e.2, hv.2, ?_⟩
      rw [g, g, if_pos ev]
      split
      · rename_i e1; rw [e1] at h1; omega
      · omega
    · rw [if_neg ev] at hg
      obtain ⟨u, hu, eu⟩ := h.gap v hvn hg
      refine ⟨u, hu, ?_⟩
      rw [g, g, if_neg ev]
      split
      · rename_i e1; rw [e1] at eu; omega
      · exact eu
theorem Lv.isD {to : Nat} {d : List Int} (h : Lv E n to (n + 1) [] d) (hV : Valid E n) : IsD E n to fun v => gt d v - 1 := by
  have top : ∀ v, v < n → gt d v ≤ n := by
    intro v hv
    by_cases hg : gt d v ≤ n
    · exact hg
    · obtain ⟨l, h1, h2, h3, _⟩ := level_le (d := gt d) h.gap (gt d v - 1).toNat v hv (by omega)
      have := nodup_lt n l h2 h3
      omega
  refine IsD.of hV (by rw [h.to1]; rfl) (fun e he h0 => ?_) (fun v hv h0 => ?_) (fun v hv h0 => ?_)
  · have := h.lt e he (by omega) (by have := top e.2 (hV e he).2; omega)
    omega
  · obtain ⟨j, e, p⟩ := h.why v hv (by omega)
    exact ⟨j, by omega, p⟩
  · have := (h.nn v hv).1; omega
/-! ### chains -/
def nxt (E : List (Nat × Nat)) (n : Nat) (f : Nat → Int) (k v : Nat) : Nat := ((List.range n).find? fun t => decide (f t = k) && decide ((v, t) ∈ E)).getD 0
def chainP (E : List (Nat × Nat)) (n : Nat) (f : Nat → Int) : Nat → Nat → List Nat
  | 0, v => [v]
  | k + 1, v => v :: chainP E n f k (nxt E n f k v)
theorem find_range {p : Nat → Bool} {t : Nat} (ht : t < n) (hp : p t = true) (hm : ∀ u, u < t → p u = false) : (List.range n).find? p = some t := by
  rw [List.find?_eq_some_iff_append]
  refine ⟨hp, List.range t, (List.range (n - t - 1)).map (· + (t + 1)), ?_, fun a ha => by rw [hm a (by simpa using ha)]; rfl⟩
  apply List.ext_getElem?
  intro i
  by_cases h1 : i < t
  · rw [List.getElem?_append_left (by simpa using h1)]; simp [h1, Nat.lt_trans h1 ht]
  · rw [List.getElem?_append_right (by simpa using h1)]
    simp only [List.length_range]
    by_cases h2 : i = t
    · subst h2; simp [ht]
    · obtain ⟨j, hj⟩ : ∃ j, i - t = j + 1 := ⟨i - t - 1, by omega⟩
      rw [hj, List.getElem?_cons_succ]
      by_cases h3 : i < n
      · simp only [List.getElem?_map, List.getElem?_range h3, List.getElem?_range (show j < n - t - 1 by omega), Option.map_some]
        congr 1; omega
      · rw [List.getElem?_eq_none (by simpa using h3), List.getElem?_eq_none (by simp; omega)]
theorem nxt_eq {f : Nat → Int} {k v t : Nat} (ht : t < n) (h1 : f t = k) (h2 : (v, t) ∈ E) (hm : ∀ u, u < t → ¬ (f u = k ∧ (v, u) ∈ E)) : nxt E n f k v = t := by
  unfold nxt
  rw [find_range ht (by simp [h1, h2]) fun u hu => ?_]
  · rfl
  · have := hm u hu
    simp only [Bool.and_eq_false_iff, decide_eq_false_iff_not]
    by_cases h : f u = k
    · exact .inr fun h' => this ⟨h, h'⟩
    · exact .inl h
/-- A next one of a chain, the least. -/
theorem IsD.least {f : Nat → Int} {to v k : Nat} (hf : IsD E n to f) (hV : Valid E n) (hv : v < n) (h : f v = (k : Int) + 1) : ∃ t, t < n ∧ f t = k ∧ (v, t) ∈ E ∧ (∀ u, u < t → ¬ (f u = k ∧ (v, u) ∈ E)) ∧ nxt E n f k v = t := by
  obtain ⟨j, ej, p⟩ := hf.ex v hv (by omega)
  obtain rfl : j = k + 1 := by omega
  cases p with
  | succ h1 h2 =>
    rename_i b
    have hb := (hV _ h1).2
    obtain ⟨g1, g2⟩ := hf.le b hb k h2
    have g3 : f b = k := by
      obtain ⟨j, ej, pj⟩ := hf.ex b hb g1
      have := (hf.le v hv _ (.succ h1 pj)).2
      omega
    have : ∀ m, m ≤ n → (∃ t, t < m ∧ f t = k ∧ (v, t) ∈ E ∧ ∀ u, u < t → ¬ (f u = k ∧ (v, u) ∈ E)) ∨ ∀ u, u < m → ¬ (f u = k ∧ (v, u) ∈ E) := by
      intro m
      induction m with
      | zero => intro _; exact .inr fun u hu => by omega
      | succ m ih =>
        intro hm
        rcases ih (by omega) with ⟨t, ht, h⟩ | h
        · exact .inl ⟨t, by omega, h⟩
        · by_cases hp : f m = k ∧ (v, m) ∈ E
          · exact .inl ⟨m, by omega, hp.1, hp.2, h⟩
          · exact .inr fun u hu => by
              by_cases e : u = m
              · subst e; exact hp
              · exact h u (by omega)
    rcases this n (Nat.le_refl _) with ⟨t, ht, e1, e2, e3⟩ | h
    · exact ⟨t, ht, e1, e2, e3, nxt_eq ht e1 e2 e3⟩
    · exact absurd ⟨g3, h1⟩ (h b hb)
theorem nxt_congr {f g : Nat → Int} {k v : Nat} (h : ∀ u, u < n → f u = g u) : nxt E n f k v = nxt E n g k v := by
  unfold nxt
  have : ∀ l : List Nat, (∀ u ∈ l, u < n) → (l.find? fun t => decide (f t = k) && decide ((v, t) ∈ E)) = l.find? fun t => decide (g t = k) && decide ((v, t) ∈ E) := by
    intro l
    induction l with
    | nil => intro _; rfl
    | cons a l ih =>
      intro hl
      rw [List.find?_cons, List.find?_cons, h a (hl a (by simp)), ih fun u hu => hl u (by simp [hu])]
  rw [this _ fun u hu => by simpa using hu]
theorem chainP_congr {f g : Nat → Int} (h : ∀ u, u < n → f u = g u) : ∀ k v, chainP E n f k v = chainP E n g k v
  | 0, v => rfl
  | k + 1, v => by rw [chainP, chainP, nxt_congr h, chainP_congr h]
theorem chainP_len {f : Nat → Int} : ∀ k v, (chainP E n f k v).length = k + 1
  | 0, v => rfl
  | k + 1, v => by rw [chainP, List.length_cons, chainP_len]
theorem PathN.snoc {k a b c : Nat} (h : PathN E k a b) (he : (b, c) ∈ E) : PathN E (k + 1) a c := by
  induction h with
  | zero => exact .succ he (.zero _)
  | succ h1 _ ih => exact .succ h1 (ih he)
theorem Reach.path {a b : Nat} (h : Reach E a b) : ∃ k, PathN E k a b := by
  induction h with
  | refl => exact ⟨0, .zero _⟩
  | step _ h2 ih => obtain ⟨k, p⟩ := ih; exact ⟨k + 1, p.snoc h2⟩
/-- The first one at the least distance with a property, among those below i. -/
structure Best (f : Nat → Int) (P : Nat → Prop) (i b : Nat) : Prop where
  lt : b < i
  nn : 0 ≤ f b
  ok : P b
  min : ∀ u, u < i → 0 ≤ f u → P u → f b < f u ∨ (f b = f u ∧ b ≤ u)
theorem Best.unique {f : Nat → Int} {P : Nat → Prop} {i b b' : Nat} (h : Best f P i b) (h' : Best f P i b') : b = b' := by
  have := h.min b' h'.lt h'.nn h'.ok
  have := h'.min b h.lt h.nn h.ok
  omega
theorem Best.congr {f g : Nat → Int} {P : Nat → Prop} {i b : Nat} (h : Best f P i b) (e : ∀ u, u < i → f u = g u) : Best g P i b :=
  ⟨h.lt, by rw [← e b h.lt]; exact h.nn, h.ok, fun u hu h1 h2 => by rw [← e b h.lt, ← e u hu]; exact h.min u hu (by rw [e u hu]; exact h1) h2⟩
theorem Best.keep {f : Nat → Int} {P : Nat → Prop} {i b : Nat} (h : Best f P i b) (hn : 0 ≤ f i → P i → f b ≤ f i) : Best f P (i + 1) b :=
  ⟨by have := h.lt; omega, h.nn, h.ok, fun u hu h1 h2 => by
    by_cases e : u = i
    · subst e; have := hn h1 h2; have := h.lt; omega
    · exact h.min u (by omega) h1 h2⟩
theorem Best.take {f : Nat → Int} {P : Nat → Prop} {i : Nat} (h1 : 0 ≤ f i) (h2 : P i) (h : ∀ u, u < i → 0 ≤ f u → P u → f i < f u) : Best f P (i + 1) i :=
  ⟨by omega, h1, h2, fun u hu g1 g2 => by
    by_cases e : u = i
    · subst e; exact .inr ⟨rfl, Nat.le_refl _⟩
    · exact .inl (h u (by omega) g1 g2)⟩
theorem none_keep {f : Nat → Int} {P : Nat → Prop} {i : Nat} (h : ∀ u, u < i → 0 ≤ f u → ¬ P u) (hn : 0 ≤ f i → ¬ P i) : ∀ u, u < i + 1 → 0 ≤ f u → ¬ P u := fun u hu h1 => by
  by_cases e : u = i
  · subst e; exact hn h1
  · exact h u (by omega) h1
/-- The least cycle: its length and its first thread. -/
structure Cyc (E : List (Nat × Nat)) (i : Nat) (t l : Nat) : Prop where
  lt : t < i
  ex : ∃ h, (t, h) ∈ E ∧ dst E t h + 1 = l ∧ 0 ≤ dst E t h
  min : ∀ u, u < i → ∀ h, (u, h) ∈ E → 0 ≤ dst E u h → (l : Int) < dst E u h + 1 ∨ ((l : Int) = dst E u h + 1 ∧ t ≤ u)
theorem Cyc.unique {i t l t' l' : Nat} (h : Cyc E i t l) (h' : Cyc E i t' l') : t = t' ∧ l = l' := by
  obtain ⟨x, x1, x2, x3⟩ := h.ex
  obtain ⟨y, y1, y2, y3⟩ := h'.ex
  have := h.min _ h'.lt _ y1 y3
  have := h'.min _ h.lt _ x1 x3
  omega
end
end Go.Proofs.Ytagcifbfokneoaa.Den
end

section
set_option linter.unusedVariables false
set_option linter.unusedSimpArgs false
set_option maxRecDepth 8000
namespace Go.Proofs.Ytagcifbfokneoaa.Den
open Go Go.RowKit
def ofN (e : Nat × Nat) : Int × Int := ((e.1 : Int), (e.2 : Int))
def toN (e : Int × Int) : Nat × Nat := (e.1.toNat, e.2.toNat)
section
variable {w w' w0 : World} {L L' F cs cs2 : List Chunk} {s s2 sb se : Value} {K : VK} {R : ER} {base : List Int} {es : List (Int × Int)} {E : List (Nat × Nat)}
theorem chk_ok (h : chk base es = 0) : base.length ≤ 256 ∧ es.length ≤ 2000 ∧ (∀ b ∈ base, 0 ≤ b ∧ b ≤ 255) ∧ es = (es.map toN).map ofN ∧ Valid (es.map toN) base.length ∧ (es.map toN).Nodup := by
  unfold chk at h
  split at h
  · simp at h
  rename_i h1
  split at h
  · simp at h
  rename_i h2
  split at h
  · simp at h
  rename_i h3
  split at h
  · simp at h
  rename_i h4
  have hin : ∀ e ∈ es, (0 ≤ e.1 ∧ e.1 < base.length) ∧ (0 ≤ e.2 ∧ e.2 < base.length) := by
    intro e he
    exact ⟨Decidable.byContradiction fun hc => h3 ⟨e, he, .inl (by rw [inR, decide_eq_false hc])⟩, Decidable.byContradiction fun hc => h3 ⟨e, he, .inr (by rw [inR, decide_eq_false hc])⟩⟩
  have hmap : es = (es.map toN).map ofN := by
    rw [List.map_map]
    conv => lhs; rw [← List.map_id es]
    apply List.map_congr_left
    rintro ⟨a, b⟩ he
    have := hin _ he
    simp only [id, Function.comp, toN, ofN, Prod.mk.injEq] at *
    omega
  refine ⟨by omega, by omega, fun b hb => ?_, hmap, ?_, ?_⟩
  · have : ¬ (b < 0 ∨ 255 < b) := fun hx => h2 ⟨b, hb, hx⟩
    omega
  · intro e he
    obtain ⟨x, hx, rfl⟩ := List.mem_map.1 he
    have := hin x hx
    simp only [toN]; omega
  · have h4' : es.Nodup := Decidable.not_not.1 h4
    rw [hmap] at h4'
    exact (List.pairwise_map.1 h4').imp fun hne h => hne (by rw [h])
theorem toCN (h : TR cE w0 cs s (E.map ofN)) : TR cN w0 cs s E := h.recode rfl (by simp) (by simp [Cod.all, List.map_map]; rfl)
theorem al39 (H : Hp w0 w L) (k : ∀ w' b, Hp w0 w' (⟨b, 39, [I 0, I 0]⟩ :: L) → K (ptr b 0) w') : al Pg 39 K w := al_m H (by kernel_rfl) k
theorem Values_spec (h1 : TR cI w0 cs sb base) (h2 : TR cN w0 cs2 se E) (H : Hp w0 w L) (m1 : ∀ c ∈ cs, c ∈ L) (m2 : ∀ c ∈ cs2, c ∈ L) (hb : ∀ x ∈ base, 0 ≤ x ∧ x ≤ 255) (hV : Valid E base.length) (hl : base.length ≤ 256) (hel : E.length ≤ 4000) :
    Calls Pg 34 ⟨[.agg ⟨[sb, se]⟩]⟩ w fun x w' => ∃ s cs out, x = .returned s ∧ Hp w0 w' (cs ++ L) ∧ TS cI 3 s out cs ∧ IsEff base E out := by
  apply F34_calls
  unfold F34
  refine bx_m H fun w b H => ?_
  refine lit0_t elI H fun w s0 H hs0 => ?_
  repeat (first | simp only [cI_enc, cE_enc, cN_enc, W0] | refine lss_a ?_ | refine lss_b ?_ | refine gtr_a ?_ | refine gtr_b ?_ | refine geq_a ?_ | refine geq_b ?_ | refine leq_a ?_ | refine leq_b ?_ | refine eql_a ?_ | refine eql_b ?_ | refine neq_a ?_ | refine neq_b ?_ | refine add_a ?_ | refine sub_a ?_ | refine ld_a ?_ | refine ldA_a ?_ | refine ldS_a ?_ | refine ldNS_a ?_ | refine rdA_s ?_ | refine rd1_s ?_ | refine drew_a fun w1 H1 => ?_ | refine st_a fun w1 H1 => ?_ | refine stA_a fun w1 H1 => ?_ | refine lenT_a ?_ | refine lenO_a ?_ | refine ixT_a ?_ | refine ixO_a ?_ | fail)
  refine append_t elI H hs0 spl h1 (by intro c hc; simp [m1 c hc]) (by simp; omega) (by simp; omega) fun w s0 cs0 H hs0 => ?_
  unfold F34_j2 F34_j3
  refine loop3 (F34_l2_succ _) (fun m x1 x3 x4 w => ∃ out s cs ch, x1 = ptr b 0 ∧ x3 = s ∧ x4 = .bool ch ∧ m = slack out + (if ch = true then 1 else 0) ∧ TS cI 3 s out cs ∧ Wk base E out ∧ (ch = false → ∀ e ∈ E, gt out e.1 ≤ gt out e.2) ∧ Hp w0 w (cs ++ (⟨b, 32, [sb, se]⟩ :: L))) ?_
    ⟨base, s0, cs0, true, rfl, rfl, rfl, rfl, hs0, Wk.start, by simp, H⟩
  rintro m k _ _ _ w ⟨out, s, cs1, ch, rfl, rfl, rfl, rfl, hs, hw, hc, H⟩ hk
  unfold F34_b1 F34_j1
  cases ch with
  | false =>
    repeat (first | simp only [cI_enc, cE_enc, cN_enc, W0] | refine lss_a ?_ | refine lss_b ?_ | refine gtr_a ?_ | refine gtr_b ?_ | refine geq_a ?_ | refine geq_b ?_ | refine leq_a ?_ | refine leq_b ?_ | refine eql_a ?_ | refine eql_b ?_ | refine neq_a ?_ | refine neq_b ?_ | refine add_a ?_ | refine sub_a ?_ | refine ld_a ?_ | refine ldA_a ?_ | refine ldS_a ?_ | refine ldNS_a ?_ | refine rdA_s ?_ | refine rd1_s ?_ | refine drew_a fun w1 H1 => ?_ | refine st_a fun w1 H1 => ?_ | refine stA_a fun w1 H1 => ?_ | refine lenT_a ?_ | refine lenO_a ?_ | refine ixT_a ?_ | refine ixO_a ?_ | fail)
    exact ⟨_, cs1, out, rfl, H.re, hs, hw.done (hc rfl)⟩
  | true =>
    repeat (first | simp only [cI_enc, cE_enc, cN_enc, W0] | refine lss_a ?_ | refine lss_b ?_ | refine gtr_a ?_ | refine gtr_b ?_ | refine geq_a ?_ | refine geq_b ?_ | refine leq_a ?_ | refine leq_b ?_ | refine eql_a ?_ | refine eql_b ?_ | refine neq_a ?_ | refine neq_b ?_ | refine add_a ?_ | refine sub_a ?_ | refine ld_a ?_ | refine ldA_a ?_ | refine ldS_a ?_ | refine ldNS_a ?_ | refine rdA_s ?_ | refine rd1_s ?_ | refine drew_a fun w1 H1 => ?_ | refine st_a fun w1 H1 => ?_ | refine stA_a fun w1 H1 => ?_ | refine lenT_a ?_ | refine lenO_a ?_ | refine ixT_a ?_ | refine ixO_a ?_ | fail)
    unfold F34_j4 F34_j5
    refine loop4 (F34_l1_succ _ _) (fun m x1 x3 x4 x5 w => ∃ out' s cs ch, ∃ i : Nat, x1 = ptr b 0 ∧ x3 = s ∧ x4 = .bool ch ∧ x5 = I i ∧ m + i = E.length ∧ TS cI 3 s out' cs ∧ Wk base E out' ∧ (ch = false → slack out' = slack out ∧ ∀ e ∈ E.take i, gt out' e.1 ≤ gt out' e.2) ∧ (ch = true → slack out' + 1 ≤ slack out) ∧ Hp w0 w (cs ++ (⟨b, 32, [sb, se]⟩ :: L))) ?_ (m := E.length)
      ⟨out, _, cs1, false, 0, rfl, rfl, rfl, rfl, rfl, hs, hw, by simp, by simp, H⟩
    clear hs hw hc H
    rintro n k2 _ _ _ _ w ⟨out', s, cs1, ch, i, rfl, rfl, rfl, rfl, hm, hs, hw, hf, ht, H⟩ hk2
    unfold F34_b2
    repeat (first | simp only [cI_enc, cE_enc, cN_enc, W0] | refine lss_a ?_ | refine lss_b ?_ | refine gtr_a ?_ | refine gtr_b ?_ | refine geq_a ?_ | refine geq_b ?_ | refine leq_a ?_ | refine leq_b ?_ | refine eql_a ?_ | refine eql_b ?_ | refine neq_a ?_ | refine neq_b ?_ | refine add_a ?_ | refine sub_a ?_ | refine ld_a ?_ | refine ldA_a ?_ | refine ldS_a ?_ | refine ldNS_a ?_ | refine rdA_s ?_ | refine rd1_s ?_ | refine drew_a fun w1 H1 => ?_ | refine st_a fun w1 H1 => ?_ | refine stA_a fun w1 H1 => ?_ | refine lenT_a ?_ | refine lenO_a ?_ | refine ixT_a ?_ | refine ixO_a ?_ | fail)
    refine lss_k (fun hi => ?_) (fun hi => ?_)
    · have hx : E[i]? = some E[i] := List.getElem?_eq_getElem (by omega)
      have hmem : E[i] ∈ E := List.getElem_mem _
      have hv := hV _ hmem
      generalize E[i] = e at hx hmem hv
      obtain ⟨a, c⟩ := e
      have ha : out'[a]? = some (gt out' a) := gt_some (by rw [hw.len]; exact hv.1)
      have hc : out'[c]? = some (gt out' c) := gt_some (by rw [hw.len]; exact hv.2)
      repeat (first | simp only [cI_enc, cE_enc, cN_enc, W0] | refine lss_a ?_ | refine lss_b ?_ | refine gtr_a ?_ | refine gtr_b ?_ | refine geq_a ?_ | refine geq_b ?_ | refine leq_a ?_ | refine leq_b ?_ | refine eql_a ?_ | refine eql_b ?_ | refine neq_a ?_ | refine neq_b ?_ | refine add_a ?_ | refine sub_a ?_ | refine ld_a ?_ | refine ldA_a ?_ | refine ldS_a ?_ | refine ldNS_a ?_ | refine rdA_s ?_ | refine rd1_s ?_ | refine drew_a fun w1 H1 => ?_ | refine st_a fun w1 H1 => ?_ | refine stA_a fun w1 H1 => ?_ | refine lenT_a ?_ | refine lenO_a ?_ | refine ixT_a ?_ | refine ixO_a ?_ | fail)
      try unfold F34_j6 F34_j8
      repeat (first | simp only [cI_enc, cE_enc, cN_enc, W0] | refine lss_a ?_ | refine lss_b ?_ | refine gtr_a ?_ | refine gtr_b ?_ | refine geq_a ?_ | refine geq_b ?_ | refine leq_a ?_ | refine leq_b ?_ | refine eql_a ?_ | refine eql_b ?_ | refine neq_a ?_ | refine neq_b ?_ | refine add_a ?_ | refine sub_a ?_ | refine ld_a ?_ | refine ldA_a ?_ | refine ldS_a ?_ | refine ldNS_a ?_ | refine rdA_s ?_ | refine rd1_s ?_ | refine drew_a fun w1 H1 => ?_ | refine st_a fun w1 H1 => ?_ | refine stA_a fun w1 H1 => ?_ | refine lenT_a ?_ | refine lenO_a ?_ | refine ixT_a ?_ | refine ixO_a ?_ | fail)
      refine ixN_t (C := cN) h2 H (by intro c hc; simp [m2 c hc]) hx (by decide) ?_
      refine al39 H fun w b2 H => ?_
      repeat (first | simp only [cI_enc, cE_enc, cN_enc, W0] | refine lss_a ?_ | refine lss_b ?_ | refine gtr_a ?_ | refine gtr_b ?_ | refine geq_a ?_ | refine geq_b ?_ | refine leq_a ?_ | refine leq_b ?_ | refine eql_a ?_ | refine eql_b ?_ | refine neq_a ?_ | refine neq_b ?_ | refine add_a ?_ | refine sub_a ?_ | refine ld_a ?_ | refine ldA_a ?_ | refine ldS_a ?_ | refine ldNS_a ?_ | refine rdA_s ?_ | refine rd1_s ?_ | refine drew_a fun w1 H1 => ?_ | refine st_a fun w1 H1 => ?_ | refine stA_a fun w1 H1 => ?_ | refine lenT_a ?_ | refine lenO_a ?_ | refine ixT_a ?_ | refine ixO_a ?_ | fail)
      have hle := hw.le (fun x hx => (hb x hx).2) hv.1
      refine gtr_k (fun hg => ?_) (fun hg => ?_)
      · repeat (first | simp only [cI_enc, cE_enc, cN_enc, W0] | refine lss_a ?_ | refine lss_b ?_ | refine gtr_a ?_ | refine gtr_b ?_ | refine geq_a ?_ | refine geq_b ?_ | refine leq_a ?_ | refine leq_b ?_ | refine eql_a ?_ | refine eql_b ?_ | refine neq_a ?_ | refine neq_b ?_ | refine add_a ?_ | refine sub_a ?_ | refine ld_a ?_ | refine ldA_a ?_ | refine ldS_a ?_ | refine ldNS_a ?_ | refine rdA_s ?_ | refine rd1_s ?_ | refine drew_a fun w1 H1 => ?_ | refine st_a fun w1 H1 => ?_ | refine stA_a fun w1 H1 => ?_ | refine lenT_a ?_ | refine lenO_a ?_ | refine ixT_a ?_ | refine ixO_a ?_ | fail)
        repeat (first | simp only [cI_enc, cE_enc, cN_enc, W0] | refine lss_a ?_ | refine lss_b ?_ | refine gtr_a ?_ | refine gtr_b ?_ | refine geq_a ?_ | refine geq_b ?_ | refine leq_a ?_ | refine leq_b ?_ | refine eql_a ?_ | refine eql_b ?_ | refine neq_a ?_ | refine neq_b ?_ | refine add_a ?_ | refine sub_a ?_ | refine ld_a ?_ | refine ldA_a ?_ | refine ldS_a ?_ | refine ldNS_a ?_ | refine rdA_s ?_ | refine rd1_s ?_ | refine drew_a fun w1 H1 => ?_ | refine st_a fun w1 H1 => ?_ | refine stA_a fun w1 H1 => ?_ | refine lenT_a ?_ | refine lenO_a ?_ | refine ixT_a ?_ | refine ixO_a ?_ | fail)
        refine ist1_t (C := cI) (x := gt out' a) hs (by assumption) spl (by rw [hw.len]; exact hv.2) rfl rfl fun w cs2 H hs' => ?_
        try unfold F34_j7
        repeat (first | simp only [cI_enc, cE_enc, cN_enc, W0] | refine lss_a ?_ | refine lss_b ?_ | refine gtr_a ?_ | refine gtr_b ?_ | refine geq_a ?_ | refine geq_b ?_ | refine leq_a ?_ | refine leq_b ?_ | refine eql_a ?_ | refine eql_b ?_ | refine neq_a ?_ | refine neq_b ?_ | refine add_a ?_ | refine sub_a ?_ | refine ld_a ?_ | refine ldA_a ?_ | refine ldS_a ?_ | refine ldNS_a ?_ | refine rdA_s ?_ | refine rd1_s ?_ | refine drew_a fun w1 H1 => ?_ | refine st_a fun w1 H1 => ?_ | refine stA_a fun w1 H1 => ?_ | refine lenT_a ?_ | refine lenO_a ?_ | refine ixT_a ?_ | refine ixO_a ?_ | fail)
        have hsl := slack_set (l := out') (i := c) (v := gt out' a) (by rw [hw.len]; exact hv.2) hg hle
        refine hk2 (n - 1) _ _ _ _ _ (by omega) ⟨_, _, cs2, true, i + 1, rfl, rfl, rfl, rfl, by omega, hs', hw.raise hV hmem (Int.le_of_lt hg), by simp, fun _ => ?_, H.re⟩
        cases ch with
        | false => have := (hf rfl).1; omega
        | true => have := ht rfl; omega
      · repeat (first | simp only [cI_enc, cE_enc, cN_enc, W0] | refine lss_a ?_ | refine lss_b ?_ | refine gtr_a ?_ | refine gtr_b ?_ | refine geq_a ?_ | refine geq_b ?_ | refine leq_a ?_ | refine leq_b ?_ | refine eql_a ?_ | refine eql_b ?_ | refine neq_a ?_ | refine neq_b ?_ | refine add_a ?_ | refine sub_a ?_ | refine ld_a ?_ | refine ldA_a ?_ | refine ldS_a ?_ | refine ldNS_a ?_ | refine rdA_s ?_ | refine rd1_s ?_ | refine drew_a fun w1 H1 => ?_ | refine st_a fun w1 H1 => ?_ | refine stA_a fun w1 H1 => ?_ | refine lenT_a ?_ | refine lenO_a ?_ | refine ixT_a ?_ | refine ixO_a ?_ | fail)
        try unfold F34_j7
        repeat (first | simp only [cI_enc, cE_enc, cN_enc, W0] | refine lss_a ?_ | refine lss_b ?_ | refine gtr_a ?_ | refine gtr_b ?_ | refine geq_a ?_ | refine geq_b ?_ | refine leq_a ?_ | refine leq_b ?_ | refine eql_a ?_ | refine eql_b ?_ | refine neq_a ?_ | refine neq_b ?_ | refine add_a ?_ | refine sub_a ?_ | refine ld_a ?_ | refine ldA_a ?_ | refine ldS_a ?_ | refine ldNS_a ?_ | refine rdA_s ?_ | refine rd1_s ?_ | refine drew_a fun w1 H1 => ?_ | refine st_a fun w1 H1 => ?_ | refine stA_a fun w1 H1 => ?_ | refine lenT_a ?_ | refine lenO_a ?_ | refine ixT_a ?_ | refine ixO_a ?_ | fail)
        have H9 : Hp w0 w1 (⟨b2, 39, [I a, I c]⟩ :: (cs1 ++ (⟨b, 32, [sb, se]⟩ :: L))) := by assumption
        refine hk2 (n - 1) _ _ _ _ _ (by omega) ⟨_, _, cs1, ch, i + 1, rfl, rfl, rfl, rfl, by omega, hs, hw, fun h => ⟨(hf h).1, ?_⟩, ht, H9.tail⟩
        rw [List.take_add_one, hx]
        intro x hx
        rcases List.mem_append.1 hx with hm | hm
        · exact (hf h).2 x hm
        · simp at hm; subst hm; exact Int.not_lt.1 hg
    · repeat (first | simp only [cI_enc, cE_enc, cN_enc, W0] | refine lss_a ?_ | refine lss_b ?_ | refine gtr_a ?_ | refine gtr_b ?_ | refine geq_a ?_ | refine geq_b ?_ | refine leq_a ?_ | refine leq_b ?_ | refine eql_a ?_ | refine eql_b ?_ | refine neq_a ?_ | refine neq_b ?_ | refine add_a ?_ | refine sub_a ?_ | refine ld_a ?_ | refine ldA_a ?_ | refine ldS_a ?_ | refine ldNS_a ?_ | refine rdA_s ?_ | refine rd1_s ?_ | refine drew_a fun w1 H1 => ?_ | refine st_a fun w1 H1 => ?_ | refine stA_a fun w1 H1 => ?_ | refine lenT_a ?_ | refine lenO_a ?_ | refine ixT_a ?_ | refine ixO_a ?_ | fail)
      refine hk (slack out' + (if ch = true then 1 else 0)) _ _ _ _ ?_ ⟨out', _, cs1, ch, rfl, rfl, rfl, rfl, hs, hw, fun h => ?_, H⟩
      · cases ch with
        | false => have := (hf rfl).1; simp; omega
        | true => have := ht rfl; simp; omega
      · have := (hf h).2
        rw [List.take_of_length_le (by omega)] at this
        exact this
theorem rEffective_spec (h1 : TR cI w0 cs sb base) (h2 : TR cE w0 cs2 se es) (H : Hp w0 w L) (m1 : ∀ c ∈ cs, c ∈ L) (m2 : ∀ c ∈ cs2, c ∈ L) :
    Calls Pg 14 ⟨[.agg ⟨[sb, se]⟩]⟩ w fun x w' => (chk base es ≠ 0 ∧ x = .returned (.tuple ⟨[.slice none 0 0, I (chk base es)]⟩) ∧ Hp w0 w' L) ∨
      (chk base es = 0 ∧ ∃ s cs out, x = .returned (.tuple ⟨[s, I 0]⟩) ∧ Hp w0 w' (cs ++ L) ∧ TS cI 3 s out cs ∧ IsEff base (es.map toN) out) := by
  apply F14_calls
  unfold F14
  refine bx_m H fun w b H => ?_
  repeat (first | simp only [cI_enc, cE_enc, cN_enc, W0] | refine lss_a ?_ | refine lss_b ?_ | refine gtr_a ?_ | refine gtr_b ?_ | refine geq_a ?_ | refine geq_b ?_ | refine leq_a ?_ | refine leq_b ?_ | refine eql_a ?_ | refine eql_b ?_ | refine neq_a ?_ | refine neq_b ?_ | refine add_a ?_ | refine sub_a ?_ | refine ld_a ?_ | refine ldA_a ?_ | refine ldS_a ?_ | refine ldNS_a ?_ | refine rdA_s ?_ | refine rd1_s ?_ | refine drew_a fun w1 H1 => ?_ | refine st_a fun w1 H1 => ?_ | refine stA_a fun w1 H1 => ?_ | refine lenT_a ?_ | refine lenO_a ?_ | refine ixT_a ?_ | refine ixO_a ?_ | fail)
  refine cal_h (rCheck_spec h1 h2 H (by intro c hc; simp [m1 c hc]) (by intro c hc; simp [m2 c hc])) ?_
  rintro _ w ⟨rfl, H⟩
  simp only [ret_k]
  refine neq_k (fun h => ?_) (fun h => ?_)
  · repeat (first | simp only [cI_enc, cE_enc, cN_enc, W0] | refine lss_a ?_ | refine lss_b ?_ | refine gtr_a ?_ | refine gtr_b ?_ | refine geq_a ?_ | refine geq_b ?_ | refine leq_a ?_ | refine leq_b ?_ | refine eql_a ?_ | refine eql_b ?_ | refine neq_a ?_ | refine neq_b ?_ | refine add_a ?_ | refine sub_a ?_ | refine ld_a ?_ | refine ldA_a ?_ | refine ldS_a ?_ | refine ldNS_a ?_ | refine rdA_s ?_ | refine rd1_s ?_ | refine drew_a fun w1 H1 => ?_ | refine st_a fun w1 H1 => ?_ | refine stA_a fun w1 H1 => ?_ | refine lenT_a ?_ | refine lenO_a ?_ | refine ixT_a ?_ | refine ixO_a ?_ | fail)
    exact .inl ⟨h, (by first | rfl | trivial), H.tail⟩
  · repeat (first | simp only [cI_enc, cE_enc, cN_enc, W0] | refine lss_a ?_ | refine lss_b ?_ | refine gtr_a ?_ | refine gtr_b ?_ | refine geq_a ?_ | refine geq_b ?_ | refine leq_a ?_ | refine leq_b ?_ | refine eql_a ?_ | refine eql_b ?_ | refine neq_a ?_ | refine neq_b ?_ | refine add_a ?_ | refine sub_a ?_ | refine ld_a ?_ | refine ldA_a ?_ | refine ldS_a ?_ | refine ldNS_a ?_ | refine rdA_s ?_ | refine rd1_s ?_ | refine drew_a fun w1 H1 => ?_ | refine st_a fun w1 H1 => ?_ | refine stA_a fun w1 H1 => ?_ | refine lenT_a ?_ | refine lenO_a ?_ | refine ixT_a ?_ | refine ixO_a ?_ | fail)
    obtain ⟨c1, c2, c3, c4, c5, c6⟩ := chk_ok h
    rw [c4] at h2
    refine cal_h (Values_spec h1 (toCN h2) H (by intro c hc; simp [m1 c hc]) (by intro c hc; simp [m2 c hc]) c3 c5 c1 (by simp; omega)) ?_
    rintro _ w ⟨s, cs, out, rfl, H, hs, he⟩
    exact .inr ⟨h, s, cs, out, rfl, H.re, hs, he⟩
end
end Go.Proofs.Ytagcifbfokneoaa.Den
end

section
set_option linter.unusedVariables false
set_option linter.unusedSimpArgs false
set_option maxRecDepth 8000
namespace Go.Proofs.Ytagcifbfokneoaa.Den
open Go Go.RowKit
def cU : Cod Nat := ⟨1, fun n => [I (n : Int)], fun _ => rfl, by intro a c hc; simp at hc; subst hc; rfl⟩
section
variable {w w' w0 : World} {L L' F cs cs2 cs3 : List Chunk} {s s2 sb se sd : Value} {K : VK} {R : ER} {base d : List Int} {es : List (Int × Int)} {E : List (Nat × Nat)}
theorem elU : ElT 22 3 cU.sz 8 [I 0] := ⟨by kernel_rfl, by kernel_rfl, rfl⟩
theorem rdist_spec {to : Nat} (h1 : TR cI w0 cs sb base) (h2 : TR cN w0 cs2 se E) (H : Hp w0 w L) (m1 : ∀ c ∈ cs, c ∈ L) (m2 : ∀ c ∈ cs2, c ∈ L) (hV : Valid E base.length) (hl : base.length ≤ 256) (hel : E.length ≤ 4000) (hto : to < base.length) :
    Calls Pg 47 ⟨[.agg ⟨[sb, se]⟩, I to]⟩ w fun x w' => ∃ s cs d, x = .returned s ∧ Hp w0 w' (cs ++ L) ∧ TS cI 3 s d cs ∧ d.length = base.length ∧ IsD E base.length to fun v => gt d v - 1 := by
  apply F47_calls
  unfold F47
  refine bx_m H fun w b H => ?_
  repeat (first | simp only [cI_enc, cE_enc, cN_enc, W0] | refine lss_a ?_ | refine lss_b ?_ | refine gtr_a ?_ | refine gtr_b ?_ | refine geq_a ?_ | refine geq_b ?_ | refine leq_a ?_ | refine leq_b ?_ | refine eql_a ?_ | refine eql_b ?_ | refine neq_a ?_ | refine neq_b ?_ | refine add_a ?_ | refine sub_a ?_ | refine ld_a ?_ | refine ldA_a ?_ | refine ldS_a ?_ | refine ldNS_a ?_ | refine rdA_s ?_ | refine rd1_s ?_ | refine drew_a fun w1 H1 => ?_ | refine st_a fun w1 H1 => ?_ | refine stA_a fun w1 H1 => ?_ | refine lenT_a ?_ | refine lenO_a ?_ | refine ixT_a ?_ | refine ixO_a ?_ | fail)
  refine make_t (C := cI) (x := 0) elI rfl H rfl (by omega) (by omega) fun w s0 cs0 H hs0 => ?_
  refine ist1_t (C := cI) (x := 1) hs0 H spl (by simpa using hto) rfl rfl fun w cs0 H hs0 => ?_
  unfold F47_j2 F47_j3
  refine loop3 (F47_l2_succ _) (fun m x2 x5 x6 w => ∃ d s cs, ∃ k : Nat, x2 = ptr b 0 ∧ x5 = s ∧ x6 = I ((k : Int) + 1) ∧ m + k = base.length ∧ TS cI 3 s d cs ∧ Lv E base.length to (k + 1) [] d ∧ Hp w0 w (cs ++ (⟨b, 32, [sb, se]⟩ :: L))) ?_ (m := base.length)
    ⟨_, _, cs0, 0, rfl, rfl, rfl, rfl, hs0, Lv.first hto, H⟩
  rintro m k _ _ _ w ⟨d, s, cs1, kk, rfl, rfl, rfl, hm, hs, hL, H⟩ hk
  unfold F47_b1
  repeat (first | simp only [cI_enc, cE_enc, cN_enc, W0] | refine lss_a ?_ | refine lss_b ?_ | refine gtr_a ?_ | refine gtr_b ?_ | refine geq_a ?_ | refine geq_b ?_ | refine leq_a ?_ | refine leq_b ?_ | refine eql_a ?_ | refine eql_b ?_ | refine neq_a ?_ | refine neq_b ?_ | refine add_a ?_ | refine sub_a ?_ | refine ld_a ?_ | refine ldA_a ?_ | refine ldS_a ?_ | refine ldNS_a ?_ | refine rdA_s ?_ | refine rd1_s ?_ | refine drew_a fun w1 H1 => ?_ | refine st_a fun w1 H1 => ?_ | refine stA_a fun w1 H1 => ?_ | refine lenT_a ?_ | refine lenO_a ?_ | refine ixT_a ?_ | refine ixO_a ?_ | fail)
  refine leq_k (fun hi => ?_) (fun hi => ?_)
  · repeat (first | simp only [cI_enc, cE_enc, cN_enc, W0] | refine lss_a ?_ | refine lss_b ?_ | refine gtr_a ?_ | refine gtr_b ?_ | refine geq_a ?_ | refine geq_b ?_ | refine leq_a ?_ | refine leq_b ?_ | refine eql_a ?_ | refine eql_b ?_ | refine neq_a ?_ | refine neq_b ?_ | refine add_a ?_ | refine sub_a ?_ | refine ld_a ?_ | refine ldA_a ?_ | refine ldS_a ?_ | refine ldNS_a ?_ | refine rdA_s ?_ | refine rd1_s ?_ | refine drew_a fun w1 H1 => ?_ | refine st_a fun w1 H1 => ?_ | refine stA_a fun w1 H1 => ?_ | refine lenT_a ?_ | refine lenO_a ?_ | refine ixT_a ?_ | refine ixO_a ?_ | fail)
    unfold F47_j4 F47_j6 F47_j7
    refine loop4 (F47_l1_succ _ _) (fun m x2 x5 x6 x7 w => ∃ d s cs, ∃ i : Nat, x2 = ptr b 0 ∧ x5 = s ∧ x6 = I ((kk : Int) + 1) ∧ x7 = I i ∧ m + i = E.length ∧ TS cI 3 s d cs ∧ Lv E base.length to (kk + 1) (E.take i) d ∧ Hp w0 w (cs ++ (⟨b, 32, [sb, se]⟩ :: L))) ?_ (m := E.length)
      ⟨d, _, cs1, 0, rfl, rfl, rfl, rfl, rfl, hs, hL, H⟩
    clear hs hL H
    rintro n k2 _ s _ _ w ⟨d, _, cs1, i, rfl, rfl, rfl, rfl, hm2, hs, hL, H⟩ hk2
    unfold F47_b2
    repeat (first | simp only [cI_enc, cE_enc, cN_enc, W0] | refine lss_a ?_ | refine lss_b ?_ | refine gtr_a ?_ | refine gtr_b ?_ | refine geq_a ?_ | refine geq_b ?_ | refine leq_a ?_ | refine leq_b ?_ | refine eql_a ?_ | refine eql_b ?_ | refine neq_a ?_ | refine neq_b ?_ | refine add_a ?_ | refine sub_a ?_ | refine ld_a ?_ | refine ldA_a ?_ | refine ldS_a ?_ | refine ldNS_a ?_ | refine rdA_s ?_ | refine rd1_s ?_ | refine drew_a fun w1 H1 => ?_ | refine st_a fun w1 H1 => ?_ | refine stA_a fun w1 H1 => ?_ | refine lenT_a ?_ | refine lenO_a ?_ | refine ixT_a ?_ | refine ixO_a ?_ | fail)
    refine lss_k (fun hi2 => ?_) (fun hi2 => ?_)
    · have hx : E[i]? = some E[i] := List.getElem?_eq_getElem (by omega)
      have hmem : E[i] ∈ E := List.getElem_mem _
      have hv := hV _ hmem
      have htk : E.take (i + 1) = E.take i ++ [E[i]] := by rw [List.take_add_one, hx]; rfl
      generalize E[i] = e at hx hmem hv htk
      obtain ⟨a, c⟩ := e
      have ha : d[a]? = some (gt d a) := gt_some (by rw [hL.len]; exact hv.1)
      have hc : d[c]? = some (gt d c) := gt_some (by rw [hL.len]; exact hv.2)
      repeat (first | simp only [cI_enc, cE_enc, cN_enc, W0] | refine lss_a ?_ | refine lss_b ?_ | refine gtr_a ?_ | refine gtr_b ?_ | refine geq_a ?_ | refine geq_b ?_ | refine leq_a ?_ | refine leq_b ?_ | refine eql_a ?_ | refine eql_b ?_ | refine neq_a ?_ | refine neq_b ?_ | refine add_a ?_ | refine sub_a ?_ | refine ld_a ?_ | refine ldA_a ?_ | refine ldS_a ?_ | refine ldNS_a ?_ | refine rdA_s ?_ | refine rd1_s ?_ | refine drew_a fun w1 H1 => ?_ | refine st_a fun w1 H1 => ?_ | refine stA_a fun w1 H1 => ?_ | refine lenT_a ?_ | refine lenO_a ?_ | refine ixT_a ?_ | refine ixO_a ?_ | fail)
      refine ixN_t (C := cN) h2 H (by intro c hc; simp [m2 c hc]) hx (by decide) ?_
      refine al39 H fun w b2 H => ?_
      repeat (first | simp only [cI_enc, cE_enc, cN_enc, W0] | refine lss_a ?_ | refine lss_b ?_ | refine gtr_a ?_ | refine gtr_b ?_ | refine geq_a ?_ | refine geq_b ?_ | refine leq_a ?_ | refine leq_b ?_ | refine eql_a ?_ | refine eql_b ?_ | refine neq_a ?_ | refine neq_b ?_ | refine add_a ?_ | refine sub_a ?_ | refine ld_a ?_ | refine ldA_a ?_ | refine ldS_a ?_ | refine ldNS_a ?_ | refine rdA_s ?_ | refine rd1_s ?_ | refine drew_a fun w1 H1 => ?_ | refine st_a fun w1 H1 => ?_ | refine stA_a fun w1 H1 => ?_ | refine lenT_a ?_ | refine lenO_a ?_ | refine ixT_a ?_ | refine ixO_a ?_ | fail)
      have fin : ∀ {w}, Hp w0 w (⟨b2, 39, [I a, I c]⟩ :: (cs1 ++ (⟨b, 32, [sb, se]⟩ :: L))) → (gt d c = ((kk + 1 : Nat) : Int) → gt d a ≠ 0) → k2 (ptr b 0) s (I ((kk : Int) + 1)) (I ((i : Int) + 1)) w := by
        intro w H hne
        refine hk2 (n - 1) _ _ _ _ _ (by omega) ⟨d, _, cs1, i + 1, rfl, rfl, rfl, rfl, by omega, hs, ?_, H.tail⟩
        rw [htk]
        exact hL.skip hne hv.1
      refine eql_k (fun hg => ?_) (fun hg => ?_)
      · repeat (first | simp only [cI_enc, cE_enc, cN_enc, W0] | refine lss_a ?_ | refine lss_b ?_ | refine gtr_a ?_ | refine gtr_b ?_ | refine geq_a ?_ | refine geq_b ?_ | refine leq_a ?_ | refine leq_b ?_ | refine eql_a ?_ | refine eql_b ?_ | refine neq_a ?_ | refine neq_b ?_ | refine add_a ?_ | refine sub_a ?_ | refine ld_a ?_ | refine ldA_a ?_ | refine ldS_a ?_ | refine ldNS_a ?_ | refine rdA_s ?_ | refine rd1_s ?_ | refine drew_a fun w1 H1 => ?_ | refine st_a fun w1 H1 => ?_ | refine stA_a fun w1 H1 => ?_ | refine lenT_a ?_ | refine lenO_a ?_ | refine ixT_a ?_ | refine ixO_a ?_ | fail)
        refine eql_k (fun hg2 => ?_) (fun hg2 => ?_)
        · repeat (first | simp only [cI_enc, cE_enc, cN_enc, W0] | refine lss_a ?_ | refine lss_b ?_ | refine gtr_a ?_ | refine gtr_b ?_ | refine geq_a ?_ | refine geq_b ?_ | refine leq_a ?_ | refine leq_b ?_ | refine eql_a ?_ | refine eql_b ?_ | refine neq_a ?_ | refine neq_b ?_ | refine add_a ?_ | refine sub_a ?_ | refine ld_a ?_ | refine ldA_a ?_ | refine ldS_a ?_ | refine ldNS_a ?_ | refine rdA_s ?_ | refine rd1_s ?_ | refine drew_a fun w1 H1 => ?_ | refine st_a fun w1 H1 => ?_ | refine stA_a fun w1 H1 => ?_ | refine lenT_a ?_ | refine lenO_a ?_ | refine ixT_a ?_ | refine ixO_a ?_ | fail)
          refine ist1_t (C := cI) (x := ((kk + 1 : Nat) : Int) + 1) hs (by assumption) spl (by rw [hL.len]; exact hv.1) rfl rfl fun w cs2 H hs' => ?_
          unfold F47_j9
          repeat (first | simp only [cI_enc, cE_enc, cN_enc, W0] | refine lss_a ?_ | refine lss_b ?_ | refine gtr_a ?_ | refine gtr_b ?_ | refine geq_a ?_ | refine geq_b ?_ | refine leq_a ?_ | refine leq_b ?_ | refine eql_a ?_ | refine eql_b ?_ | refine neq_a ?_ | refine neq_b ?_ | refine add_a ?_ | refine sub_a ?_ | refine ld_a ?_ | refine ldA_a ?_ | refine ldS_a ?_ | refine ldNS_a ?_ | refine rdA_s ?_ | refine rd1_s ?_ | refine drew_a fun w1 H1 => ?_ | refine st_a fun w1 H1 => ?_ | refine stA_a fun w1 H1 => ?_ | refine lenT_a ?_ | refine lenO_a ?_ | refine ixT_a ?_ | refine ixO_a ?_ | fail)
          refine hk2 (n - 1) _ _ _ _ _ (by omega) ⟨_, _, cs2, i + 1, rfl, rfl, rfl, rfl, by omega, hs', ?_, H.re⟩
          rw [htk]
          exact hL.set hV hmem (fun x hx => List.mem_of_mem_take hx) (by omega) hg hg2
        · repeat (first | simp only [cI_enc, cE_enc, cN_enc, W0] | refine lss_a ?_ | refine lss_b ?_ | refine gtr_a ?_ | refine gtr_b ?_ | refine geq_a ?_ | refine geq_b ?_ | refine leq_a ?_ | refine leq_b ?_ | refine eql_a ?_ | refine eql_b ?_ | refine neq_a ?_ | refine neq_b ?_ | refine add_a ?_ | refine sub_a ?_ | refine ld_a ?_ | refine ldA_a ?_ | refine ldS_a ?_ | refine ldNS_a ?_ | refine rdA_s ?_ | refine rd1_s ?_ | refine drew_a fun w1 H1 => ?_ | refine st_a fun w1 H1 => ?_ | refine stA_a fun w1 H1 => ?_ | refine lenT_a ?_ | refine lenO_a ?_ | refine ixT_a ?_ | refine ixO_a ?_ | fail)
          exact fin (by assumption) fun _ => hg2
      · repeat (first | simp only [cI_enc, cE_enc, cN_enc, W0] | refine lss_a ?_ | refine lss_b ?_ | refine gtr_a ?_ | refine gtr_b ?_ | refine geq_a ?_ | refine geq_b ?_ | refine leq_a ?_ | refine leq_b ?_ | refine eql_a ?_ | refine eql_b ?_ | refine neq_a ?_ | refine neq_b ?_ | refine add_a ?_ | refine sub_a ?_ | refine ld_a ?_ | refine ldA_a ?_ | refine ldS_a ?_ | refine ldNS_a ?_ | refine rdA_s ?_ | refine rd1_s ?_ | refine drew_a fun w1 H1 => ?_ | refine st_a fun w1 H1 => ?_ | refine stA_a fun w1 H1 => ?_ | refine lenT_a ?_ | refine lenO_a ?_ | refine ixT_a ?_ | refine ixO_a ?_ | fail)
        exact fin (by assumption) fun h => absurd h hg
    · repeat (first | simp only [cI_enc, cE_enc, cN_enc, W0] | refine lss_a ?_ | refine lss_b ?_ | refine gtr_a ?_ | refine gtr_b ?_ | refine geq_a ?_ | refine geq_b ?_ | refine leq_a ?_ | refine leq_b ?_ | refine eql_a ?_ | refine eql_b ?_ | refine neq_a ?_ | refine neq_b ?_ | refine add_a ?_ | refine sub_a ?_ | refine ld_a ?_ | refine ldA_a ?_ | refine ldS_a ?_ | refine ldNS_a ?_ | refine rdA_s ?_ | refine rd1_s ?_ | refine drew_a fun w1 H1 => ?_ | refine st_a fun w1 H1 => ?_ | refine stA_a fun w1 H1 => ?_ | refine lenT_a ?_ | refine lenO_a ?_ | refine ixT_a ?_ | refine ixO_a ?_ | fail)
      rw [List.take_of_length_le (by omega)] at hL
      exact hk (m - 1) _ _ _ _ (by omega) ⟨d, _, cs1, kk + 1, rfl, rfl, rfl, by omega, hs, hL.next, H⟩
  · repeat (first | simp only [cI_enc, cE_enc, cN_enc, W0] | refine lss_a ?_ | refine lss_b ?_ | refine gtr_a ?_ | refine gtr_b ?_ | refine geq_a ?_ | refine geq_b ?_ | refine leq_a ?_ | refine leq_b ?_ | refine eql_a ?_ | refine eql_b ?_ | refine neq_a ?_ | refine neq_b ?_ | refine add_a ?_ | refine sub_a ?_ | refine ld_a ?_ | refine ldA_a ?_ | refine ldS_a ?_ | refine ldNS_a ?_ | refine rdA_s ?_ | refine rd1_s ?_ | refine drew_a fun w1 H1 => ?_ | refine st_a fun w1 H1 => ?_ | refine stA_a fun w1 H1 => ?_ | refine lenT_a ?_ | refine lenO_a ?_ | refine ixT_a ?_ | refine ixO_a ?_ | fail)
    unfold F47_j1
    obtain rfl : kk = base.length := by omega
    exact ⟨_, cs1, d, rfl, H.re, hs, hL.len, hL.isD hV⟩
end
end Go.Proofs.Ytagcifbfokneoaa.Den
end

section
set_option linter.unusedVariables false
set_option linter.unusedSimpArgs false
set_option maxRecDepth 8000
namespace Go.Proofs.Ytagcifbfokneoaa.Den
open Go Go.RowKit
section
variable {w w' w0 : World} {L L' F cs cs2 cs3 : List Chunk} {s s2 sb se sd : Value} {K : VK} {R : ER} {base d : List Int} {es : List (Int × Int)} {E : List (Nat × Nat)} {n : Nat}
theorem ofN_mem {a b : Nat} : ((a : Int), (b : Int)) ∈ E.map ofN ↔ (a, b) ∈ E := by
  rw [List.mem_map]
  constructor
  · rintro ⟨⟨x, y⟩, h, e⟩
    simp only [ofN, Prod.mk.injEq] at e
    obtain ⟨rfl, rfl⟩ : x = a ∧ y = b := by omega
    exact h
  · intro h; exact ⟨_, h, rfl⟩
theorem ofCN (h : TR cN w0 cs s E) : TR cE w0 cs s (E.map ofN) := h.recode rfl (by simp) (by simp [Cod.all, List.map_map]; rfl)
theorem hasN_spec {a b : Nat} (h : TR cN w0 cs s E) (H : Hp w0 w L) (m : ∀ c ∈ cs, c ∈ L) (hl : E.length ≤ 4000) :
    Calls Pg 42 ⟨[s, .agg ⟨[I (a : Int), I (b : Int)]⟩]⟩ w fun x w' => x = .returned (.bool (decide ((a, b) ∈ E))) ∧ Hp w0 w' L := by
  have := has_spec (e := ((a : Int), (b : Int))) (ofCN h) H m (by simp; omega)
  refine this.mono fun x w' hx => ?_
  rw [decide_eq_decide.2 ofN_mem] at hx
  exact hx
theorem chain_ne {f : Nat → Int} {k v : Nat} : chainP E n f k v = v :: (chainP E n f k v).tail := by cases k <;> rfl
theorem chain_spec {from_ to k0 : Nat} (h1 : TR cI w0 cs sb base) (h2 : TR cN w0 cs2 se E) (h3 : TR cI w0 cs3 sd d) (H : Hp w0 w L) (m1 : ∀ c ∈ cs, c ∈ L) (m2 : ∀ c ∈ cs2, c ∈ L) (m3 : ∀ c ∈ cs3, c ∈ L)
    (hV : Valid E base.length) (hl : base.length ≤ 256) (hel : E.length ≤ 4000) (hf : from_ < base.length) (hd : d.length = base.length) (hD : IsD E base.length to fun v => gt d v - 1) (hk0 : gt d from_ = (k0 : Int) + 1) (hkl : k0 ≤ 256) :
    Calls Pg 48 ⟨[.agg ⟨[sb, se]⟩, I from_, sd]⟩ w fun x w' => ∃ s cs, x = .returned s ∧ Hp w0 w' (cs ++ L) ∧ TS cU 3 s (chainP E base.length (fun v => gt d v - 1) k0 from_) cs := by
  apply F48_calls
  unfold F48
  refine bx_m H fun w b H => ?_
  refine lit1_t (C := cU) (x := from_) elU H rfl (by decide) fun w s0 cs0 H hs0 => ?_
  unfold F48_j2
  refine loop4 (F48_l2_succ _) (fun m x1 x2 x3 x7 w => ∃ s cs l, ∃ v : Nat, x1 = I v ∧ x2 = sd ∧ x3 = ptr b 0 ∧ x7 = s ∧ v < base.length ∧ gt d v = (m : Int) + 1 ∧ l.length + m = k0 + 1 ∧ l ++ (chainP E base.length (fun v => gt d v - 1) m v).tail = chainP E base.length (fun v => gt d v - 1) k0 from_ ∧ TS cU 3 s l cs ∧ Hp w0 w (cs ++ (⟨b, 32, [sb, se]⟩ :: L))) ?_ (m := k0)
    ⟨_, cs0, [from_], from_, rfl, rfl, rfl, rfl, hf, hk0, by simp; omega, by rw [List.singleton_append]; exact chain_ne.symm, hs0, H⟩
  rintro m k _ sd _ s w ⟨_, cs1, l, v, rfl, rfl, rfl, rfl, hv, hm, hll, hc, hs, H⟩ hk
  have hx : d[v]? = some (gt d v) := gt_some (by omega)
  unfold F48_b1
  refine ix1_t (C := cI) h3 H (by intro c hc; simp [m3 c hc]) hx rfl rfl ?_
  cases m with
  | zero =>
    refine gtr_n (by omega) ?_
    repeat (first | simp only [cI_enc, cE_enc, cN_enc, W0] | refine lss_a ?_ | refine lss_b ?_ | refine gtr_a ?_ | refine gtr_b ?_ | refine geq_a ?_ | refine geq_b ?_ | refine leq_a ?_ | refine leq_b ?_ | refine eql_a ?_ | refine eql_b ?_ | refine neq_a ?_ | refine neq_b ?_ | refine add_a ?_ | refine sub_a ?_ | refine ld_a ?_ | refine ldA_a ?_ | refine ldS_a ?_ | refine ldNS_a ?_ | refine rdA_s ?_ | refine rd1_s ?_ | refine drew_a fun w1 H1 => ?_ | refine st_a fun w1 H1 => ?_ | refine stA_a fun w1 H1 => ?_ | refine lenT_a ?_ | refine lenO_a ?_ | refine ixT_a ?_ | refine ixO_a ?_ | fail)
    unfold F48_j1
    refine ⟨_, cs1, rfl, H.re, ?_⟩
    simp only [chainP, List.tail_cons, List.append_nil] at hc
    rw [← hc]; exact hs
  | succ m =>
    refine gtr_y (by omega) ?_
    repeat (first | simp only [cI_enc, cE_enc, cN_enc, W0] | refine lss_a ?_ | refine lss_b ?_ | refine gtr_a ?_ | refine gtr_b ?_ | refine geq_a ?_ | refine geq_b ?_ | refine leq_a ?_ | refine leq_b ?_ | refine eql_a ?_ | refine eql_b ?_ | refine neq_a ?_ | refine neq_b ?_ | refine add_a ?_ | refine sub_a ?_ | refine ld_a ?_ | refine ldA_a ?_ | refine ldS_a ?_ | refine ldNS_a ?_ | refine rdA_s ?_ | refine rd1_s ?_ | refine drew_a fun w1 H1 => ?_ | refine st_a fun w1 H1 => ?_ | refine stA_a fun w1 H1 => ?_ | refine lenT_a ?_ | refine lenO_a ?_ | refine ixT_a ?_ | refine ixO_a ?_ | fail)
    obtain ⟨t, ht1, ht2, ht3, ht4, ht5⟩ := hD.least hV hv (k := m) (by show gt d v - 1 = _; omega)
    have ht2 : gt d t - 1 = (m : Int) := ht2
    unfold F48_j3 F48_j5 F48_j6
    refine loop6 (F48_l1_succ _ _) (fun n x1 x2 x3 x7 x8 x9 w => x1 = I v ∧ x2 = sd ∧ x3 = ptr b 0 ∧ x7 = s ∧ Hp w0 w (cs1 ++ (⟨b, 32, [sb, se]⟩ :: L)) ∧ ((∃ i : Nat, x8 = I (-1) ∧ x9 = I i ∧ i ≤ t ∧ n = t + 1 - i) ∨ (x8 = I t ∧ x9 = I ((t : Int) + 1) ∧ n = 0))) ?_ (m := t + 1)
      ⟨rfl, rfl, rfl, rfl, H, .inl ⟨0, rfl, rfl, by omega, by omega⟩⟩
    clear H
    rintro n k2 _ sd _ s _ _ w ⟨rfl, rfl, rfl, rfl, H, hh⟩ hk2
    unfold F48_b2
    rcases hh with ⟨i, rfl, rfl, hi, rfl⟩ | ⟨rfl, rfl, rfl⟩
    · repeat (first | simp only [cI_enc, cE_enc, cN_enc, W0] | refine lss_a ?_ | refine lss_b ?_ | refine gtr_a ?_ | refine gtr_b ?_ | refine geq_a ?_ | refine geq_b ?_ | refine leq_a ?_ | refine leq_b ?_ | refine eql_a ?_ | refine eql_b ?_ | refine neq_a ?_ | refine neq_b ?_ | refine add_a ?_ | refine sub_a ?_ | refine ld_a ?_ | refine ldA_a ?_ | refine ldS_a ?_ | refine ldNS_a ?_ | refine rdA_s ?_ | refine rd1_s ?_ | refine drew_a fun w1 H1 => ?_ | refine st_a fun w1 H1 => ?_ | refine stA_a fun w1 H1 => ?_ | refine lenT_a ?_ | refine lenO_a ?_ | refine ixT_a ?_ | refine ixO_a ?_ | fail)
      have hxi : d[i]? = some (gt d i) := gt_some (by omega)
      refine ix1_t (C := cI) h3 (by assumption) (by intro c hc; simp [m3 c hc]) hxi rfl rfl ?_
      refine ix1_t (C := cI) h3 (by assumption) (by intro c hc; simp [m3 c hc]) hx rfl rfl ?_
      refine sub_k (by omega) (by omega) rfl ?_
      refine eql_k (fun hg => ?_) (fun hg => ?_)
      · repeat (first | simp only [cI_enc, cE_enc, cN_enc, W0] | refine lss_a ?_ | refine lss_b ?_ | refine gtr_a ?_ | refine gtr_b ?_ | refine geq_a ?_ | refine geq_b ?_ | refine leq_a ?_ | refine leq_b ?_ | refine eql_a ?_ | refine eql_b ?_ | refine neq_a ?_ | refine neq_b ?_ | refine add_a ?_ | refine sub_a ?_ | refine ld_a ?_ | refine ldA_a ?_ | refine ldS_a ?_ | refine ldNS_a ?_ | refine rdA_s ?_ | refine rd1_s ?_ | refine drew_a fun w1 H1 => ?_ | refine st_a fun w1 H1 => ?_ | refine stA_a fun w1 H1 => ?_ | refine lenT_a ?_ | refine lenO_a ?_ | refine ixT_a ?_ | refine ixO_a ?_ | fail)
        refine pv_of (v := .agg ⟨[I v, I i]⟩) rfl ?_
        repeat (first | simp only [cI_enc, cE_enc, cN_enc, W0] | refine lss_a ?_ | refine lss_b ?_ | refine gtr_a ?_ | refine gtr_b ?_ | refine geq_a ?_ | refine geq_b ?_ | refine leq_a ?_ | refine leq_b ?_ | refine eql_a ?_ | refine eql_b ?_ | refine neq_a ?_ | refine neq_b ?_ | refine add_a ?_ | refine sub_a ?_ | refine ld_a ?_ | refine ldA_a ?_ | refine ldS_a ?_ | refine ldNS_a ?_ | refine rdA_s ?_ | refine rd1_s ?_ | refine drew_a fun w1 H1 => ?_ | refine st_a fun w1 H1 => ?_ | refine stA_a fun w1 H1 => ?_ | refine lenT_a ?_ | refine lenO_a ?_ | refine ixT_a ?_ | refine ixO_a ?_ | fail)
        refine cal_h (hasN_spec h2 (by assumption) (by intro c hc; simp [m2 c hc]) hel) ?_
        rintro _ w ⟨rfl, H⟩
        repeat (first | simp only [cI_enc, cE_enc, cN_enc, W0] | refine lss_a ?_ | refine lss_b ?_ | refine gtr_a ?_ | refine gtr_b ?_ | refine geq_a ?_ | refine geq_b ?_ | refine leq_a ?_ | refine leq_b ?_ | refine eql_a ?_ | refine eql_b ?_ | refine neq_a ?_ | refine neq_b ?_ | refine add_a ?_ | refine sub_a ?_ | refine ld_a ?_ | refine ldA_a ?_ | refine ldS_a ?_ | refine ldNS_a ?_ | refine rdA_s ?_ | refine rd1_s ?_ | refine drew_a fun w1 H1 => ?_ | refine st_a fun w1 H1 => ?_ | refine stA_a fun w1 H1 => ?_ | refine lenT_a ?_ | refine lenO_a ?_ | refine ixT_a ?_ | refine ixO_a ?_ | fail)
        refine cnd_k (fun hq => ?_) (fun hq => ?_)
        · have hq := of_decide_eq_true hq
          obtain rfl : i = t := by
            rcases Nat.lt_or_ge i t with h | h
            · exact absurd ⟨by omega, hq⟩ (ht4 i h)
            · omega
          repeat (first | simp only [cI_enc, cE_enc, cN_enc, W0] | refine lss_a ?_ | refine lss_b ?_ | refine gtr_a ?_ | refine gtr_b ?_ | refine geq_a ?_ | refine geq_b ?_ | refine leq_a ?_ | refine leq_b ?_ | refine eql_a ?_ | refine eql_b ?_ | refine neq_a ?_ | refine neq_b ?_ | refine add_a ?_ | refine sub_a ?_ | refine ld_a ?_ | refine ldA_a ?_ | refine ldS_a ?_ | refine ldNS_a ?_ | refine rdA_s ?_ | refine rd1_s ?_ | refine drew_a fun w1 H1 => ?_ | refine st_a fun w1 H1 => ?_ | refine stA_a fun w1 H1 => ?_ | refine lenT_a ?_ | refine lenO_a ?_ | refine ixT_a ?_ | refine ixO_a ?_ | fail)
          exact hk2 0 _ _ _ _ _ _ _ (by omega) ⟨rfl, rfl, rfl, rfl, H, .inr ⟨rfl, rfl, rfl⟩⟩
        · have hq := of_decide_eq_false hq
          have hne : i ≠ t := by rintro rfl; exact hq ht3
          repeat (first | simp only [cI_enc, cE_enc, cN_enc, W0] | refine lss_a ?_ | refine lss_b ?_ | refine gtr_a ?_ | refine gtr_b ?_ | refine geq_a ?_ | refine geq_b ?_ | refine leq_a ?_ | refine leq_b ?_ | refine eql_a ?_ | refine eql_b ?_ | refine neq_a ?_ | refine neq_b ?_ | refine add_a ?_ | refine sub_a ?_ | refine ld_a ?_ | refine ldA_a ?_ | refine ldS_a ?_ | refine ldNS_a ?_ | refine rdA_s ?_ | refine rd1_s ?_ | refine drew_a fun w1 H1 => ?_ | refine st_a fun w1 H1 => ?_ | refine stA_a fun w1 H1 => ?_ | refine lenT_a ?_ | refine lenO_a ?_ | refine ixT_a ?_ | refine ixO_a ?_ | fail)
          exact hk2 (t + 1 - (i + 1)) _ _ _ _ _ _ _ (by omega) ⟨rfl, rfl, rfl, rfl, H, .inl ⟨i + 1, rfl, rfl, by omega, rfl⟩⟩
      · have hne : i ≠ t := by rintro rfl; omega
        repeat (first | simp only [cI_enc, cE_enc, cN_enc, W0] | refine lss_a ?_ | refine lss_b ?_ | refine gtr_a ?_ | refine gtr_b ?_ | refine geq_a ?_ | refine geq_b ?_ | refine leq_a ?_ | refine leq_b ?_ | refine eql_a ?_ | refine eql_b ?_ | refine neq_a ?_ | refine neq_b ?_ | refine add_a ?_ | refine sub_a ?_ | refine ld_a ?_ | refine ldA_a ?_ | refine ldS_a ?_ | refine ldNS_a ?_ | refine rdA_s ?_ | refine rd1_s ?_ | refine drew_a fun w1 H1 => ?_ | refine st_a fun w1 H1 => ?_ | refine stA_a fun w1 H1 => ?_ | refine lenT_a ?_ | refine lenO_a ?_ | refine ixT_a ?_ | refine ixO_a ?_ | fail)
        exact hk2 (t + 1 - (i + 1)) _ _ _ _ _ _ _ (by omega) ⟨rfl, rfl, rfl, rfl, by assumption, .inl ⟨i + 1, rfl, rfl, by omega, rfl⟩⟩
    · have fin : ∀ {w}, Hp w0 w (cs1 ++ (⟨b, 32, [sb, se]⟩ :: L)) → F48_j4 (fun x w' => ∃ s cs, x = .returned s ∧ Hp w0 w' (cs ++ L) ∧ TS cU 3 s (chainP E base.length (fun v => gt d v - 1) k0 from_) cs) k sd (ptr b 0) s (I t) w := by
        intro w H
        unfold F48_j4
        refine app1_t (x := t) elU H hs spl rfl (by decide) (by omega) (by omega) fun w s2 cs2 H hs2 => ?_
        refine hk m _ _ _ _ _ (by omega) ⟨_, cs2, _, t, rfl, rfl, rfl, rfl, ht1, by omega, by simp; omega, ?_, hs2, H⟩
        rw [← hc, chainP, List.tail_cons, ht5, List.append_assoc, List.singleton_append, ← chain_ne]
      repeat (first | simp only [cI_enc, cE_enc, cN_enc, W0] | refine lss_a ?_ | refine lss_b ?_ | refine gtr_a ?_ | refine gtr_b ?_ | refine geq_a ?_ | refine geq_b ?_ | refine leq_a ?_ | refine leq_b ?_ | refine eql_a ?_ | refine eql_b ?_ | refine neq_a ?_ | refine neq_b ?_ | refine add_a ?_ | refine sub_a ?_ | refine ld_a ?_ | refine ldA_a ?_ | refine ldS_a ?_ | refine ldNS_a ?_ | refine rdA_s ?_ | refine rd1_s ?_ | refine drew_a fun w1 H1 => ?_ | refine st_a fun w1 H1 => ?_ | refine stA_a fun w1 H1 => ?_ | refine lenT_a ?_ | refine lenO_a ?_ | refine ixT_a ?_ | refine ixO_a ?_ | fail)
      refine lss_k (fun hg => ?_) (fun hg => ?_)
      · repeat (first | simp only [cI_enc, cE_enc, cN_enc, W0] | refine lss_a ?_ | refine lss_b ?_ | refine gtr_a ?_ | refine gtr_b ?_ | refine geq_a ?_ | refine geq_b ?_ | refine leq_a ?_ | refine leq_b ?_ | refine eql_a ?_ | refine eql_b ?_ | refine neq_a ?_ | refine neq_b ?_ | refine add_a ?_ | refine sub_a ?_ | refine ld_a ?_ | refine ldA_a ?_ | refine ldS_a ?_ | refine ldNS_a ?_ | refine rdA_s ?_ | refine rd1_s ?_ | refine drew_a fun w1 H1 => ?_ | refine st_a fun w1 H1 => ?_ | refine stA_a fun w1 H1 => ?_ | refine lenT_a ?_ | refine lenO_a ?_ | refine ixT_a ?_ | refine ixO_a ?_ | fail)
        exact fin (by assumption)
      · repeat (first | simp only [cI_enc, cE_enc, cN_enc, W0] | refine lss_a ?_ | refine lss_b ?_ | refine gtr_a ?_ | refine gtr_b ?_ | refine geq_a ?_ | refine geq_b ?_ | refine leq_a ?_ | refine leq_b ?_ | refine eql_a ?_ | refine eql_b ?_ | refine neq_a ?_ | refine neq_b ?_ | refine add_a ?_ | refine sub_a ?_ | refine ld_a ?_ | refine ldA_a ?_ | refine ldS_a ?_ | refine ldNS_a ?_ | refine rdA_s ?_ | refine rd1_s ?_ | refine drew_a fun w1 H1 => ?_ | refine st_a fun w1 H1 => ?_ | refine stA_a fun w1 H1 => ?_ | refine lenT_a ?_ | refine lenO_a ?_ | refine ixT_a ?_ | refine ixO_a ?_ | fail)
        exact fin (by assumption)
end
end Go.Proofs.Ytagcifbfokneoaa.Den
end

section
set_option linter.unusedVariables false
set_option linter.unusedSimpArgs false
set_option maxRecDepth 8000
namespace Go.Proofs.Ytagcifbfokneoaa.Den
open Go Go.RowKit
/-- What Reason returns. -/
def ReasonQ (base : List Int) (es : List (Int × Int)) (t : Int) (w0 : World) (L : List Chunk) : ER := fun x w' =>
  (chk base es ≠ 0 ∧ x = .returned (.tuple ⟨[.slice none 0 0, I (chk base es)]⟩) ∧ Hp w0 w' L) ∨
  (chk base es = 0 ∧ inR base.length t = false ∧ x = .returned (.tuple ⟨[.slice none 0 0, I 34]⟩) ∧ Hp w0 w' L) ∨
  (chk base es = 0 ∧ ∃ n : Nat, t = n ∧ n < base.length ∧ ∃ s cs out b, x = .returned (.tuple ⟨[s, I 0]⟩) ∧ Hp w0 w' (cs ++ L) ∧ IsEff base (es.map toN) out ∧ IsD (es.map toN) base.length n (dst (es.map toN) n) ∧ Best (dst (es.map toN) n) (fun u => gt base u = gt out n) base.length b ∧
    TS cU 3 s (chainP (es.map toN) base.length (dst (es.map toN) n) (dst (es.map toN) n b).toNat b) cs)
section
variable {w w' w0 : World} {L L' F cs cs2 cs3 : List Chunk} {s s2 sb se sd : Value} {K : VK} {R : ER} {base d : List Int} {es : List (Int × Int)} {E : List (Nat × Nat)} {n : Nat}
theorem IsD.val_le {f : Nat → Int} {to v : Nat} (hf : IsD E n to f) (hV : Valid E n) (hv : v < n) : f v ≤ n := by
  by_cases h0 : 0 ≤ f v
  · have hs : ∀ v, v < n → 2 ≤ f v + 1 → ∃ u, u < n ∧ f u + 1 = f v + 1 - 1 := by
      intro v hv h
      obtain ⟨t, h1, h2, _⟩ := hf.least hV hv (k := (f v - 1).toNat) (by omega)
      exact ⟨t, h1, by omega⟩
    obtain ⟨l, h1, h2, h3, _⟩ := level_le (d := fun v => f v + 1) hs (f v).toNat v hv (by show f v + 1 = _; omega)
    have := nodup_lt n l h2 h3
    omega
  · omega
theorem rReason_spec {t : Int} (h1 : TR cI w0 cs sb base) (h2 : TR cE w0 cs2 se es) (H : Hp w0 w L) (m1 : ∀ c ∈ cs, c ∈ L) (m2 : ∀ c ∈ cs2, c ∈ L) :
    Calls Pg 20 ⟨[.agg ⟨[sb, se]⟩, I t]⟩ w (ReasonQ base es t w0 L) := by
  apply F20_calls
  unfold F20
  refine bx_m H fun w b H => ?_
  repeat (first | simp only [cI_enc, cE_enc, cN_enc, W0] | refine lss_a ?_ | refine lss_b ?_ | refine gtr_a ?_ | refine gtr_b ?_ | refine geq_a ?_ | refine geq_b ?_ | refine leq_a ?_ | refine leq_b ?_ | refine eql_a ?_ | refine eql_b ?_ | refine neq_a ?_ | refine neq_b ?_ | refine add_a ?_ | refine sub_a ?_ | refine ld_a ?_ | refine ldA_a ?_ | refine ldS_a ?_ | refine ldNS_a ?_ | refine rdA_s ?_ | refine rd1_s ?_ | refine drew_a fun w1 H1 => ?_ | refine st_a fun w1 H1 => ?_ | refine stA_a fun w1 H1 => ?_ | refine lenT_a ?_ | refine lenO_a ?_ | refine ixT_a ?_ | refine ixO_a ?_ | fail)
  refine cal_h (rCheck_spec h1 h2 H (by intro c hc; simp [m1 c hc]) (by intro c hc; simp [m2 c hc])) ?_
  rintro _ w ⟨rfl, H⟩
  simp only [ret_k]
  refine neq_k (fun h => ?_) (fun h => ?_)
  · repeat (first | simp only [cI_enc, cE_enc, cN_enc, W0] | refine lss_a ?_ | refine lss_b ?_ | refine gtr_a ?_ | refine gtr_b ?_ | refine geq_a ?_ | refine geq_b ?_ | refine leq_a ?_ | refine leq_b ?_ | refine eql_a ?_ | refine eql_b ?_ | refine neq_a ?_ | refine neq_b ?_ | refine add_a ?_ | refine sub_a ?_ | refine ld_a ?_ | refine ldA_a ?_ | refine ldS_a ?_ | refine ldNS_a ?_ | refine rdA_s ?_ | refine rd1_s ?_ | refine drew_a fun w1 H1 => ?_ | refine st_a fun w1 H1 => ?_ | refine stA_a fun w1 H1 => ?_ | refine lenT_a ?_ | refine lenO_a ?_ | refine ixT_a ?_ | refine ixO_a ?_ | fail)
    exact .inl ⟨h, (by first | rfl | trivial), H.tail⟩
  repeat (first | simp only [cI_enc, cE_enc, cN_enc, W0] | refine lss_a ?_ | refine lss_b ?_ | refine gtr_a ?_ | refine gtr_b ?_ | refine geq_a ?_ | refine geq_b ?_ | refine leq_a ?_ | refine leq_b ?_ | refine eql_a ?_ | refine eql_b ?_ | refine neq_a ?_ | refine neq_b ?_ | refine add_a ?_ | refine sub_a ?_ | refine ld_a ?_ | refine ldA_a ?_ | refine ldS_a ?_ | refine ldNS_a ?_ | refine rdA_s ?_ | refine rd1_s ?_ | refine drew_a fun w1 H1 => ?_ | refine st_a fun w1 H1 => ?_ | refine stA_a fun w1 H1 => ?_ | refine lenT_a ?_ | refine lenO_a ?_ | refine ixT_a ?_ | refine ixO_a ?_ | fail)
  obtain ⟨c1, c2, c3, c4, c5, c6⟩ := chk_ok h
  have h2' := h2
  rw [c4] at h2'
  have h2' := toCN h2'
  have hel : (es.map toN).length ≤ 4000 := by simp; omega
  refine cal_h (thread_spec h1 h2.sc H) ?_
  rintro _ w ⟨rfl, H⟩
  cases hin : inR base.length t with
  | false =>
    repeat (first | simp only [cI_enc, cE_enc, cN_enc, W0] | refine lss_a ?_ | refine lss_b ?_ | refine gtr_a ?_ | refine gtr_b ?_ | refine geq_a ?_ | refine geq_b ?_ | refine leq_a ?_ | refine leq_b ?_ | refine eql_a ?_ | refine eql_b ?_ | refine neq_a ?_ | refine neq_b ?_ | refine add_a ?_ | refine sub_a ?_ | refine ld_a ?_ | refine ldA_a ?_ | refine ldS_a ?_ | refine ldNS_a ?_ | refine rdA_s ?_ | refine rd1_s ?_ | refine drew_a fun w1 H1 => ?_ | refine st_a fun w1 H1 => ?_ | refine stA_a fun w1 H1 => ?_ | refine lenT_a ?_ | refine lenO_a ?_ | refine ixT_a ?_ | refine ixO_a ?_ | fail)
    exact .inr (.inl ⟨h, hin, (by first | rfl | trivial), H.tail⟩)
  | true =>
    have hin' := of_decide_eq_true hin
    obtain ⟨n, rfl⟩ : ∃ n : Nat, t = n := ⟨t.toNat, by omega⟩
    have hn : n < base.length := by omega
    repeat (first | simp only [cI_enc, cE_enc, cN_enc, W0] | refine lss_a ?_ | refine lss_b ?_ | refine gtr_a ?_ | refine gtr_b ?_ | refine geq_a ?_ | refine geq_b ?_ | refine leq_a ?_ | refine leq_b ?_ | refine eql_a ?_ | refine eql_b ?_ | refine neq_a ?_ | refine neq_b ?_ | refine add_a ?_ | refine sub_a ?_ | refine ld_a ?_ | refine ldA_a ?_ | refine ldS_a ?_ | refine ldNS_a ?_ | refine rdA_s ?_ | refine rd1_s ?_ | refine drew_a fun w1 H1 => ?_ | refine st_a fun w1 H1 => ?_ | refine stA_a fun w1 H1 => ?_ | refine lenT_a ?_ | refine lenO_a ?_ | refine ixT_a ?_ | refine ixO_a ?_ | fail)
    refine cal_h (Values_spec h1 h2' H (by intro c hc; simp [m1 c hc]) (by intro c hc; simp [m2 c hc]) c3 c5 c1 hel) ?_
    rintro _ w ⟨so, cso, out, rfl, H, hso, ho⟩
    have hxn : out[n]? = some (gt out n) := gt_some (by rw [ho.len]; exact hn)
    repeat (first | simp only [cI_enc, cE_enc, cN_enc, W0] | refine lss_a ?_ | refine lss_b ?_ | refine gtr_a ?_ | refine gtr_b ?_ | refine geq_a ?_ | refine geq_b ?_ | refine leq_a ?_ | refine leq_b ?_ | refine eql_a ?_ | refine eql_b ?_ | refine neq_a ?_ | refine neq_b ?_ | refine add_a ?_ | refine sub_a ?_ | refine ld_a ?_ | refine ldA_a ?_ | refine ldS_a ?_ | refine ldNS_a ?_ | refine rdA_s ?_ | refine rd1_s ?_ | refine drew_a fun w1 H1 => ?_ | refine st_a fun w1 H1 => ?_ | refine stA_a fun w1 H1 => ?_ | refine lenT_a ?_ | refine lenO_a ?_ | refine ixT_a ?_ | refine ixO_a ?_ | fail)
    refine cal_h (rdist_spec (to := n) h1 h2' (by assumption) (by intro c hc; simp [m1 c hc]) (by intro c hc; simp [m2 c hc]) c5 c1 hel hn) ?_
    rintro _ w ⟨sd, csd, d, rfl, H, hsd, hdl, hD⟩
    simp only [ret_k]
    have hE : ∀ u, u < base.length → gt d u - 1 = dst (es.map toN) n u := fun u hu => hD.eq hu
    unfold F20_j4 F20_j5
    refine loop5 (F20_l1_succ _) (fun m x2 x7 x8 x9 x10 w => ∃ i : Nat, x2 = ptr b 0 ∧ x7 = I (gt out n) ∧ x8 = sd ∧ x10 = I i ∧ m + i = base.length ∧ Hp w0 w (csd ++ (cso ++ (⟨b, 32, [sb, se]⟩ :: L))) ∧
        ((x9 = I (-1) ∧ ∀ u, u < i → 0 ≤ gt d u - 1 → ¬ gt base u = gt out n) ∨ ∃ bb : Nat, x9 = I bb ∧ Best (fun u => gt d u - 1) (fun u => gt base u = gt out n) i bb)) ?_ (m := base.length)
      ⟨0, rfl, rfl, rfl, rfl, rfl, H, .inl ⟨rfl, by intro u hu; omega⟩⟩
    clear H
    rintro m k _ _ sd x9 _ w ⟨i, rfl, rfl, rfl, rfl, hm, H, hb⟩ hk
    unfold F20_b1
    repeat (first | simp only [cI_enc, cE_enc, cN_enc, W0] | refine lss_a ?_ | refine lss_b ?_ | refine gtr_a ?_ | refine gtr_b ?_ | refine geq_a ?_ | refine geq_b ?_ | refine leq_a ?_ | refine leq_b ?_ | refine eql_a ?_ | refine eql_b ?_ | refine neq_a ?_ | refine neq_b ?_ | refine add_a ?_ | refine sub_a ?_ | refine ld_a ?_ | refine ldA_a ?_ | refine ldS_a ?_ | refine ldNS_a ?_ | refine rdA_s ?_ | refine rd1_s ?_ | refine drew_a fun w1 H1 => ?_ | refine st_a fun w1 H1 => ?_ | refine stA_a fun w1 H1 => ?_ | refine lenT_a ?_ | refine lenO_a ?_ | refine ixT_a ?_ | refine ixO_a ?_ | fail)
    refine lss_k (fun hi => ?_) (fun hi => ?_)
    · have hxd : d[i]? = some (gt d i) := gt_some (by omega)
      have hxb : base[i]? = some (gt base i) := gt_some (by omega)
      repeat (first | simp only [cI_enc, cE_enc, cN_enc, W0] | refine lss_a ?_ | refine lss_b ?_ | refine gtr_a ?_ | refine gtr_b ?_ | refine geq_a ?_ | refine geq_b ?_ | refine leq_a ?_ | refine leq_b ?_ | refine eql_a ?_ | refine eql_b ?_ | refine neq_a ?_ | refine neq_b ?_ | refine add_a ?_ | refine sub_a ?_ | refine ld_a ?_ | refine ldA_a ?_ | refine ldS_a ?_ | refine ldNS_a ?_ | refine rdA_s ?_ | refine rd1_s ?_ | refine drew_a fun w1 H1 => ?_ | refine st_a fun w1 H1 => ?_ | refine stA_a fun w1 H1 => ?_ | refine lenT_a ?_ | refine lenO_a ?_ | refine ixT_a ?_ | refine ixO_a ?_ | fail)
      have no : ∀ {w}, Hp w0 w (csd ++ (cso ++ (⟨b, 32, [sb, se]⟩ :: L))) → (0 ≤ gt d i - 1 → gt base i = gt out n → ∃ bb : Nat, x9 = I bb ∧ gt d bb ≤ gt d i) → k (ptr b 0) (I (gt out n)) sd x9 (I ((i : Int) + 1)) w := by
        intro w H hno
        refine hk (m - 1) _ _ _ _ _ _ (by omega) ⟨i + 1, rfl, rfl, rfl, rfl, by omega, H, ?_⟩
        rcases hb with ⟨rfl, hb⟩ | ⟨bb, rfl, hb⟩
        · refine .inl ⟨rfl, none_keep (f := fun u => gt d u - 1) hb fun g1 g2 => ?_⟩
          obtain ⟨bb, e, _⟩ := hno g1 g2
          have e : (-1 : Int) = bb := by injection e
          omega
        · refine .inr ⟨bb, rfl, hb.keep fun g1 g2 => ?_⟩
          obtain ⟨b', e, hle⟩ := hno g1 g2
          have e : (bb : Int) = b' := by injection e
          obtain rfl : bb = b' := by omega
          show gt d bb - 1 ≤ gt d i - 1
          omega
      have yes : ∀ {w}, Hp w0 w (csd ++ (cso ++ (⟨b, 32, [sb, se]⟩ :: L))) → Best (fun u => gt d u - 1) (fun u => gt base u = gt out n) (i + 1) i → k (ptr b 0) (I (gt out n)) sd (I i) (I ((i : Int) + 1)) w := by
        intro w H hy
        exact hk (m - 1) _ _ _ _ _ _ (by omega) ⟨i + 1, rfl, rfl, rfl, rfl, by omega, H, .inr ⟨i, rfl, hy⟩⟩
      refine gtr_k (fun hg => ?_) (fun hg => ?_)
      · repeat (first | simp only [cI_enc, cE_enc, cN_enc, W0] | refine lss_a ?_ | refine lss_b ?_ | refine gtr_a ?_ | refine gtr_b ?_ | refine geq_a ?_ | refine geq_b ?_ | refine leq_a ?_ | refine leq_b ?_ | refine eql_a ?_ | refine eql_b ?_ | refine neq_a ?_ | refine neq_b ?_ | refine add_a ?_ | refine sub_a ?_ | refine ld_a ?_ | refine ldA_a ?_ | refine ldS_a ?_ | refine ldNS_a ?_ | refine rdA_s ?_ | refine rd1_s ?_ | refine drew_a fun w1 H1 => ?_ | refine st_a fun w1 H1 => ?_ | refine stA_a fun w1 H1 => ?_ | refine lenT_a ?_ | refine lenO_a ?_ | refine ixT_a ?_ | refine ixO_a ?_ | fail)
        refine eql_k (fun he => ?_) (fun he => ?_)
        · rcases hb with ⟨rfl, hb⟩ | ⟨bb, rfl, hb⟩
          · repeat (first | simp only [cI_enc, cE_enc, cN_enc, W0] | refine lss_a ?_ | refine lss_b ?_ | refine gtr_a ?_ | refine gtr_b ?_ | refine geq_a ?_ | refine geq_b ?_ | refine leq_a ?_ | refine leq_b ?_ | refine eql_a ?_ | refine eql_b ?_ | refine neq_a ?_ | refine neq_b ?_ | refine add_a ?_ | refine sub_a ?_ | refine ld_a ?_ | refine ldA_a ?_ | refine ldS_a ?_ | refine ldNS_a ?_ | refine rdA_s ?_ | refine rd1_s ?_ | refine drew_a fun w1 H1 => ?_ | refine st_a fun w1 H1 => ?_ | refine stA_a fun w1 H1 => ?_ | refine lenT_a ?_ | refine lenO_a ?_ | refine ixT_a ?_ | refine ixO_a ?_ | fail)
            exact yes (by assumption) (Best.take (by show 0 ≤ gt d i - 1; omega) he fun u hu g1 g2 => absurd g2 (hb u hu g1))
          · have hxbb : d[bb]? = some (gt d bb) := gt_some (by have := hb.lt; omega)
            repeat (first | simp only [cI_enc, cE_enc, cN_enc, W0] | refine lss_a ?_ | refine lss_b ?_ | refine gtr_a ?_ | refine gtr_b ?_ | refine geq_a ?_ | refine geq_b ?_ | refine leq_a ?_ | refine leq_b ?_ | refine eql_a ?_ | refine eql_b ?_ | refine neq_a ?_ | refine neq_b ?_ | refine add_a ?_ | refine sub_a ?_ | refine ld_a ?_ | refine ldA_a ?_ | refine ldS_a ?_ | refine ldNS_a ?_ | refine rdA_s ?_ | refine rd1_s ?_ | refine drew_a fun w1 H1 => ?_ | refine st_a fun w1 H1 => ?_ | refine stA_a fun w1 H1 => ?_ | refine lenT_a ?_ | refine lenO_a ?_ | refine ixT_a ?_ | refine ixO_a ?_ | fail)
            refine lss_k (fun hl => ?_) (fun hl => ?_)
            · repeat (first | simp only [cI_enc, cE_enc, cN_enc, W0] | refine lss_a ?_ | refine lss_b ?_ | refine gtr_a ?_ | refine gtr_b ?_ | refine geq_a ?_ | refine geq_b ?_ | refine leq_a ?_ | refine leq_b ?_ | refine eql_a ?_ | refine eql_b ?_ | refine neq_a ?_ | refine neq_b ?_ | refine add_a ?_ | refine sub_a ?_ | refine ld_a ?_ | refine ldA_a ?_ | refine ldS_a ?_ | refine ldNS_a ?_ | refine rdA_s ?_ | refine rd1_s ?_ | refine drew_a fun w1 H1 => ?_ | refine st_a fun w1 H1 => ?_ | refine stA_a fun w1 H1 => ?_ | refine lenT_a ?_ | refine lenO_a ?_ | refine ixT_a ?_ | refine ixO_a ?_ | fail)
              exact yes (by assumption) (Best.take (by show 0 ≤ gt d i - 1; omega) he fun u hu g1 g2 => by have := hb.min u hu g1 g2; show gt d i - 1 < gt d u - 1; omega)
            · repeat (first | simp only [cI_enc, cE_enc, cN_enc, W0] | refine lss_a ?_ | refine lss_b ?_ | refine gtr_a ?_ | refine gtr_b ?_ | refine geq_a ?_ | refine geq_b ?_ | refine leq_a ?_ | refine leq_b ?_ | refine eql_a ?_ | refine eql_b ?_ | refine neq_a ?_ | refine neq_b ?_ | refine add_a ?_ | refine sub_a ?_ | refine ld_a ?_ | refine ldA_a ?_ | refine ldS_a ?_ | refine ldNS_a ?_ | refine rdA_s ?_ | refine rd1_s ?_ | refine drew_a fun w1 H1 => ?_ | refine st_a fun w1 H1 => ?_ | refine stA_a fun w1 H1 => ?_ | refine lenT_a ?_ | refine lenO_a ?_ | refine ixT_a ?_ | refine ixO_a ?_ | fail)
              exact no (by assumption) fun _ _ => ⟨bb, rfl, by omega⟩
        · repeat (first | simp only [cI_enc, cE_enc, cN_enc, W0] | refine lss_a ?_ | refine lss_b ?_ | refine gtr_a ?_ | refine gtr_b ?_ | refine geq_a ?_ | refine geq_b ?_ | refine leq_a ?_ | refine leq_b ?_ | refine eql_a ?_ | refine eql_b ?_ | refine neq_a ?_ | refine neq_b ?_ | refine add_a ?_ | refine sub_a ?_ | refine ld_a ?_ | refine ldA_a ?_ | refine ldS_a ?_ | refine ldNS_a ?_ | refine rdA_s ?_ | refine rd1_s ?_ | refine drew_a fun w1 H1 => ?_ | refine st_a fun w1 H1 => ?_ | refine stA_a fun w1 H1 => ?_ | refine lenT_a ?_ | refine lenO_a ?_ | refine ixT_a ?_ | refine ixO_a ?_ | fail)
          exact no (by assumption) fun _ h => absurd h he
      · repeat (first | simp only [cI_enc, cE_enc, cN_enc, W0] | refine lss_a ?_ | refine lss_b ?_ | refine gtr_a ?_ | refine gtr_b ?_ | refine geq_a ?_ | refine geq_b ?_ | refine leq_a ?_ | refine leq_b ?_ | refine eql_a ?_ | refine eql_b ?_ | refine neq_a ?_ | refine neq_b ?_ | refine add_a ?_ | refine sub_a ?_ | refine ld_a ?_ | refine ldA_a ?_ | refine ldS_a ?_ | refine ldNS_a ?_ | refine rdA_s ?_ | refine rd1_s ?_ | refine drew_a fun w1 H1 => ?_ | refine st_a fun w1 H1 => ?_ | refine stA_a fun w1 H1 => ?_ | refine lenT_a ?_ | refine lenO_a ?_ | refine ixT_a ?_ | refine ixO_a ?_ | fail)
        exact no (by assumption) fun h => by omega
    · repeat (first | simp only [cI_enc, cE_enc, cN_enc, W0] | refine lss_a ?_ | refine lss_b ?_ | refine gtr_a ?_ | refine gtr_b ?_ | refine geq_a ?_ | refine geq_b ?_ | refine leq_a ?_ | refine leq_b ?_ | refine eql_a ?_ | refine eql_b ?_ | refine neq_a ?_ | refine neq_b ?_ | refine add_a ?_ | refine sub_a ?_ | refine ld_a ?_ | refine ldA_a ?_ | refine ldS_a ?_ | refine ldNS_a ?_ | refine rdA_s ?_ | refine rd1_s ?_ | refine drew_a fun w1 H1 => ?_ | refine st_a fun w1 H1 => ?_ | refine stA_a fun w1 H1 => ?_ | refine lenT_a ?_ | refine lenO_a ?_ | refine ixT_a ?_ | refine ixO_a ?_ | fail)
      obtain rfl : i = base.length := by omega
      obtain ⟨j, hj, hr, ej⟩ := ho.why n hn
      obtain ⟨kk, pk⟩ := hr.path
      have hdj := (hD.le j hj kk pk).1
      rcases hb with ⟨rfl, hb⟩ | ⟨bb, rfl, hb⟩
      · exact absurd ej.symm (hb j hj hdj)
      · have hbl := hb.lt
        have hle : gt d bb - 1 ≤ base.length := hD.val_le c5 hbl
        have hnn : 0 ≤ gt d bb - 1 := hb.nn
        refine cal_h (chain_spec (from_ := bb) (to := n) (k0 := (gt d bb - 1).toNat) h1 h2' (TS.tr hsd) H (by intro c hc; simp [m1 c hc]) (by intro c hc; simp [m2 c hc]) (by intro c hc; simp [hc]) c5 c1 hel hbl hdl hD (by omega) (by omega)) ?_
        rintro _ w ⟨s, cs, rfl, H, hs⟩
        simp only [ret_k]
        refine .inr (.inr ⟨h, n, rfl, hn, s, cs, out, bb, (by first | rfl | trivial), H.re, ho, hD.dst, hb.congr fun u hu => hE u hu, ?_⟩)
        rw [← hE bb hbl, ← chainP_congr hE]
        exact hs
end
end Go.Proofs.Ytagcifbfokneoaa.Den
end
