/- Channels: owned, free, Clone, Answer. Conditions: none. -/
import Derived.Test.YtmkcjopacmadhaaGreatChL
set_option linter.unusedVariables false
set_option linter.unusedSimpArgs false
set_option maxRecDepth 8000
set_option maxHeartbeats 2000000
namespace Go.Proofs.YtmkcjopacmadhaaGreat.Den
open Go Go.RowKit
theorem elB : ElT 30 5 cB.sz 1 [U8 0] := ⟨by kernel_rfl, by kernel_rfl, rfl⟩
section
variable {w w' w0 : World} {L L' F cs cs2 cs3 A : List Chunk} {s s2 : Value} {K : VK} {R : ER} {tb n b : Nat} {T : Tbl} {pri th code val p id : Int} {c : Chunk}
theorem freeC_spec {f : Int → Option Nat} (h : MapAt kI vO b (obj f) n c) (hn : n < 2 ^ 60) (H : Hp w0 w L) (hc : c ∈ L) :
    Calls Pg 75 ⟨[.map (some b)]⟩ w fun x w' => ∃ m : Nat, x = .returned (I (m : Int)) ∧ Hp w0 w' L ∧ m ≤ n ∧ f (m : Int) = none ∧ ∀ j : Nat, j < m → f (j : Int) ≠ none := by
  have hq : ∀ k, obj f k = none ↔ f k = none := fun k => by unfold obj; cases f k <;> simp
  obtain ⟨m, h1, h2, h3⟩ := h.free (key := kI)
  apply F75_calls
  unfold F75 F75_j1
  refine loop2 (F75_l1_succ _) (fun d x0 x3 w => ∃ i : Nat, x0 = .map (some b) ∧ x3 = I (i : Int) ∧ d + i = m ∧ Hp w0 w L) ?_ (m := m) ⟨0, rfl, rfl, by omega, H⟩
  clear H
  rintro d k x0 x3 w ⟨i, rfl, rfl, hd, H⟩ hk
  unfold F75_b1
  refine mapGet2 mapsH.ch (i : Int) h H hc ?_
  cases hf : f (i : Int) with
  | none =>
    simp only [obj, hf, Option.map_none, Option.isSome_none, Option.getD_none]
    repeat (first | simp only [W0] | refine lss_a ?_ | refine lss_b ?_ | refine gtr_a ?_ | refine gtr_b ?_ | refine geq_a ?_ | refine geq_b ?_ | refine leq_a ?_ | refine leq_b ?_ | refine eql_a ?_ | refine eql_b ?_ | refine neq_a ?_ | refine neq_b ?_ | refine add_a ?_ | refine sub_a ?_ | refine ld_a ?_ | refine ldA_a ?_ | refine ldS_a ?_ | refine ldNS_a ?_ | refine rdA_s ?_ | refine rd1_s ?_ | refine drew_a fun w1 H1 => ?_ | refine st_a fun w1 H1 => ?_ | refine stA_a fun w1 H1 => ?_ | refine lenT_a ?_ | refine lenO_a ?_ | refine ixT_a ?_ | refine ixO_a ?_ | refine bld_a ?_ | refine min_a ?_ | refine max_a ?_ | fail)
    exact ⟨i, (by first | rfl | trivial), H, by omega, hf, fun j hj => fun hj' => h3 j (by omega) ((hq _).2 hj')⟩
  | some r =>
    have hne : i ≠ m := by
      rintro rfl
      have := (hq _).1 h2
      rw [hf] at this; cases this
    simp only [obj, hf, Option.map_some, Option.isSome_some, Option.getD_some]
    simp only [W0]
    refine add_k (z := ((i + 1 : Nat) : Int)) (by omega) (by omega) (by omega) ?_
    exact hk (d - 1) _ _ _ (by omega) ⟨i + 1, rfl, rfl, by omega, H⟩
theorem freeX_spec {f : Int → Option Nat} (h : MapAt kI vO b (obj f) n c) (hn : n < 2 ^ 60) (H : Hp w0 w L) (hc : c ∈ L) :
    Calls Pg 76 ⟨[.map (some b)]⟩ w fun x w' => ∃ m : Nat, x = .returned (I (m : Int)) ∧ Hp w0 w' L ∧ m ≤ n ∧ f (m : Int) = none ∧ ∀ j : Nat, j < m → f (j : Int) ≠ none := by
  have hq : ∀ k, obj f k = none ↔ f k = none := fun k => by unfold obj; cases f k <;> simp
  obtain ⟨m, h1, h2, h3⟩ := h.free (key := kI)
  apply F76_calls
  unfold F76 F76_j1
  refine loop2 (F76_l1_succ _) (fun d x0 x3 w => ∃ i : Nat, x0 = .map (some b) ∧ x3 = I (i : Int) ∧ d + i = m ∧ Hp w0 w L) ?_ (m := m) ⟨0, rfl, rfl, by omega, H⟩
  clear H
  rintro d k x0 x3 w ⟨i, rfl, rfl, hd, H⟩ hk
  unfold F76_b1
  refine mapGet2 mapsH.sd (i : Int) h H hc ?_
  cases hf : f (i : Int) with
  | none =>
    simp only [obj, hf, Option.map_none, Option.isSome_none, Option.getD_none]
    repeat (first | simp only [W0] | refine lss_a ?_ | refine lss_b ?_ | refine gtr_a ?_ | refine gtr_b ?_ | refine geq_a ?_ | refine geq_b ?_ | refine leq_a ?_ | refine leq_b ?_ | refine eql_a ?_ | refine eql_b ?_ | refine neq_a ?_ | refine neq_b ?_ | refine add_a ?_ | refine sub_a ?_ | refine ld_a ?_ | refine ldA_a ?_ | refine ldS_a ?_ | refine ldNS_a ?_ | refine rdA_s ?_ | refine rd1_s ?_ | refine drew_a fun w1 H1 => ?_ | refine st_a fun w1 H1 => ?_ | refine stA_a fun w1 H1 => ?_ | refine lenT_a ?_ | refine lenO_a ?_ | refine ixT_a ?_ | refine ixO_a ?_ | refine bld_a ?_ | refine min_a ?_ | refine max_a ?_ | fail)
    exact ⟨i, (by first | rfl | trivial), H, by omega, hf, fun j hj => fun hj' => h3 j (by omega) ((hq _).2 hj')⟩
  | some r =>
    have hne : i ≠ m := by
      rintro rfl
      have := (hq _).1 h2
      rw [hf] at this; cases this
    simp only [obj, hf, Option.map_some, Option.isSome_some, Option.getD_some]
    simp only [W0]
    refine add_k (z := ((i + 1 : Nat) : Int)) (by omega) (by omega) (by omega) ?_
    exact hk (d - 1) _ _ _ (by omega) ⟨i + 1, rfl, rfl, by omega, H⟩
theorem cloneB_spec {xs : List Int} (h : TR cB w0 cs s xs) (H : Hp w0 w L) (m1 : ∀ c ∈ cs, c ∈ L) (hl : xs.length ≤ 2 ^ 47 - 4096) :
    Calls Pg 32 ⟨[s]⟩ w fun e w' => ∃ s' cs', e = .returned s' ∧ Hp w0 w' (cs' ++ L) ∧ TS cB 5 s' xs cs' := by
  apply F32_calls
  unfold F32
  obtain ⟨⟨a, k, cc⟩, rfl⟩ := h.sh
  cases a with
  | none =>
    have : xs = [] := by
      have hd := (h.rd H m1)
      have hlen := hd.length
      rcases hd with ⟨c, he, h0, _⟩ | ⟨a, c, he, _⟩
      · have : xs.length = 0 := by
          rcases Nat.mul_eq_zero.1 h0 with h | h
          · exact h
          · simp [cB] at h
        exact List.length_eq_zero_iff.1 this
      · simp [Sh.val] at he
    subst this
    simp only [Sh.val]
    repeat (first | simp only [W0] | refine lss_a ?_ | refine lss_b ?_ | refine gtr_a ?_ | refine gtr_b ?_ | refine geq_a ?_ | refine geq_b ?_ | refine leq_a ?_ | refine leq_b ?_ | refine eql_a ?_ | refine eql_b ?_ | refine neq_a ?_ | refine neq_b ?_ | refine add_a ?_ | refine sub_a ?_ | refine ld_a ?_ | refine ldA_a ?_ | refine ldS_a ?_ | refine ldNS_a ?_ | refine rdA_s ?_ | refine rd1_s ?_ | refine drew_a fun w1 H1 => ?_ | refine st_a fun w1 H1 => ?_ | refine stA_a fun w1 H1 => ?_ | refine lenT_a ?_ | refine lenO_a ?_ | refine ixT_a ?_ | refine ixO_a ?_ | refine bld_a ?_ | refine min_a ?_ | refine max_a ?_ | fail)
    exact ⟨_, [], rfl, by simpa using H, TS.nil⟩
  | some a =>
    simp only [Sh.val] at h ⊢
    repeat (first | simp only [W0] | refine lss_a ?_ | refine lss_b ?_ | refine gtr_a ?_ | refine gtr_b ?_ | refine geq_a ?_ | refine geq_b ?_ | refine leq_a ?_ | refine leq_b ?_ | refine eql_a ?_ | refine eql_b ?_ | refine neq_a ?_ | refine neq_b ?_ | refine add_a ?_ | refine sub_a ?_ | refine ld_a ?_ | refine ldA_a ?_ | refine ldS_a ?_ | refine ldNS_a ?_ | refine rdA_s ?_ | refine rd1_s ?_ | refine drew_a fun w1 H1 => ?_ | refine st_a fun w1 H1 => ?_ | refine stA_a fun w1 H1 => ?_ | refine lenT_a ?_ | refine lenO_a ?_ | refine ixT_a ?_ | refine ixO_a ?_ | refine bld_a ?_ | refine min_a ?_ | refine max_a ?_ | fail)
    refine lit0_t (C := cB) elB H fun w s0 H h0 => ?_
    refine append_t (C := cB) (F := L) elB H h0 Split.nil h m1 (by simp; omega) (by simp; omega) fun w s' cs' H h' => ?_
    exact ⟨s', cs', rfl, H, by simpa using h'⟩
end
end Go.Proofs.YtmkcjopacmadhaaGreat.Den
