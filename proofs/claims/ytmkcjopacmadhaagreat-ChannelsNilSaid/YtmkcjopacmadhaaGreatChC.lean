/- Channels: the place in a sorted list, searched for. Conditions: none. -/
import Derived.Test.YtmkcjopacmadhaaGreatChB
set_option linter.unusedVariables false
set_option linter.unusedSimpArgs false
set_option maxRecDepth 8000
set_option maxHeartbeats 1000000
namespace Go.Proofs.YtmkcjopacmadhaaGreat.Den
open Go Go.RowKit
section
variable {w w' w0 : World} {L L' F cs cs2 cs3 : List Chunk} {s s2 : Value} {K : VK} {R : ER} {p q : Int} {g fb : Nat}
theorem bsE_spec {xs : List Ent} {cv : Ent → Int} {f : Nat} {cap : List Value} (h : TR cEn w0 cs s xs) (H : Hp w0 w L) (m1 : ∀ c ∈ cs, c ∈ L) (hl : xs.length < 2 ^ 61) (hok : enterOk Pg f = true)
    (hc : ∀ x ∈ xs, ∀ w c, Hp w0 w (c :: L) → Calls Pg f ⟨[] ++ [.agg ⟨x.cells⟩, .agg ⟨[I p, I q]⟩] ++ cap⟩ w fun e w' => e = .returned (I (cv x)) ∧ Hp w0 w' (c :: L))
    (hm : ∀ (i j : Nat) a b, i < j → xs[i]? = some a → xs[j]? = some b → cv b < 0 → cv a < 0) :
    Calls Pg 158 ⟨[s, .agg ⟨[I p, I q]⟩, .func (.func f) ⟨[]⟩ ⟨cap⟩]⟩ w fun e w' => ∃ (i : Nat) (fd : Bool), e = .returned (.tuple ⟨[I i, .bool fd]⟩) ∧ Hp w0 w' L ∧ i ≤ xs.length ∧
      (∀ (k : Nat) a, k < i → xs[k]? = some a → cv a < 0) ∧ (∀ (k : Nat) a, i ≤ k → xs[k]? = some a → 0 ≤ cv a) := by
  apply F158_calls
  unfold F158
  refine bx_m H fun w bo H => ?_
  repeat (first | simp only [W0] | refine lss_a ?_ | refine lss_b ?_ | refine gtr_a ?_ | refine gtr_b ?_ | refine geq_a ?_ | refine geq_b ?_ | refine leq_a ?_ | refine leq_b ?_ | refine eql_a ?_ | refine eql_b ?_ | refine neq_a ?_ | refine neq_b ?_ | refine add_a ?_ | refine sub_a ?_ | refine ld_a ?_ | refine ldA_a ?_ | refine ldS_a ?_ | refine ldNS_a ?_ | refine rdA_s ?_ | refine rd1_s ?_ | refine drew_a fun w1 H1 => ?_ | refine st_a fun w1 H1 => ?_ | refine stA_a fun w1 H1 => ?_ | refine lenT_a ?_ | refine lenO_a ?_ | refine ixT_a ?_ | refine ixO_a ?_ | refine bld_a ?_ | refine min_a ?_ | refine max_a ?_ | fail)
  unfold F158_j2
  refine loop6 (F158_l1_succ _) (fun m x0 x2 x4 x8 x9 x10 w => ∃ i j : Nat, x0 = s ∧ x2 = .func (.func f) ⟨[]⟩ ⟨cap⟩ ∧ x4 = ptr bo 0 ∧ x8 = I (xs.length : Int) ∧ x9 = I (i : Int) ∧ x10 = I (j : Int) ∧ m + i = j ∧ j ≤ xs.length ∧
      (∀ (k : Nat) a, k < i → xs[k]? = some a → cv a < 0) ∧ (∀ (k : Nat) a, j ≤ k → xs[k]? = some a → 0 ≤ cv a) ∧ Hp w0 w (⟨bo, 105, [I p, I q]⟩ :: L)) ?_ (m := xs.length)
    ⟨0, xs.length, rfl, rfl, rfl, rfl, rfl, rfl, by omega, Nat.le_refl _, by omega, fun k a hk ha => by have := (List.getElem?_eq_some_iff.1 ha).1; omega, by assumption⟩
  clear H
  rintro m k x0 x2 x4 x8 x9 x10 w ⟨i, j, rfl, rfl, rfl, rfl, rfl, rfl, hij, hj, hlo, hhi, H⟩ hk
  unfold F158_b1
  have m1' : ∀ c ∈ cs, c ∈ (⟨bo, 105, [I p, I q]⟩ :: L : List Chunk) := fun c hc => List.mem_cons_of_mem _ (m1 c hc)
  refine lss_k (fun hi => ?_) (fun hi => ?_)
  · simp only [W0]
    unfold F158_j3
    refine half_h (by omega) ?_
    have hlt : (i + j) / 2 < xs.length := by omega
    obtain ⟨x, hx⟩ : ∃ x, xs[(i + j) / 2]? = some x := ⟨_, List.getElem?_eq_getElem hlt⟩
    refine drew_k H fun w1 H1 => ?_
    refine ixN_t (C := cEn) h H1 m1' hx (by decide) ?_
    repeat (first | simp only [W0] | refine lss_a ?_ | refine lss_b ?_ | refine gtr_a ?_ | refine gtr_b ?_ | refine geq_a ?_ | refine geq_b ?_ | refine leq_a ?_ | refine leq_b ?_ | refine eql_a ?_ | refine eql_b ?_ | refine neq_a ?_ | refine neq_b ?_ | refine add_a ?_ | refine sub_a ?_ | refine ld_a ?_ | refine ldA_a ?_ | refine ldS_a ?_ | refine ldNS_a ?_ | refine rdA_s ?_ | refine rd1_s ?_ | refine drew_a fun w1 H1 => ?_ | refine st_a fun w1 H1 => ?_ | refine stA_a fun w1 H1 => ?_ | refine lenT_a ?_ | refine lenO_a ?_ | refine ixT_a ?_ | refine ixO_a ?_ | refine bld_a ?_ | refine min_a ?_ | refine max_a ?_ | fail)
    refine calD_k (a := []) hok ?_
    refine cal_h (hc x (List.mem_of_getElem? hx) w1 _ H1) ?_
    rintro _ w2 ⟨rfl, H2⟩
    simp only [ret_k]
    refine lss_k (fun hn => ?_) (fun hn => ?_)
    · simp only [W0]
      refine add_k (z := (((i + j) / 2 + 1 : Nat) : Int)) (by omega) (by omega) (by omega) ?_
      refine hk (j - ((i + j) / 2 + 1)) _ _ _ _ _ _ _ (by omega) ⟨(i + j) / 2 + 1, j, rfl, rfl, rfl, rfl, rfl, rfl, by omega, hj, fun k' a hk' ha => ?_, hhi, H2⟩
      rcases Nat.lt_or_ge k' ((i + j) / 2) with h1 | h1
      · exact hm k' _ a x h1 ha hx hn
      · obtain rfl : k' = (i + j) / 2 := by omega
        rw [hx] at ha; injection ha with ha; rw [← ha]; exact hn
    · simp only [W0]
      refine hk ((i + j) / 2 - i) _ _ _ _ _ _ _ (by omega) ⟨i, (i + j) / 2, rfl, rfl, rfl, rfl, rfl, rfl, by omega, by omega, hlo, fun k' a hk' ha => ?_, H2⟩
      rcases Nat.lt_or_ge ((i + j) / 2) k' with h1 | h1
      · have : ¬ cv a < 0 := fun h2 => hn (hm _ k' x a h1 hx ha h2)
        omega
      · obtain rfl : k' = (i + j) / 2 := by omega
        rw [hx] at ha; injection ha with ha; rw [← ha]; omega
  · simp only [W0]
    obtain rfl : i = j := by omega
    unfold F158_j1
    refine drew_k H fun w1 H1 => ?_
    refine lss_k (fun hi => ?_) (fun hi => ?_)
    · obtain ⟨x, hx⟩ : ∃ x, xs[i]? = some x := ⟨_, List.getElem?_eq_getElem (by omega)⟩
      simp only [W0]
      refine ixN_t (C := cEn) h H1 m1' hx (by decide) ?_
      repeat (first | simp only [W0] | refine lss_a ?_ | refine lss_b ?_ | refine gtr_a ?_ | refine gtr_b ?_ | refine geq_a ?_ | refine geq_b ?_ | refine leq_a ?_ | refine leq_b ?_ | refine eql_a ?_ | refine eql_b ?_ | refine neq_a ?_ | refine neq_b ?_ | refine add_a ?_ | refine sub_a ?_ | refine ld_a ?_ | refine ldA_a ?_ | refine ldS_a ?_ | refine ldNS_a ?_ | refine rdA_s ?_ | refine rd1_s ?_ | refine drew_a fun w1 H1 => ?_ | refine st_a fun w1 H1 => ?_ | refine stA_a fun w1 H1 => ?_ | refine lenT_a ?_ | refine lenO_a ?_ | refine ixT_a ?_ | refine ixO_a ?_ | refine bld_a ?_ | refine min_a ?_ | refine max_a ?_ | fail)
      refine calD_k (a := []) hok ?_
      refine cal_h (hc x (List.mem_of_getElem? hx) w1 _ H1) ?_
      rintro _ w2 ⟨rfl, H2⟩
      simp only [ret_k, bin_eql, W0]
      exact ⟨i, _, rfl, H2.tail, hj, hlo, hhi⟩
    · simp only [W0]
      exact ⟨i, _, rfl, H1.tail, hj, hlo, hhi⟩
end
section
variable {w w' w0 : World} {L L' F cs cs2 cs3 : List Chunk} {s s2 : Value} {K : VK} {R : ER} {p q : Int} {g fb : Nat}
theorem bsR_spec {xs : List Rcv} {cv : Rcv → Int} {f : Nat} {cap : List Value} (h : TR cRc w0 cs s xs) (H : Hp w0 w L) (m1 : ∀ c ∈ cs, c ∈ L) (hl : xs.length < 2 ^ 61) (hok : enterOk Pg f = true)
    (hc : ∀ x ∈ xs, ∀ w c, Hp w0 w (c :: L) → Calls Pg f ⟨[] ++ [.agg ⟨x.cells⟩, .agg ⟨[I p, I q]⟩] ++ cap⟩ w fun e w' => e = .returned (I (cv x)) ∧ Hp w0 w' (c :: L))
    (hm : ∀ (i j : Nat) a b, i < j → xs[i]? = some a → xs[j]? = some b → cv b < 0 → cv a < 0) :
    Calls Pg 132 ⟨[s, .agg ⟨[I p, I q]⟩, .func (.func f) ⟨[]⟩ ⟨cap⟩]⟩ w fun e w' => ∃ (i : Nat) (fd : Bool), e = .returned (.tuple ⟨[I i, .bool fd]⟩) ∧ Hp w0 w' L ∧ i ≤ xs.length ∧
      (∀ (k : Nat) a, k < i → xs[k]? = some a → cv a < 0) ∧ (∀ (k : Nat) a, i ≤ k → xs[k]? = some a → 0 ≤ cv a) := by
  apply F132_calls
  unfold F132
  refine bx_m H fun w bo H => ?_
  repeat (first | simp only [W0] | refine lss_a ?_ | refine lss_b ?_ | refine gtr_a ?_ | refine gtr_b ?_ | refine geq_a ?_ | refine geq_b ?_ | refine leq_a ?_ | refine leq_b ?_ | refine eql_a ?_ | refine eql_b ?_ | refine neq_a ?_ | refine neq_b ?_ | refine add_a ?_ | refine sub_a ?_ | refine ld_a ?_ | refine ldA_a ?_ | refine ldS_a ?_ | refine ldNS_a ?_ | refine rdA_s ?_ | refine rd1_s ?_ | refine drew_a fun w1 H1 => ?_ | refine st_a fun w1 H1 => ?_ | refine stA_a fun w1 H1 => ?_ | refine lenT_a ?_ | refine lenO_a ?_ | refine ixT_a ?_ | refine ixO_a ?_ | refine bld_a ?_ | refine min_a ?_ | refine max_a ?_ | fail)
  unfold F132_j2
  refine loop6 (F132_l1_succ _) (fun m x0 x2 x4 x8 x9 x10 w => ∃ i j : Nat, x0 = s ∧ x2 = .func (.func f) ⟨[]⟩ ⟨cap⟩ ∧ x4 = ptr bo 0 ∧ x8 = I (xs.length : Int) ∧ x9 = I (i : Int) ∧ x10 = I (j : Int) ∧ m + i = j ∧ j ≤ xs.length ∧
      (∀ (k : Nat) a, k < i → xs[k]? = some a → cv a < 0) ∧ (∀ (k : Nat) a, j ≤ k → xs[k]? = some a → 0 ≤ cv a) ∧ Hp w0 w (⟨bo, 105, [I p, I q]⟩ :: L)) ?_ (m := xs.length)
    ⟨0, xs.length, rfl, rfl, rfl, rfl, rfl, rfl, by omega, Nat.le_refl _, by omega, fun k a hk ha => by have := (List.getElem?_eq_some_iff.1 ha).1; omega, by assumption⟩
  clear H
  rintro m k x0 x2 x4 x8 x9 x10 w ⟨i, j, rfl, rfl, rfl, rfl, rfl, rfl, hij, hj, hlo, hhi, H⟩ hk
  unfold F132_b1
  have m1' : ∀ c ∈ cs, c ∈ (⟨bo, 105, [I p, I q]⟩ :: L : List Chunk) := fun c hc => List.mem_cons_of_mem _ (m1 c hc)
  refine lss_k (fun hi => ?_) (fun hi => ?_)
  · simp only [W0]
    unfold F132_j3
    refine half_h (by omega) ?_
    have hlt : (i + j) / 2 < xs.length := by omega
    obtain ⟨x, hx⟩ : ∃ x, xs[(i + j) / 2]? = some x := ⟨_, List.getElem?_eq_getElem hlt⟩
    refine drew_k H fun w1 H1 => ?_
    refine ixN_t (C := cRc) h H1 m1' hx (by decide) ?_
    repeat (first | simp only [W0] | refine lss_a ?_ | refine lss_b ?_ | refine gtr_a ?_ | refine gtr_b ?_ | refine geq_a ?_ | refine geq_b ?_ | refine leq_a ?_ | refine leq_b ?_ | refine eql_a ?_ | refine eql_b ?_ | refine neq_a ?_ | refine neq_b ?_ | refine add_a ?_ | refine sub_a ?_ | refine ld_a ?_ | refine ldA_a ?_ | refine ldS_a ?_ | refine ldNS_a ?_ | refine rdA_s ?_ | refine rd1_s ?_ | refine drew_a fun w1 H1 => ?_ | refine st_a fun w1 H1 => ?_ | refine stA_a fun w1 H1 => ?_ | refine lenT_a ?_ | refine lenO_a ?_ | refine ixT_a ?_ | refine ixO_a ?_ | refine bld_a ?_ | refine min_a ?_ | refine max_a ?_ | fail)
    refine calD_k (a := []) hok ?_
    refine cal_h (hc x (List.mem_of_getElem? hx) w1 _ H1) ?_
    rintro _ w2 ⟨rfl, H2⟩
    simp only [ret_k]
    refine lss_k (fun hn => ?_) (fun hn => ?_)
    · simp only [W0]
      refine add_k (z := (((i + j) / 2 + 1 : Nat) : Int)) (by omega) (by omega) (by omega) ?_
      refine hk (j - ((i + j) / 2 + 1)) _ _ _ _ _ _ _ (by omega) ⟨(i + j) / 2 + 1, j, rfl, rfl, rfl, rfl, rfl, rfl, by omega, hj, fun k' a hk' ha => ?_, hhi, H2⟩
      rcases Nat.lt_or_ge k' ((i + j) / 2) with h1 | h1
      · exact hm k' _ a x h1 ha hx hn
      · obtain rfl : k' = (i + j) / 2 := by omega
        rw [hx] at ha; injection ha with ha; rw [← ha]; exact hn
    · simp only [W0]
      refine hk ((i + j) / 2 - i) _ _ _ _ _ _ _ (by omega) ⟨i, (i + j) / 2, rfl, rfl, rfl, rfl, rfl, rfl, by omega, by omega, hlo, fun k' a hk' ha => ?_, H2⟩
      rcases Nat.lt_or_ge ((i + j) / 2) k' with h1 | h1
      · have : ¬ cv a < 0 := fun h2 => hn (hm _ k' x a h1 hx ha h2)
        omega
      · obtain rfl : k' = (i + j) / 2 := by omega
        rw [hx] at ha; injection ha with ha; rw [← ha]; omega
  · simp only [W0]
    obtain rfl : i = j := by omega
    unfold F132_j1
    refine drew_k H fun w1 H1 => ?_
    refine lss_k (fun hi => ?_) (fun hi => ?_)
    · obtain ⟨x, hx⟩ : ∃ x, xs[i]? = some x := ⟨_, List.getElem?_eq_getElem (by omega)⟩
      simp only [W0]
      refine ixN_t (C := cRc) h H1 m1' hx (by decide) ?_
      repeat (first | simp only [W0] | refine lss_a ?_ | refine lss_b ?_ | refine gtr_a ?_ | refine gtr_b ?_ | refine geq_a ?_ | refine geq_b ?_ | refine leq_a ?_ | refine leq_b ?_ | refine eql_a ?_ | refine eql_b ?_ | refine neq_a ?_ | refine neq_b ?_ | refine add_a ?_ | refine sub_a ?_ | refine ld_a ?_ | refine ldA_a ?_ | refine ldS_a ?_ | refine ldNS_a ?_ | refine rdA_s ?_ | refine rd1_s ?_ | refine drew_a fun w1 H1 => ?_ | refine st_a fun w1 H1 => ?_ | refine stA_a fun w1 H1 => ?_ | refine lenT_a ?_ | refine lenO_a ?_ | refine ixT_a ?_ | refine ixO_a ?_ | refine bld_a ?_ | refine min_a ?_ | refine max_a ?_ | fail)
      refine calD_k (a := []) hok ?_
      refine cal_h (hc x (List.mem_of_getElem? hx) w1 _ H1) ?_
      rintro _ w2 ⟨rfl, H2⟩
      simp only [ret_k, bin_eql, W0]
      exact ⟨i, _, rfl, H2.tail, hj, hlo, hhi⟩
    · simp only [W0]
      exact ⟨i, _, rfl, H1.tail, hj, hlo, hhi⟩
end
end Go.Proofs.YtmkcjopacmadhaaGreat.Den
