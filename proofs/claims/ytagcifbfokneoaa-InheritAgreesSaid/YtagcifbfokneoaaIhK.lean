/- Inherit: the holders and the waiters of each thread. Conditions: none. -/
import Derived.Test.YtagcifbfokneoaaIhJ
set_option linter.unusedVariables false
set_option linter.unusedSimpArgs false
set_option maxRecDepth 8000
namespace Go.Proofs.Ytagcifbfokneoaa.Den
open Go Go.RowKit
theorem elS : ElT 75 22 cS.sz 24 [.slice none 0 0] := ⟨by kernel_rfl, by kernel_rfl, rfl⟩
def adjAt (key vl : Nat × Nat → Nat) (l : List (Nat × Nat)) (v : Nat) : List Nat := (l.filter fun e => key e == v).map vl
def adj (key vl : Nat × Nat → Nat) (l : List (Nat × Nat)) (n : Nat) : List (List Nat) := (List.range n).map (adjAt key vl l)
theorem adj_len {key vl : Nat × Nat → Nat} {l : List (Nat × Nat)} {n : Nat} : (adj key vl l n).length = n := by simp [adj]
theorem adj_get {key vl : Nat × Nat → Nat} {l : List (Nat × Nat)} {n v : Nat} (h : v < n) : (adj key vl l n)[v]? = some (adjAt key vl l v) := by simp [adj, h]
theorem adjAt_len {key vl : Nat × Nat → Nat} {l : List (Nat × Nat)} {v m : Nat} (h : l.length ≤ m) : (adjAt key vl l v).length ≤ m := by
  rw [adjAt, List.length_map]; exact Nat.le_trans (List.length_filter_le _ _) h
theorem adj_nil {key vl : Nat × Nat → Nat} {n : Nat} : adj key vl [] n = List.replicate n [] := by
  apply List.ext_getElem?; intro i
  by_cases h : i < n
  · rw [adj_get h]; simp [adjAt, h]
  · rw [List.getElem?_eq_none (by simp [adj]; omega), List.getElem?_eq_none (by simp; omega)]
theorem adj_snoc {key vl : Nat × Nat → Nat} {l : List (Nat × Nat)} {n : Nat} {e : Nat × Nat} (h : key e < n) : adj key vl (l ++ [e]) n = (adj key vl l n).set (key e) (adjAt key vl l (key e) ++ [vl e]) := by
  apply List.ext_getElem?; intro i
  by_cases hi : i < n
  · rw [adj_get hi]
    by_cases hk : key e = i
    · subst hk
      rw [List.getElem?_set_self (by rw [adj_len]; exact h)]
      simp [adjAt]
    · rw [List.getElem?_set_ne hk, adj_get hi]
      simp [adjAt, hk]
  · rw [List.getElem?_eq_none (by rw [adj_len]; omega), List.getElem?_eq_none (by rw [List.length_set, adj_len]; omega)]
theorem flatten_nils {n : Nat} : (List.replicate n ([] : List Chunk)).flatten = [] := by simp
section
variable {w w' w0 : World} {L L' F cs cs2 : List Chunk} {s s2 sb se sd : Value} {K : VK} {R : ER} {base d : List Int} {E : List (Nat × Nat)} {n f : Nat}
theorem holders_spec (h1 : TR cI w0 cs sb base) (h2 : TR cN w0 cs2 se E) (H : Hp w0 w L) (m1 : ∀ c ∈ cs, c ∈ L) (m2 : ∀ c ∈ cs2, c ∈ L) (hV : Valid E base.length) (hl : base.length ≤ 256) (hel : E.length ≤ 4000) (hnd : E.Nodup) :
    Calls Pg 46 ⟨[.agg ⟨[sb, se]⟩]⟩ w fun x w' => ∃ s cs E', x = .returned s ∧ Hp w0 w' (cs ++ L) ∧ NR cU w0 cs s (adj Prod.fst Prod.snd E' base.length) ∧ E'.Perm E ∧ Inc E' := by
  apply F46_calls
  unfold F46
  refine bx_m H fun w b H => ?_
  repeat (first | simp only [cI_enc, cE_enc, cN_enc, W0] | refine lss_a ?_ | refine lss_b ?_ | refine gtr_a ?_ | refine gtr_b ?_ | refine geq_a ?_ | refine geq_b ?_ | refine leq_a ?_ | refine leq_b ?_ | refine eql_a ?_ | refine eql_b ?_ | refine neq_a ?_ | refine neq_b ?_ | refine add_a ?_ | refine sub_a ?_ | refine ld_a ?_ | refine ldA_a ?_ | refine ldS_a ?_ | refine ldNS_a ?_ | refine rdA_s ?_ | refine rd1_s ?_ | refine drew_a fun w1 H1 => ?_ | refine st_a fun w1 H1 => ?_ | refine stA_a fun w1 H1 => ?_ | refine lenT_a ?_ | refine lenO_a ?_ | refine ixT_a ?_ | refine ixO_a ?_ | fail)
  refine make_t (C := cS) (x := ⟨none, 0, 0⟩) elS rfl H rfl (by omega) (by omega) fun w s0 cs0 H hs0 => ?_
  unfold F46_j2
  repeat (first | simp only [cI_enc, cE_enc, cN_enc, W0] | refine lss_a ?_ | refine lss_b ?_ | refine gtr_a ?_ | refine gtr_b ?_ | refine geq_a ?_ | refine geq_b ?_ | refine leq_a ?_ | refine leq_b ?_ | refine eql_a ?_ | refine eql_b ?_ | refine neq_a ?_ | refine neq_b ?_ | refine add_a ?_ | refine sub_a ?_ | refine ld_a ?_ | refine ldA_a ?_ | refine ldS_a ?_ | refine ldNS_a ?_ | refine rdA_s ?_ | refine rd1_s ?_ | refine drew_a fun w1 H1 => ?_ | refine st_a fun w1 H1 => ?_ | refine stA_a fun w1 H1 => ?_ | refine lenT_a ?_ | refine lenO_a ?_ | refine ixT_a ?_ | refine ixO_a ?_ | fail)
  have vals : ∀ {w L}, Hp w0 w L → Calls Pg 63 ⟨[se]⟩ w fun e w' => ∃ b, e = .returned (.func (.func 68) ⟨[]⟩ ⟨[ptr b 0]⟩) ∧ Hp w0 w' (⟨b, 23, [se]⟩ :: L) := by
    intro w L H
    apply F63_calls
    unfold F63
    refine bxs_h H h2.cells fun w b H => ?_
    exact ⟨b, rfl, H⟩
  refine cal_h (vals H) ?_
  rintro _ w ⟨b2, rfl, H⟩
  simp only [ret_k]
  refine cal_h (Sorted_spec h2 H csub hel hnd) ?_
  rintro _ w ⟨sE, E', csE, rfl, H, hE, hperm, hinc⟩
  have hE := hE.tr (w0 := w0)
  repeat (first | simp only [cI_enc, cE_enc, cN_enc, W0] | refine lss_a ?_ | refine lss_b ?_ | refine gtr_a ?_ | refine gtr_b ?_ | refine geq_a ?_ | refine geq_b ?_ | refine leq_a ?_ | refine leq_b ?_ | refine eql_a ?_ | refine eql_b ?_ | refine neq_a ?_ | refine neq_b ?_ | refine add_a ?_ | refine sub_a ?_ | refine ld_a ?_ | refine ldA_a ?_ | refine ldS_a ?_ | refine ldNS_a ?_ | refine rdA_s ?_ | refine rd1_s ?_ | refine drew_a fun w1 H1 => ?_ | refine st_a fun w1 H1 => ?_ | refine stA_a fun w1 H1 => ?_ | refine lenT_a ?_ | refine lenO_a ?_ | refine ixT_a ?_ | refine ixO_a ?_ | fail)
  have hV' : Valid E' base.length := fun e he => hV e (hperm.subset he)
  have hel' : E'.length ≤ 4000 := by rw [hperm.length_eq]; exact hel
  unfold F46_j3
  refine loop4 (F46_l1_succ _) (fun m x3 x13 x14 x15 w => ∃ i : Nat, ∃ cs css hs, x3 = s0 ∧ x13 = sE ∧ x14 = I (E'.length : Int) ∧ x15 = I i ∧ m + i = E'.length ∧ NS cU 22 3 s0 (adj Prod.fst Prod.snd (E'.take i) base.length) cs css hs ∧ Hp w0 w (cs ++ (css.flatten ++ (csE ++ (⟨b, 25, [sb, se]⟩ :: L))))) ?_ (m := E'.length)
    ⟨0, cs0, List.replicate base.length [], _, rfl, rfl, rfl, rfl, by omega, by rw [List.take_zero, adj_nil]; exact NS.empty hs0, by rw [flatten_nils]; exact H.re⟩
  clear H hs0
  rintro m k s0 sE _ _ w ⟨i, cs3, css, hs, rfl, rfl, rfl, rfl, hm, hN, H⟩ hk
  unfold F46_b1
  refine lss_k (fun hi => ?_) (fun hi => ?_)
  · have hx : E'[i]? = some E'[i] := List.getElem?_eq_getElem (by omega)
    have hv := hV' _ (List.getElem_mem (h := by omega) : E'[i] ∈ E')
    have htk : E'.take (i + 1) = E'.take i ++ [E'[i]] := by rw [List.take_add_one, hx]; rfl
    generalize E'[i] = e at hx hv htk
    have hkey : Prod.fst e < base.length := by first | exact hv.1 | exact hv.2
    unfold F46_j4
    refine ixN_t (C := cN) hE H csub hx (by decide) ?_
    refine al39 H fun w b3 H => ?_
    have hadj : (adj Prod.fst Prod.snd (E'.take i) base.length)[Prod.fst e]? = some (adjAt Prod.fst Prod.snd (E'.take i) (Prod.fst e)) := adj_get hkey
    have hlen : (adj Prod.fst Prod.snd (E'.take i) base.length).length = base.length := adj_len
    obtain ⟨k1, hk1⟩ : ∃ k1, hs[Prod.fst e]? = some k1 := ⟨_, List.getElem?_eq_getElem (by rw [hN.hl, hlen]; exact hkey)⟩
    obtain ⟨c1, hc1⟩ : ∃ c1, css[Prod.fst e]? = some c1 := ⟨_, List.getElem?_eq_getElem (by rw [hN.cl, hlen]; exact hkey)⟩
    have hsub := hN.sub _ _ _ _ hk1 hadj hc1
    have hsl : (adjAt Prod.fst Prod.snd (E'.take i) (Prod.fst e)).length ≤ 4000 := adjAt_len (by simp; omega)
    repeat (first | simp only [cI_enc, cE_enc, cN_enc, W0] | refine lss_a ?_ | refine lss_b ?_ | refine gtr_a ?_ | refine gtr_b ?_ | refine geq_a ?_ | refine geq_b ?_ | refine leq_a ?_ | refine leq_b ?_ | refine eql_a ?_ | refine eql_b ?_ | refine neq_a ?_ | refine neq_b ?_ | refine add_a ?_ | refine sub_a ?_ | refine ld_a ?_ | refine ldA_a ?_ | refine ldS_a ?_ | refine ldNS_a ?_ | refine rdA_s ?_ | refine rd1_s ?_ | refine drew_a fun w1 H1 => ?_ | refine st_a fun w1 H1 => ?_ | refine stA_a fun w1 H1 => ?_ | refine lenT_a ?_ | refine lenO_a ?_ | refine ixT_a ?_ | refine ixO_a ?_ | fail)
    refine ix1p_t (C := cS) (x := k1) (TS.tr hN.top) (by assumption) csub hk1 rfl rfl fun a8 e8 hat => ?_
    repeat (first | simp only [cI_enc, cE_enc, cN_enc, W0] | refine lss_a ?_ | refine lss_b ?_ | refine gtr_a ?_ | refine gtr_b ?_ | refine geq_a ?_ | refine geq_b ?_ | refine leq_a ?_ | refine leq_b ?_ | refine eql_a ?_ | refine eql_b ?_ | refine neq_a ?_ | refine neq_b ?_ | refine add_a ?_ | refine sub_a ?_ | refine ld_a ?_ | refine ldA_a ?_ | refine ldS_a ?_ | refine ldNS_a ?_ | refine rdA_s ?_ | refine rd1_s ?_ | refine drew_a fun w1 H1 => ?_ | refine st_a fun w1 H1 => ?_ | refine stA_a fun w1 H1 => ?_ | refine lenT_a ?_ | refine lenO_a ?_ | refine ixT_a ?_ | refine ixO_a ?_ | fail)
    refine lit1_t (C := cU) (x := Prod.snd e) elU (by assumption) rfl (by decide) fun w s4 cs4 H hs4 => ?_
    refine rd1_a (hat _ _ H csub) ?_
    repeat (first | simp only [cI_enc, cE_enc, cN_enc, W0] | refine lss_a ?_ | refine lss_b ?_ | refine gtr_a ?_ | refine gtr_b ?_ | refine geq_a ?_ | refine geq_b ?_ | refine leq_a ?_ | refine leq_b ?_ | refine eql_a ?_ | refine eql_b ?_ | refine neq_a ?_ | refine neq_b ?_ | refine add_a ?_ | refine sub_a ?_ | refine ld_a ?_ | refine ldA_a ?_ | refine ldS_a ?_ | refine ldNS_a ?_ | refine rdA_s ?_ | refine rd1_s ?_ | refine drew_a fun w1 H1 => ?_ | refine st_a fun w1 H1 => ?_ | refine stA_a fun w1 H1 => ?_ | refine lenT_a ?_ | refine lenO_a ?_ | refine ixT_a ?_ | refine ixO_a ?_ | fail)
    rw [flatten_split hc1] at H
    have H : Hp w0 w (c1 ++ (⟨b3, 39, [I (e.1 : Int), I (e.2 : Int)]⟩ :: (cs4 ++ (cs3 ++ ((css.take (Prod.fst e)).flatten ++ ((css.drop (Prod.fst e + 1)).flatten ++ (csE ++ (⟨b, 25, [sb, se]⟩ :: L)))))))) := H.re
    refine append_t elU H hsub spl hs4.tr csub (by simp; omega) (by simp; omega) fun w s5 cs5 H hs5 => ?_
    repeat (first | simp only [cI_enc, cE_enc, cN_enc, W0] | refine lss_a ?_ | refine lss_b ?_ | refine gtr_a ?_ | refine gtr_b ?_ | refine geq_a ?_ | refine geq_b ?_ | refine leq_a ?_ | refine leq_b ?_ | refine eql_a ?_ | refine eql_b ?_ | refine neq_a ?_ | refine neq_b ?_ | refine add_a ?_ | refine sub_a ?_ | refine ld_a ?_ | refine ldA_a ?_ | refine ldS_a ?_ | refine ldNS_a ?_ | refine rdA_s ?_ | refine rd1_s ?_ | refine drew_a fun w1 H1 => ?_ | refine st_a fun w1 H1 => ?_ | refine stA_a fun w1 H1 => ?_ | refine lenT_a ?_ | refine lenO_a ?_ | refine ixT_a ?_ | refine ixO_a ?_ | fail)
    obtain ⟨k5, rfl⟩ := hs5.sh
    have H : Hp w0 w (cs3 ++ (⟨b3, 39, [I (e.1 : Int), I (e.2 : Int)]⟩ :: (cs5 ++ ((css.take (Prod.fst e)).flatten ++ ((css.drop (Prod.fst e + 1)).flatten ++ (csE ++ (⟨b, 25, [sb, se]⟩ :: L))))))) := H.re
    refine ist1_t (C := cS) (x := k5) hN.top H spl (by rw [hN.hl, hlen]; exact hkey) rfl rfl fun w cs6 H hs6 => ?_
    repeat (first | simp only [cI_enc, cE_enc, cN_enc, W0] | refine lss_a ?_ | refine lss_b ?_ | refine gtr_a ?_ | refine gtr_b ?_ | refine geq_a ?_ | refine geq_b ?_ | refine leq_a ?_ | refine leq_b ?_ | refine eql_a ?_ | refine eql_b ?_ | refine neq_a ?_ | refine neq_b ?_ | refine add_a ?_ | refine sub_a ?_ | refine ld_a ?_ | refine ldA_a ?_ | refine ldS_a ?_ | refine ldNS_a ?_ | refine rdA_s ?_ | refine rd1_s ?_ | refine drew_a fun w1 H1 => ?_ | refine st_a fun w1 H1 => ?_ | refine stA_a fun w1 H1 => ?_ | refine lenT_a ?_ | refine lenO_a ?_ | refine ixT_a ?_ | refine ixO_a ?_ | fail)
    refine hk (m - 1) _ _ _ _ _ (by omega) ⟨i + 1, cs6, css.set (Prod.fst e) cs5, hs.set (Prod.fst e) k5, rfl, rfl, rfl, rfl, by omega, ?_, ?_⟩
    · rw [htk, adj_snoc hkey]
      exact hN.set (by rw [hlen]; exact hkey) hs6 hs5
    · rw [flatten_set hc1]
      exact H.re
  · repeat (first | simp only [cI_enc, cE_enc, cN_enc, W0] | refine lss_a ?_ | refine lss_b ?_ | refine gtr_a ?_ | refine gtr_b ?_ | refine geq_a ?_ | refine geq_b ?_ | refine leq_a ?_ | refine leq_b ?_ | refine eql_a ?_ | refine eql_b ?_ | refine neq_a ?_ | refine neq_b ?_ | refine add_a ?_ | refine sub_a ?_ | refine ld_a ?_ | refine ldA_a ?_ | refine ldS_a ?_ | refine ldNS_a ?_ | refine rdA_s ?_ | refine rd1_s ?_ | refine drew_a fun w1 H1 => ?_ | refine st_a fun w1 H1 => ?_ | refine stA_a fun w1 H1 => ?_ | refine lenT_a ?_ | refine lenO_a ?_ | refine ixT_a ?_ | refine ixO_a ?_ | fail)
    unfold F46_j1
    rw [List.take_of_length_le (by omega)] at hN
    exact ⟨_, cs3 ++ css.flatten, E', rfl, H.re, hN.nr, hperm, hinc⟩
theorem waiters_spec (h1 : TR cI w0 cs sb base) (h2 : TR cN w0 cs2 se E) (H : Hp w0 w L) (m1 : ∀ c ∈ cs, c ∈ L) (m2 : ∀ c ∈ cs2, c ∈ L) (hV : Valid E base.length) (hl : base.length ≤ 256) (hel : E.length ≤ 4000) (hnd : E.Nodup) :
    Calls Pg 44 ⟨[.agg ⟨[sb, se]⟩]⟩ w fun x w' => ∃ s cs E', x = .returned s ∧ Hp w0 w' (cs ++ L) ∧ NR cU w0 cs s (adj Prod.snd Prod.fst E' base.length) ∧ E'.Perm E ∧ E' = E := by
  apply F44_calls
  unfold F44
  refine bx_m H fun w b H => ?_
  repeat (first | simp only [cI_enc, cE_enc, cN_enc, W0] | refine lss_a ?_ | refine lss_b ?_ | refine gtr_a ?_ | refine gtr_b ?_ | refine geq_a ?_ | refine geq_b ?_ | refine leq_a ?_ | refine leq_b ?_ | refine eql_a ?_ | refine eql_b ?_ | refine neq_a ?_ | refine neq_b ?_ | refine add_a ?_ | refine sub_a ?_ | refine ld_a ?_ | refine ldA_a ?_ | refine ldS_a ?_ | refine ldNS_a ?_ | refine rdA_s ?_ | refine rd1_s ?_ | refine drew_a fun w1 H1 => ?_ | refine st_a fun w1 H1 => ?_ | refine stA_a fun w1 H1 => ?_ | refine lenT_a ?_ | refine lenO_a ?_ | refine ixT_a ?_ | refine ixO_a ?_ | fail)
  refine make_t (C := cS) (x := ⟨none, 0, 0⟩) elS rfl H rfl (by omega) (by omega) fun w s0 cs0 H hs0 => ?_
  unfold F44_j2
  repeat (first | simp only [cI_enc, cE_enc, cN_enc, W0] | refine lss_a ?_ | refine lss_b ?_ | refine gtr_a ?_ | refine gtr_b ?_ | refine geq_a ?_ | refine geq_b ?_ | refine leq_a ?_ | refine leq_b ?_ | refine eql_a ?_ | refine eql_b ?_ | refine neq_a ?_ | refine neq_b ?_ | refine add_a ?_ | refine sub_a ?_ | refine ld_a ?_ | refine ldA_a ?_ | refine ldS_a ?_ | refine ldNS_a ?_ | refine rdA_s ?_ | refine rd1_s ?_ | refine drew_a fun w1 H1 => ?_ | refine st_a fun w1 H1 => ?_ | refine stA_a fun w1 H1 => ?_ | refine lenT_a ?_ | refine lenO_a ?_ | refine ixT_a ?_ | refine ixO_a ?_ | fail)
  obtain ⟨E', sE, hE0, hS0⟩ : ∃ E' sE, E' = E ∧ sE = se := ⟨_, _, rfl, rfl⟩
  have hE : TR cN w0 cs2 sE E' := by rw [hE0, hS0]; exact h2
  have hperm : E'.Perm E := by rw [hE0]
  rw [← hS0, show E.length = E'.length from by rw [hE0]]
  have hV' : Valid E' base.length := fun e he => hV e (hperm.subset he)
  have hel' : E'.length ≤ 4000 := by rw [hperm.length_eq]; exact hel
  unfold F44_j3
  refine loop4 (F44_l1_succ _) (fun m x3 x13 x14 x15 w => ∃ i : Nat, ∃ cs css hs, x3 = s0 ∧ x13 = sE ∧ x14 = I (E'.length : Int) ∧ x15 = I i ∧ m + i = E'.length ∧ NS cU 22 3 s0 (adj Prod.snd Prod.fst (E'.take i) base.length) cs css hs ∧ Hp w0 w (cs ++ (css.flatten ++ (⟨b, 25, [sb, se]⟩ :: L)))) ?_ (m := E'.length)
    ⟨0, cs0, List.replicate base.length [], _, rfl, rfl, rfl, rfl, by omega, by rw [List.take_zero, adj_nil]; exact NS.empty hs0, by rw [flatten_nils]; exact H.re⟩
  clear H hs0
  rintro m k s0 sE _ _ w ⟨i, cs3, css, hs, rfl, rfl, rfl, rfl, hm, hN, H⟩ hk
  unfold F44_b1
  refine lss_k (fun hi => ?_) (fun hi => ?_)
  · have hx : E'[i]? = some E'[i] := List.getElem?_eq_getElem (by omega)
    have hv := hV' _ (List.getElem_mem (h := by omega) : E'[i] ∈ E')
    have htk : E'.take (i + 1) = E'.take i ++ [E'[i]] := by rw [List.take_add_one, hx]; rfl
    generalize E'[i] = e at hx hv htk
    have hkey : Prod.snd e < base.length := by first | exact hv.1 | exact hv.2
    unfold F44_j4
    refine ixN_t (C := cN) hE H csub hx (by decide) ?_
    refine al39 H fun w b3 H => ?_
    have hadj : (adj Prod.snd Prod.fst (E'.take i) base.length)[Prod.snd e]? = some (adjAt Prod.snd Prod.fst (E'.take i) (Prod.snd e)) := adj_get hkey
    have hlen : (adj Prod.snd Prod.fst (E'.take i) base.length).length = base.length := adj_len
    obtain ⟨k1, hk1⟩ : ∃ k1, hs[Prod.snd e]? = some k1 := ⟨_, List.getElem?_eq_getElem (by rw [hN.hl, hlen]; exact hkey)⟩
    obtain ⟨c1, hc1⟩ : ∃ c1, css[Prod.snd e]? = some c1 := ⟨_, List.getElem?_eq_getElem (by rw [hN.cl, hlen]; exact hkey)⟩
    have hsub := hN.sub _ _ _ _ hk1 hadj hc1
    have hsl : (adjAt Prod.snd Prod.fst (E'.take i) (Prod.snd e)).length ≤ 4000 := adjAt_len (by simp; omega)
    repeat (first | simp only [cI_enc, cE_enc, cN_enc, W0] | refine lss_a ?_ | refine lss_b ?_ | refine gtr_a ?_ | refine gtr_b ?_ | refine geq_a ?_ | refine geq_b ?_ | refine leq_a ?_ | refine leq_b ?_ | refine eql_a ?_ | refine eql_b ?_ | refine neq_a ?_ | refine neq_b ?_ | refine add_a ?_ | refine sub_a ?_ | refine ld_a ?_ | refine ldA_a ?_ | refine ldS_a ?_ | refine ldNS_a ?_ | refine rdA_s ?_ | refine rd1_s ?_ | refine drew_a fun w1 H1 => ?_ | refine st_a fun w1 H1 => ?_ | refine stA_a fun w1 H1 => ?_ | refine lenT_a ?_ | refine lenO_a ?_ | refine ixT_a ?_ | refine ixO_a ?_ | fail)
    refine ix1p_t (C := cS) (x := k1) (TS.tr hN.top) (by assumption) csub hk1 rfl rfl fun a8 e8 hat => ?_
    repeat (first | simp only [cI_enc, cE_enc, cN_enc, W0] | refine lss_a ?_ | refine lss_b ?_ | refine gtr_a ?_ | refine gtr_b ?_ | refine geq_a ?_ | refine geq_b ?_ | refine leq_a ?_ | refine leq_b ?_ | refine eql_a ?_ | refine eql_b ?_ | refine neq_a ?_ | refine neq_b ?_ | refine add_a ?_ | refine sub_a ?_ | refine ld_a ?_ | refine ldA_a ?_ | refine ldS_a ?_ | refine ldNS_a ?_ | refine rdA_s ?_ | refine rd1_s ?_ | refine drew_a fun w1 H1 => ?_ | refine st_a fun w1 H1 => ?_ | refine stA_a fun w1 H1 => ?_ | refine lenT_a ?_ | refine lenO_a ?_ | refine ixT_a ?_ | refine ixO_a ?_ | fail)
    refine lit1_t (C := cU) (x := Prod.fst e) elU (by assumption) rfl (by decide) fun w s4 cs4 H hs4 => ?_
    refine rd1_a (hat _ _ H csub) ?_
    repeat (first | simp only [cI_enc, cE_enc, cN_enc, W0] | refine lss_a ?_ | refine lss_b ?_ | refine gtr_a ?_ | refine gtr_b ?_ | refine geq_a ?_ | refine geq_b ?_ | refine leq_a ?_ | refine leq_b ?_ | refine eql_a ?_ | refine eql_b ?_ | refine neq_a ?_ | refine neq_b ?_ | refine add_a ?_ | refine sub_a ?_ | refine ld_a ?_ | refine ldA_a ?_ | refine ldS_a ?_ | refine ldNS_a ?_ | refine rdA_s ?_ | refine rd1_s ?_ | refine drew_a fun w1 H1 => ?_ | refine st_a fun w1 H1 => ?_ | refine stA_a fun w1 H1 => ?_ | refine lenT_a ?_ | refine lenO_a ?_ | refine ixT_a ?_ | refine ixO_a ?_ | fail)
    rw [flatten_split hc1] at H
    have H : Hp w0 w (c1 ++ (⟨b3, 39, [I (e.1 : Int), I (e.2 : Int)]⟩ :: (cs4 ++ (cs3 ++ ((css.take (Prod.snd e)).flatten ++ ((css.drop (Prod.snd e + 1)).flatten ++ (⟨b, 25, [sb, se]⟩ :: L))))))) := H.re
    refine append_t elU H hsub spl hs4.tr csub (by simp; omega) (by simp; omega) fun w s5 cs5 H hs5 => ?_
    repeat (first | simp only [cI_enc, cE_enc, cN_enc, W0] | refine lss_a ?_ | refine lss_b ?_ | refine gtr_a ?_ | refine gtr_b ?_ | refine geq_a ?_ | refine geq_b ?_ | refine leq_a ?_ | refine leq_b ?_ | refine eql_a ?_ | refine eql_b ?_ | refine neq_a ?_ | refine neq_b ?_ | refine add_a ?_ | refine sub_a ?_ | refine ld_a ?_ | refine ldA_a ?_ | refine ldS_a ?_ | refine ldNS_a ?_ | refine rdA_s ?_ | refine rd1_s ?_ | refine drew_a fun w1 H1 => ?_ | refine st_a fun w1 H1 => ?_ | refine stA_a fun w1 H1 => ?_ | refine lenT_a ?_ | refine lenO_a ?_ | refine ixT_a ?_ | refine ixO_a ?_ | fail)
    obtain ⟨k5, rfl⟩ := hs5.sh
    have H : Hp w0 w (cs3 ++ (⟨b3, 39, [I (e.1 : Int), I (e.2 : Int)]⟩ :: (cs5 ++ ((css.take (Prod.snd e)).flatten ++ ((css.drop (Prod.snd e + 1)).flatten ++ (⟨b, 25, [sb, se]⟩ :: L)))))) := H.re
    refine ist1_t (C := cS) (x := k5) hN.top H spl (by rw [hN.hl, hlen]; exact hkey) rfl rfl fun w cs6 H hs6 => ?_
    repeat (first | simp only [cI_enc, cE_enc, cN_enc, W0] | refine lss_a ?_ | refine lss_b ?_ | refine gtr_a ?_ | refine gtr_b ?_ | refine geq_a ?_ | refine geq_b ?_ | refine leq_a ?_ | refine leq_b ?_ | refine eql_a ?_ | refine eql_b ?_ | refine neq_a ?_ | refine neq_b ?_ | refine add_a ?_ | refine sub_a ?_ | refine ld_a ?_ | refine ldA_a ?_ | refine ldS_a ?_ | refine ldNS_a ?_ | refine rdA_s ?_ | refine rd1_s ?_ | refine drew_a fun w1 H1 => ?_ | refine st_a fun w1 H1 => ?_ | refine stA_a fun w1 H1 => ?_ | refine lenT_a ?_ | refine lenO_a ?_ | refine ixT_a ?_ | refine ixO_a ?_ | fail)
    refine hk (m - 1) _ _ _ _ _ (by omega) ⟨i + 1, cs6, css.set (Prod.snd e) cs5, hs.set (Prod.snd e) k5, rfl, rfl, rfl, rfl, by omega, ?_, ?_⟩
    · rw [htk, adj_snoc hkey]
      exact hN.set (by rw [hlen]; exact hkey) hs6 hs5
    · rw [flatten_set hc1]
      exact H.re
  · repeat (first | simp only [cI_enc, cE_enc, cN_enc, W0] | refine lss_a ?_ | refine lss_b ?_ | refine gtr_a ?_ | refine gtr_b ?_ | refine geq_a ?_ | refine geq_b ?_ | refine leq_a ?_ | refine leq_b ?_ | refine eql_a ?_ | refine eql_b ?_ | refine neq_a ?_ | refine neq_b ?_ | refine add_a ?_ | refine sub_a ?_ | refine ld_a ?_ | refine ldA_a ?_ | refine ldS_a ?_ | refine ldNS_a ?_ | refine rdA_s ?_ | refine rd1_s ?_ | refine drew_a fun w1 H1 => ?_ | refine st_a fun w1 H1 => ?_ | refine stA_a fun w1 H1 => ?_ | refine lenT_a ?_ | refine lenO_a ?_ | refine ixT_a ?_ | refine ixO_a ?_ | fail)
    unfold F44_j1
    rw [List.take_of_length_le (by omega)] at hN
    exact ⟨_, cs3 ++ css.flatten, E', rfl, H.re, hN.nr, hperm, hE0⟩
end
end Go.Proofs.Ytagcifbfokneoaa.Den
