/- Inherit: the tracker's graph. Conditions: none. -/
import Derived.Test.YtagcifbfokneoaaIhU
set_option linter.unusedVariables false
set_option linter.unusedSimpArgs false
set_option maxRecDepth 8000
set_option maxHeartbeats 1000000
namespace Go.Proofs.Ytagcifbfokneoaa.Den
open Go Go.RowKit
section
variable {w w' w0 : World} {L L' F cs cs2 cs3 cb ce : List Chunk} {s s2 sb se sd : Value} {K : VK} {R : ER} {base eff : List Int} {E E' : List (Nat × Nat)} {bt bm clock : Nat} {ents : List ((Int × Int) × Bool × Nat)}
theorem bld1 {s1 : Value} (h1 : scalar s1 = true) : bldO [.slice none 0 0, .slice none 0 0] [(0, 1, s1)] = some (.agg ⟨[s1, .slice none 0 0]⟩) := by
  cases s1 <;> first | (simp [scalar] at h1; done) | rfl
theorem ofN_toN {x : Int × Int} (h : x ∈ E.map ofN) : ofN (toN x) = x := by
  obtain ⟨e, _, rfl⟩ := List.mem_map.1 h
  rfl
theorem ofN_inj {x y : Nat × Nat} (h : ofN x = ofN y) : x = y := by
  simp [ofN] at h
  exact Prod.ext (by omega) (by omega)
theorem birth_inj (hw : MW ents clock) {e e' : (Int × Int) × Bool × Nat} (h : e ∈ ents) (h' : e' ∈ ents) (hb : e.2.2 = e'.2.2) : e = e' := by
  obtain ⟨i, hi, rfl⟩ := List.getElem_of_mem h
  obtain ⟨j, hj, rfl⟩ := List.getElem_of_mem h'
  have hp := List.pairwise_iff_getElem.1 hw.bn
  rcases Nat.lt_trichotomy i j with g | g | g
  · have := hp i j (by simpa using hi) (by simpa using hj) g
    simp at this; omega
  · subst g; rfl
  · have := hp j i (by simpa using hj) (by simpa using hi) g
    simp at this; omega
theorem key_inj (hw : MW ents clock) {e e' : (Int × Int) × Bool × Nat} (h : e ∈ ents) (h' : e' ∈ ents) (hb : e.1 = e'.1) : e = e' := by
  obtain ⟨i, hi, rfl⟩ := List.getElem_of_mem h
  obtain ⟨j, hj, rfl⟩ := List.getElem_of_mem h'
  have hp := List.pairwise_iff_getElem.1 (List.nodup_iff_pairwise_ne.1 hw.nd)
  rcases Nat.lt_trichotomy i j with g | g | g
  · have := hp i j (by simpa [mkeys] using hi) (by simpa [mkeys] using hj) g
    simp [mkeys] at this; exact absurd hb this
  · subst g; rfl
  · have := hp j i (by simpa [mkeys] using hj) (by simpa [mkeys] using hi) g
    simp [mkeys] at this; exact absurd hb.symm this
theorem nodup_sub_len : ∀ {l l' : List (Nat × Nat)}, l.Nodup → (∀ a ∈ l, a ∈ l') → l.length ≤ l'.length
  | [], _, _, _ => by simp
  | a :: l, l', hn, hs => by
    obtain ⟨h1, h2⟩ := List.nodup_cons.1 hn
    have ha := hs a (by simp)
    have := nodup_sub_len (l := l) (l' := l'.erase a) h2 fun b hb => (List.mem_erase_of_ne (by rintro rfl; exact h1 hb)).2 (hs b (by simp [hb]))
    rw [List.length_erase_of_mem ha] at this
    have := List.length_pos_of_mem ha
    simp only [List.length_cons]; omega
theorem graph_spec (hs1 : scalar sb = true) (hw : MW ents clock) (hk : mkeys ents = E.map ofN) (hnd : E.Nodup) (hl : E.length ≤ 2000)
    (H : Hp w0 w (⟨bt, 88, [sb, .map (some bm), se]⟩ :: ⟨bm, .o (mobj kE Value.bool ents clock), []⟩ :: F)) :
    Calls Pg 49 ⟨[ptr bt 0]⟩ w fun x w' => ∃ s' E' c', x = .returned (.agg ⟨[sb, s']⟩) ∧ Hp w0 w' (⟨bt, 88, [sb, .map (some bm), se]⟩ :: ⟨bm, .o (mobj kE Value.bool ents clock), []⟩ :: (c' ++ F)) ∧ TS cN 39 s' E' c' ∧ E'.Perm E ∧ Inc E' := by
  apply F49_calls
  unfold F49
  refine al_m (ys := [.slice none 0 0, .slice none 0 0]) (by assumption) (by kernel_rfl) fun w b2 H => ?_
  repeat (first | simp only [cI_enc, cE_enc, cN_enc, W0] | refine lss_a ?_ | refine lss_b ?_ | refine gtr_a ?_ | refine gtr_b ?_ | refine geq_a ?_ | refine geq_b ?_ | refine leq_a ?_ | refine leq_b ?_ | refine eql_a ?_ | refine eql_b ?_ | refine neq_a ?_ | refine neq_b ?_ | refine add_a ?_ | refine sub_a ?_ | refine ld_a ?_ | refine ldA_a ?_ | refine ldS_a ?_ | refine ldNS_a ?_ | refine rdA_s ?_ | refine rd1_s ?_ | refine drew_a fun w1 H1 => ?_ | refine st_a fun w1 H1 => ?_ | refine stA_a fun w1 H1 => ?_ | refine lenT_a ?_ | refine lenO_a ?_ | refine ixT_a ?_ | refine ixO_a ?_ | fail)
  refine pv_of (bld1 hs1) ?_
  refine al_m (ys := [.slice none 0 0, .slice none 0 0]) (by assumption) (by kernel_rfl) fun w b3 H => ?_
  repeat (first | simp only [cI_enc, cE_enc, cN_enc, W0] | refine lss_a ?_ | refine lss_b ?_ | refine gtr_a ?_ | refine gtr_b ?_ | refine geq_a ?_ | refine geq_b ?_ | refine leq_a ?_ | refine leq_b ?_ | refine eql_a ?_ | refine eql_b ?_ | refine neq_a ?_ | refine neq_b ?_ | refine add_a ?_ | refine sub_a ?_ | refine ld_a ?_ | refine ldA_a ?_ | refine ldS_a ?_ | refine ldNS_a ?_ | refine rdA_s ?_ | refine rd1_s ?_ | refine drew_a fun w1 H1 => ?_ | refine st_a fun w1 H1 => ?_ | refine stA_a fun w1 H1 => ?_ | refine lenT_a ?_ | refine lenO_a ?_ | refine ixT_a ?_ | refine ixO_a ?_ | fail)
  try unfold F49_j2
  repeat (first | simp only [cI_enc, cE_enc, cN_enc, W0] | refine lss_a ?_ | refine lss_b ?_ | refine gtr_a ?_ | refine gtr_b ?_ | refine geq_a ?_ | refine geq_b ?_ | refine leq_a ?_ | refine leq_b ?_ | refine eql_a ?_ | refine eql_b ?_ | refine neq_a ?_ | refine neq_b ?_ | refine add_a ?_ | refine sub_a ?_ | refine ld_a ?_ | refine ldA_a ?_ | refine ldS_a ?_ | refine ldNS_a ?_ | refine rdA_s ?_ | refine rd1_s ?_ | refine drew_a fun w1 H1 => ?_ | refine st_a fun w1 H1 => ?_ | refine stA_a fun w1 H1 => ?_ | refine lenT_a ?_ | refine lenO_a ?_ | refine ixT_a ?_ | refine ixO_a ?_ | fail)
  refine range_h mapE (by assumption) has fun w r H => ?_
  unfold F49_j3
  refine loop3 (F49_l1_succ _) (fun m x2 x3 x14 w => ∃ seen s cs dn c0, x2 = ptr b2 0 ∧ x3 = ptr b3 0 ∧ x14 = ptr r 0 ∧ clock ≤ c0 ∧ TS cN 39 s dn cs ∧ dn.Nodup ∧ (∀ e ∈ dn, e ∈ E) ∧ (∀ e ∈ ents, e.2.2 ∈ seen ↔ e.1 ∈ dn.map ofN) ∧ m + dn.length = E.length ∧
      Hp w0 w (⟨r, .o (iobj bm clock seen c0), []⟩ :: ⟨b3, 25, [sb, s]⟩ :: ⟨b2, 25, [.slice none 0 0, .slice none 0 0]⟩ :: ⟨bt, 88, [sb, .map (some bm), se]⟩ :: ⟨bm, .o (mobj kE Value.bool ents clock), []⟩ :: (cs ++ F))) ?_ (m := E.length)
    ⟨[], .slice none 0 0, [], [], clock, rfl, rfl, rfl, by omega, TS.nil, by simp, by simp, by simp, by simp, Hp.re (by assumption)⟩
  clear H
  rintro m k x2 x3 x14 w ⟨seen, s, cs, dn, c0, rfl, rfl, rfl, hc0, hs, hdn, hdE, hrel, hm, H⟩ hk'
  unfold F49_b1
  refine next_h H has (fun e he => hw.lt e he) hc0 (fun hall => ?_) (fun w e he hns H => ?_)
  · repeat (first | simp only [cI_enc, cE_enc, cN_enc, W0] | refine lss_a ?_ | refine lss_b ?_ | refine gtr_a ?_ | refine gtr_b ?_ | refine geq_a ?_ | refine geq_b ?_ | refine leq_a ?_ | refine leq_b ?_ | refine eql_a ?_ | refine eql_b ?_ | refine neq_a ?_ | refine neq_b ?_ | refine add_a ?_ | refine sub_a ?_ | refine ld_a ?_ | refine ldA_a ?_ | refine ldS_a ?_ | refine ldNS_a ?_ | refine rdA_s ?_ | refine rd1_s ?_ | refine drew_a fun w1 H1 => ?_ | refine st_a fun w1 H1 => ?_ | refine stA_a fun w1 H1 => ?_ | refine lenT_a ?_ | refine lenO_a ?_ | refine ixT_a ?_ | refine ixO_a ?_ | fail)
    try unfold F49_j1
    have hp : dn.Perm E := by
      refine (List.perm_ext_iff_of_nodup hdn hnd).2 fun x => ⟨hdE x, fun hx => ?_⟩
      have : ofN x ∈ mkeys ents := by rw [hk]; exact List.mem_map_of_mem hx
      obtain ⟨e, he, hee⟩ := List.mem_map.1 this
      have := (hrel e he).1 (hall e he)
      rw [hee] at this
      obtain ⟨y, hy, hyy⟩ := List.mem_map.1 this
      rw [← ofN_inj hyy]; exact hy
    repeat (first | simp only [cI_enc, cE_enc, cN_enc, W0] | refine lss_a ?_ | refine lss_b ?_ | refine gtr_a ?_ | refine gtr_b ?_ | refine geq_a ?_ | refine geq_b ?_ | refine leq_a ?_ | refine leq_b ?_ | refine eql_a ?_ | refine eql_b ?_ | refine neq_a ?_ | refine neq_b ?_ | refine add_a ?_ | refine sub_a ?_ | refine ld_a ?_ | refine ldA_a ?_ | refine ldS_a ?_ | refine ldNS_a ?_ | refine rdA_s ?_ | refine rd1_s ?_ | refine drew_a fun w1 H1 => ?_ | refine st_a fun w1 H1 => ?_ | refine stA_a fun w1 H1 => ?_ | refine lenT_a ?_ | refine lenO_a ?_ | refine ixT_a ?_ | refine ixO_a ?_ | fail)
    have q1 := hs.sc
    refine cal_h (sort_spec (F := ⟨r, .o (iobj bm clock seen c0), []⟩ :: ⟨b3, 25, [sb, s]⟩ :: ⟨b2, 25, [.slice none 0 0, .slice none 0 0]⟩ :: ⟨bt, 88, [sb, .map (some bm), se]⟩ :: ⟨bm, .o (mobj kE Value.bool ents clock), []⟩ :: F) hs (Hp.re (by assumption)) (by have := hp.length_eq; omega) hdn) ?_
    rintro _ w ⟨E', cs', rfl, H, hs', hp', hinc⟩
    repeat (first | simp only [cI_enc, cE_enc, cN_enc, W0] | refine lss_a ?_ | refine lss_b ?_ | refine gtr_a ?_ | refine gtr_b ?_ | refine geq_a ?_ | refine geq_b ?_ | refine leq_a ?_ | refine leq_b ?_ | refine eql_a ?_ | refine eql_b ?_ | refine neq_a ?_ | refine neq_b ?_ | refine add_a ?_ | refine sub_a ?_ | refine ld_a ?_ | refine ldA_a ?_ | refine ldS_a ?_ | refine ldNS_a ?_ | refine rdA_s ?_ | refine rd1_s ?_ | refine drew_a fun w1 H1 => ?_ | refine st_a fun w1 H1 => ?_ | refine stA_a fun w1 H1 => ?_ | refine lenT_a ?_ | refine lenO_a ?_ | refine ixT_a ?_ | refine ixO_a ?_ | fail)
    exact ⟨s, E', cs', rfl, Hp.re (by assumption), hs', hp'.trans hp, hinc⟩
  · repeat (first | simp only [cI_enc, cE_enc, cN_enc, W0] | refine lss_a ?_ | refine lss_b ?_ | refine gtr_a ?_ | refine gtr_b ?_ | refine geq_a ?_ | refine geq_b ?_ | refine leq_a ?_ | refine leq_b ?_ | refine eql_a ?_ | refine eql_b ?_ | refine neq_a ?_ | refine neq_b ?_ | refine add_a ?_ | refine sub_a ?_ | refine ld_a ?_ | refine ldA_a ?_ | refine ldS_a ?_ | refine ldNS_a ?_ | refine rdA_s ?_ | refine rd1_s ?_ | refine drew_a fun w1 H1 => ?_ | refine st_a fun w1 H1 => ?_ | refine stA_a fun w1 H1 => ?_ | refine lenT_a ?_ | refine lenO_a ?_ | refine ixT_a ?_ | refine ixO_a ?_ | fail)
    try unfold F49_j4
    obtain ⟨ek, ev, en⟩ := e
    have hek : ek ∈ E.map ofN := by rw [← hk]; exact List.mem_map_of_mem he
    obtain ⟨y, hy, rfl⟩ := List.mem_map.1 hek
    refine entry_h H has he hw ?_
    have hkE : kE (ofN y) = .agg ⟨[I (y.1 : Int), I (y.2 : Int)]⟩ := rfl
    have hyn : y ∉ dn := fun hy' => hns ((hrel _ he).2 (List.mem_map_of_mem hy'))
    have hlt : dn.length < E.length := by
      have := nodup_sub_len (l := dn ++ [y]) (l' := E) (by rw [List.nodup_append]; exact ⟨hdn, by simp, by simpa using fun a ha (h : a = y) => hyn (h ▸ ha)⟩) (by intro a ha; rcases List.mem_append.1 ha with h | h; exact hdE a h; simp at h; subst h; exact hy)
      simp at this
      omega
    rw [hkE]
    repeat (first | simp only [cI_enc, cE_enc, cN_enc, W0] | refine lss_a ?_ | refine lss_b ?_ | refine gtr_a ?_ | refine gtr_b ?_ | refine geq_a ?_ | refine geq_b ?_ | refine leq_a ?_ | refine leq_b ?_ | refine eql_a ?_ | refine eql_b ?_ | refine neq_a ?_ | refine neq_b ?_ | refine add_a ?_ | refine sub_a ?_ | refine ld_a ?_ | refine ldA_a ?_ | refine ldS_a ?_ | refine ldNS_a ?_ | refine rdA_s ?_ | refine rd1_s ?_ | refine drew_a fun w1 H1 => ?_ | refine st_a fun w1 H1 => ?_ | refine stA_a fun w1 H1 => ?_ | refine lenT_a ?_ | refine lenO_a ?_ | refine ixT_a ?_ | refine ixO_a ?_ | fail)
    refine al_m (ys := [I 0, I 0]) (by assumption) (by kernel_rfl) fun w b4 H => ?_
    repeat (first | simp only [cI_enc, cE_enc, cN_enc, W0] | refine lss_a ?_ | refine lss_b ?_ | refine gtr_a ?_ | refine gtr_b ?_ | refine geq_a ?_ | refine geq_b ?_ | refine leq_a ?_ | refine leq_b ?_ | refine eql_a ?_ | refine eql_b ?_ | refine neq_a ?_ | refine neq_b ?_ | refine add_a ?_ | refine sub_a ?_ | refine ld_a ?_ | refine ldA_a ?_ | refine ldS_a ?_ | refine ldNS_a ?_ | refine rdA_s ?_ | refine rd1_s ?_ | refine drew_a fun w1 H1 => ?_ | refine st_a fun w1 H1 => ?_ | refine stA_a fun w1 H1 => ?_ | refine lenT_a ?_ | refine lenO_a ?_ | refine ixT_a ?_ | refine ixO_a ?_ | fail)
    refine app1_t (C := cN) (x := y) elN (by assumption) hs spl rfl (by decide) (by omega) (by omega) fun w s' cs' H hs' => ?_
    have q1 := hs'.sc
    repeat (first | simp only [cI_enc, cE_enc, cN_enc, W0] | refine lss_a ?_ | refine lss_b ?_ | refine gtr_a ?_ | refine gtr_b ?_ | refine geq_a ?_ | refine geq_b ?_ | refine leq_a ?_ | refine leq_b ?_ | refine eql_a ?_ | refine eql_b ?_ | refine neq_a ?_ | refine neq_b ?_ | refine add_a ?_ | refine sub_a ?_ | refine ld_a ?_ | refine ldA_a ?_ | refine ldS_a ?_ | refine ldNS_a ?_ | refine rdA_s ?_ | refine rd1_s ?_ | refine drew_a fun w1 H1 => ?_ | refine st_a fun w1 H1 => ?_ | refine stA_a fun w1 H1 => ?_ | refine lenT_a ?_ | refine lenO_a ?_ | refine ixT_a ?_ | refine ixO_a ?_ | fail)
    refine hk' (m - 1) _ _ _ _ (by omega) ⟨seen ++ [en], s', cs', dn ++ [y], clock, rfl, rfl, rfl, by omega, hs', ?_, ?_, ?_, by simp; omega, Hp.re (by assumption)⟩
    · rw [List.nodup_append]; exact ⟨hdn, by simp, by simpa using fun a ha (h : a = y) => hyn (h ▸ ha)⟩
    · intro a ha; rcases List.mem_append.1 ha with h | h
      · exact hdE a h
      · simp at h; subst h; exact hy
    · intro e' he'
      rw [List.mem_append, List.map_append, List.mem_append, hrel e' he', List.mem_singleton, List.map_cons, List.map_nil, List.mem_singleton]
      exact or_congr_right ⟨fun h => by rw [birth_inj hw he' he h], fun h => by rw [key_inj hw he' he h]⟩
end
end Go.Proofs.Ytagcifbfokneoaa.Den
