/- Inherit: chains and effective priorities of the program. Conditions: none. -/
import Derived.Test.YtagcifbfokneoaaIhL
set_option linter.unusedVariables false
set_option linter.unusedSimpArgs false
set_option maxRecDepth 8000
namespace Go.Proofs.Ytagcifbfokneoaa.Den
open Go Go.RowKit
section
variable {w w' w0 : World} {L L' F cs cs2 cs3 : List Chunk} {s s2 sb se sd : Value} {K : VK} {R : ER} {base d out : List Int} {E E' : List (Nat × Nat)} {n to i u x : Nat} {l : List Nat}
/-- The first of the holders in a list that is nearest. -/
theorem walk_nxt {f : Nat → Int} {k v j t : Nat} (hp : E'.Perm E) (hi : Inc E') (hV : Valid E n) (hj : (adjAt Prod.fst Prod.snd E' v)[j]? = some t) (hf : f t = k) (hb : ∀ y ∈ (adjAt Prod.fst Prod.snd E' v).take j, f y ≠ k) : nxt E n f k v = t := by
  have hmem := List.mem_of_getElem? hj
  have hE := hp.subset (adj_mem_h.1 hmem)
  refine nxt_eq (hV _ hE).2 hf hE fun u hu hh => ?_
  have hu' : u ∈ adjAt Prod.fst Prod.snd E' v := adj_mem_h.2 (hp.symm.subset hh.2)
  obtain ⟨q, hq, eq⟩ := List.getElem_of_mem hu'
  obtain ⟨hjl, ej⟩ := List.getElem?_eq_some_iff.1 hj
  have hs := List.pairwise_iff_getElem.1 (adj_sorted (v := v) hi)
  have hqj : q < j := by
    rcases Nat.lt_trichotomy q j with h | h | h
    · exact h
    · subst h; rw [ej] at eq; omega
    · have := hs j q hjl hq h; rw [ej, eq] at this; omega
  refine hb u ?_ hh.1
  rw [← eq]
  exact List.mem_take_iff_getElem.2 ⟨q, by omega, rfl⟩
theorem walk_spec {v m : Nat} (h0 : TS cU 3 s [v] cs) (h1 : NR cU w0 cs2 s2 (adj Prod.fst Prod.snd E' n)) (h2 : TR cI w0 cs3 sd d) (H : Hp w0 w (cs ++ L)) (m2 : ∀ c ∈ cs2, c ∈ L) (m3 : ∀ c ∈ cs3, c ∈ L)
    (hp : E'.Perm E) (hi : Inc E') (hV : Valid E n) (hl : n ≤ 256) (hel : E.length ≤ 4000) (hv : v < n) (hdl : d.length = n) (hD : IsD E n to (gt d)) (hml : m ≤ 300) (hex : m = 0 ∨ ∃ t, (v, t) ∈ E ∧ gt d t = (m : Int) - 1) :
    Calls Pg 45 ⟨[s, s2, sd, I m]⟩ w fun x w' => ∃ s cs, x = .returned s ∧ Hp w0 w' (cs ++ L) ∧ TS cU 3 s (chainP E n (gt d) m v) cs := by
  obtain ⟨hs, htop, hhl, hsub⟩ := h1
  have hhl' : hs.length = n := by rw [hhl, adj_len]
  apply F45_calls
  unfold F45 F45_j2
  refine loop4 (F45_l2_succ _) (fun r x0 x1 x2 x3 w => ∃ s cs l y, x0 = s ∧ x1 = s2 ∧ x2 = sd ∧ x3 = I (r : Int) ∧ y < n ∧ l.length + r = m ∧ (l ++ [y]) ++ (chainP E n (gt d) r y).tail = chainP E n (gt d) m v ∧ (r = 0 ∨ ∃ t, (y, t) ∈ E ∧ gt d t = (r : Int) - 1) ∧ TS cU 3 s (l ++ [y]) cs ∧ Hp w0 w (cs ++ L)) ?_ (m := m)
    ⟨_, cs, [], v, rfl, rfl, rfl, rfl, hv, by simp, by rw [List.nil_append, List.singleton_append]; exact chain_ne.symm, hex, h0, H⟩
  clear H h0 hex hv
  rintro r k s s2 sd _ w ⟨_, cs, l, y, rfl, rfl, rfl, rfl, hy, hlr, hch, hex, h0, H⟩ hk
  unfold F45_b1
  cases r with
  | zero =>
    repeat (first | simp only [cI_enc, cE_enc, cN_enc, W0] | refine lss_a ?_ | refine lss_b ?_ | refine gtr_a ?_ | refine gtr_b ?_ | refine geq_a ?_ | refine geq_b ?_ | refine leq_a ?_ | refine leq_b ?_ | refine eql_a ?_ | refine eql_b ?_ | refine neq_a ?_ | refine neq_b ?_ | refine add_a ?_ | refine sub_a ?_ | refine ld_a ?_ | refine ldA_a ?_ | refine ldS_a ?_ | refine ldNS_a ?_ | refine rdA_s ?_ | refine rd1_s ?_ | refine drew_a fun w1 H1 => ?_ | refine st_a fun w1 H1 => ?_ | refine stA_a fun w1 H1 => ?_ | refine lenT_a ?_ | refine lenO_a ?_ | refine ixT_a ?_ | refine ixO_a ?_ | fail)
    unfold F45_j1
    simp only [chainP, List.tail_cons, List.append_nil] at hch
    rw [← hch]
    exact ⟨_, cs, rfl, H, h0⟩
  | succ r =>
    have hex : ∃ t, (y, t) ∈ E ∧ gt d t = r := by
      rcases hex with h | ⟨t, h1, h2⟩
      · omega
      · exact ⟨t, h1, by omega⟩
    refine gtr_y (by omega) ?_
    unfold F45_j3 F45_j5
    repeat (first | simp only [cI_enc, cE_enc, cN_enc, W0] | refine lss_a ?_ | refine lss_b ?_ | refine gtr_a ?_ | refine gtr_b ?_ | refine geq_a ?_ | refine geq_b ?_ | refine leq_a ?_ | refine leq_b ?_ | refine eql_a ?_ | refine eql_b ?_ | refine neq_a ?_ | refine neq_b ?_ | refine add_a ?_ | refine sub_a ?_ | refine ld_a ?_ | refine ldA_a ?_ | refine ldS_a ?_ | refine ldNS_a ?_ | refine rdA_s ?_ | refine rd1_s ?_ | refine drew_a fun w1 H1 => ?_ | refine st_a fun w1 H1 => ?_ | refine stA_a fun w1 H1 => ?_ | refine lenT_a ?_ | refine lenO_a ?_ | refine ixT_a ?_ | refine ixO_a ?_ | fail)
    have hlast : (l ++ [y])[l.length]? = some y := by simp
    have e1 : (((l ++ [y]).length : Nat) : Int) - 1 = (l.length : Int) := by simp
    have hl4 : l.length ≤ 300 := by omega
    refine sub_k (by simp only [List.length_append, List.length_singleton]; omega) (by simp only [List.length_append, List.length_singleton]; omega) e1 ?_
    obtain ⟨ky, hky⟩ : ∃ ky, hs[y]? = some ky := ⟨_, List.getElem?_eq_getElem (by omega)⟩
    have hw := hsub y ky _ hky (adj_get hy)
    have hwl : (adjAt Prod.fst Prod.snd E' y).length ≤ 4000 := adjAt_len (by rw [hp.length_eq]; exact hel)
    refine ix1_t (C := cU) (TS.tr h0) H csub hlast rfl rfl ?_
    refine ix1_t (C := cS) htop H csub hky rfl rfl ?_
    repeat (first | simp only [cI_enc, cE_enc, cN_enc, W0] | refine lss_a ?_ | refine lss_b ?_ | refine gtr_a ?_ | refine gtr_b ?_ | refine geq_a ?_ | refine geq_b ?_ | refine leq_a ?_ | refine leq_b ?_ | refine eql_a ?_ | refine eql_b ?_ | refine neq_a ?_ | refine neq_b ?_ | refine add_a ?_ | refine sub_a ?_ | refine ld_a ?_ | refine ldA_a ?_ | refine ldS_a ?_ | refine ldNS_a ?_ | refine rdA_s ?_ | refine rd1_s ?_ | refine drew_a fun w1 H1 => ?_ | refine st_a fun w1 H1 => ?_ | refine stA_a fun w1 H1 => ?_ | refine lenT_a ?_ | refine lenO_a ?_ | refine ixT_a ?_ | refine ixO_a ?_ | fail)
    unfold F45_j6
    refine loop7 (F45_l1_succ _ _) (fun q x0 x1 x2 x3 x25 x26 x27 w => ∃ j : Nat, x0 = s ∧ x1 = s2 ∧ x2 = sd ∧ x3 = I ((r : Int) + 1) ∧ x25 = ky.val ∧ x26 = I ((adjAt Prod.fst Prod.snd E' y).length : Int) ∧ x27 = I j ∧ q + j = (adjAt Prod.fst Prod.snd E' y).length ∧ (∀ z ∈ (adjAt Prod.fst Prod.snd E' y).take j, gt d z ≠ r) ∧ Hp w0 w (cs ++ L)) ?_ (m := (adjAt Prod.fst Prod.snd E' y).length)
      ⟨0, rfl, rfl, rfl, rfl, rfl, rfl, rfl, rfl, by simp, H⟩
    clear H
    rintro q k2 s s2 sd _ _ _ _ w ⟨j, rfl, rfl, rfl, rfl, rfl, rfl, rfl, hq, hno, H⟩ hk2
    unfold F45_b2
    refine lss_k (fun hj => ?_) (fun hj => ?_)
    · have hx : (adjAt Prod.fst Prod.snd E' y)[j]? = some (adjAt Prod.fst Prod.snd E' y)[j] := List.getElem?_eq_getElem (by omega)
      have htk : (adjAt Prod.fst Prod.snd E' y).take (j + 1) = (adjAt Prod.fst Prod.snd E' y).take j ++ [(adjAt Prod.fst Prod.snd E' y)[j]] := by rw [List.take_add_one, hx]; rfl
      generalize (adjAt Prod.fst Prod.snd E' y)[j] = t at hx htk
      have htE := hp.subset (adj_mem_h.1 (List.mem_of_getElem? hx))
      have htn := (hV _ htE).2
      have htd : d[t]? = some (gt d t) := gt_some (by omega)
      unfold F45_j7
      repeat (first | simp only [cI_enc, cE_enc, cN_enc, W0] | refine lss_a ?_ | refine lss_b ?_ | refine gtr_a ?_ | refine gtr_b ?_ | refine geq_a ?_ | refine geq_b ?_ | refine leq_a ?_ | refine leq_b ?_ | refine eql_a ?_ | refine eql_b ?_ | refine neq_a ?_ | refine neq_b ?_ | refine add_a ?_ | refine sub_a ?_ | refine ld_a ?_ | refine ldA_a ?_ | refine ldS_a ?_ | refine ldNS_a ?_ | refine rdA_s ?_ | refine rd1_s ?_ | refine drew_a fun w1 H1 => ?_ | refine st_a fun w1 H1 => ?_ | refine stA_a fun w1 H1 => ?_ | refine lenT_a ?_ | refine lenO_a ?_ | refine ixT_a ?_ | refine ixO_a ?_ | fail)
      refine eql_k (fun hg => ?_) (fun hg => ?_)
      · repeat (first | simp only [cI_enc, cE_enc, cN_enc, W0] | refine lss_a ?_ | refine lss_b ?_ | refine gtr_a ?_ | refine gtr_b ?_ | refine geq_a ?_ | refine geq_b ?_ | refine leq_a ?_ | refine leq_b ?_ | refine eql_a ?_ | refine eql_b ?_ | refine neq_a ?_ | refine neq_b ?_ | refine add_a ?_ | refine sub_a ?_ | refine ld_a ?_ | refine ldA_a ?_ | refine ldS_a ?_ | refine ldNS_a ?_ | refine rdA_s ?_ | refine rd1_s ?_ | refine drew_a fun w1 H1 => ?_ | refine st_a fun w1 H1 => ?_ | refine stA_a fun w1 H1 => ?_ | refine lenT_a ?_ | refine lenO_a ?_ | refine ixT_a ?_ | refine ixO_a ?_ | fail)
        refine app1_t (x := t) elU H h0 spl rfl (by decide) (by simp; omega) (by simp; omega) fun w s5 cs5 H h5 => ?_
        unfold F45_j4
        repeat (first | simp only [cI_enc, cE_enc, cN_enc, W0] | refine lss_a ?_ | refine lss_b ?_ | refine gtr_a ?_ | refine gtr_b ?_ | refine geq_a ?_ | refine geq_b ?_ | refine leq_a ?_ | refine leq_b ?_ | refine eql_a ?_ | refine eql_b ?_ | refine neq_a ?_ | refine neq_b ?_ | refine add_a ?_ | refine sub_a ?_ | refine ld_a ?_ | refine ldA_a ?_ | refine ldS_a ?_ | refine ldNS_a ?_ | refine rdA_s ?_ | refine rd1_s ?_ | refine drew_a fun w1 H1 => ?_ | refine st_a fun w1 H1 => ?_ | refine stA_a fun w1 H1 => ?_ | refine lenT_a ?_ | refine lenO_a ?_ | refine ixT_a ?_ | refine ixO_a ?_ | fail)
        have e2 : (r : Int) + 1 - 1 = (r : Int) := by omega
        rw [e2]
        refine hk r _ _ _ _ _ (by omega) ⟨_, cs5, l ++ [y], t, rfl, rfl, rfl, rfl, htn, by simp; omega, ?_, ?_, h5, H⟩
        · rw [← hch, chainP, List.tail_cons, walk_nxt hp hi hV hx (by omega) hno, List.append_assoc (l ++ [y]), List.singleton_append, ← chain_ne]
        · cases r with
          | zero => exact .inl rfl
          | succ r =>
            have hg' : gt d t = (r : Int) + 1 := by omega
            obtain ⟨t', _, h2, h3, _⟩ := hD.least hV htn (k := r) hg'
            exact .inr ⟨t', h3, by omega⟩
      · repeat (first | simp only [cI_enc, cE_enc, cN_enc, W0] | refine lss_a ?_ | refine lss_b ?_ | refine gtr_a ?_ | refine gtr_b ?_ | refine geq_a ?_ | refine geq_b ?_ | refine leq_a ?_ | refine leq_b ?_ | refine eql_a ?_ | refine eql_b ?_ | refine neq_a ?_ | refine neq_b ?_ | refine add_a ?_ | refine sub_a ?_ | refine ld_a ?_ | refine ldA_a ?_ | refine ldS_a ?_ | refine ldNS_a ?_ | refine rdA_s ?_ | refine rd1_s ?_ | refine drew_a fun w1 H1 => ?_ | refine st_a fun w1 H1 => ?_ | refine stA_a fun w1 H1 => ?_ | refine lenT_a ?_ | refine lenO_a ?_ | refine ixT_a ?_ | refine ixO_a ?_ | fail)
        refine hk2 (q - 1) _ _ _ _ _ _ _ _ (by omega) ⟨j + 1, rfl, rfl, rfl, rfl, rfl, rfl, rfl, by omega, ?_, H⟩
        rw [htk]
        intro z hz
        rcases List.mem_append.1 hz with hz | hz
        · exact hno z hz
        · simp at hz; subst hz; omega
    · exfalso
      obtain ⟨t, h1, h2⟩ := hex
      rw [List.take_of_length_le (by omega)] at hno
      exact hno t (adj_mem_h.2 (hp.symm.subset h1)) h2
/-- What is kept while work is left. -/
theorem raise_spec {h : Nat} {p : Int} {bo bw : Nat} {so sw : Value} {work : List Nat} {co cw : List Chunk} (ho : TS cI 3 so out co) (hw : TS cU 3 sw work cw) (hh : h < out.length) (hwl : work.length ≤ 200000)
    (H : Hp w0 w (⟨bo, 22, [so]⟩ :: ⟨bw, 22, [sw]⟩ :: (co ++ (cw ++ L)))) :
    Calls Pg 59 ⟨[] ++ [I h, I p] ++ [ptr bo 0, ptr bw 0]⟩ w fun x w' => x = .returned (.tuple ⟨[]⟩) ∧
      if gt out h < p then ∃ sw' co' cw', TS cI 3 so (out.set h p) co' ∧ TS cU 3 sw' (work ++ [h]) cw' ∧ Hp w0 w' (⟨bo, 22, [so]⟩ :: ⟨bw, 22, [sw']⟩ :: (co' ++ (cw' ++ L)))
      else Hp w0 w' (⟨bo, 22, [so]⟩ :: ⟨bw, 22, [sw]⟩ :: (co ++ (cw ++ L))) := by
  have hx : out[h]? = some (gt out h) := gt_some hh
  apply F59_calls
  unfold F59
  repeat (first | simp only [cI_enc, cE_enc, cN_enc, W0] | refine lss_a ?_ | refine lss_b ?_ | refine gtr_a ?_ | refine gtr_b ?_ | refine geq_a ?_ | refine geq_b ?_ | refine leq_a ?_ | refine leq_b ?_ | refine eql_a ?_ | refine eql_b ?_ | refine neq_a ?_ | refine neq_b ?_ | refine add_a ?_ | refine sub_a ?_ | refine ld_a ?_ | refine ldA_a ?_ | refine ldS_a ?_ | refine ldNS_a ?_ | refine rdA_s ?_ | refine rd1_s ?_ | refine drew_a fun w1 H1 => ?_ | refine st_a fun w1 H1 => ?_ | refine stA_a fun w1 H1 => ?_ | refine lenT_a ?_ | refine lenO_a ?_ | refine ixT_a ?_ | refine ixO_a ?_ | fail)
  refine lss_k (fun hg => ?_) (fun hg => ?_)
  · repeat (first | simp only [cI_enc, cE_enc, cN_enc, W0] | refine lss_a ?_ | refine lss_b ?_ | refine gtr_a ?_ | refine gtr_b ?_ | refine geq_a ?_ | refine geq_b ?_ | refine leq_a ?_ | refine leq_b ?_ | refine eql_a ?_ | refine eql_b ?_ | refine neq_a ?_ | refine neq_b ?_ | refine add_a ?_ | refine sub_a ?_ | refine ld_a ?_ | refine ldA_a ?_ | refine ldS_a ?_ | refine ldNS_a ?_ | refine rdA_s ?_ | refine rd1_s ?_ | refine drew_a fun w1 H1 => ?_ | refine st_a fun w1 H1 => ?_ | refine stA_a fun w1 H1 => ?_ | refine lenT_a ?_ | refine lenO_a ?_ | refine ixT_a ?_ | refine ixO_a ?_ | fail)
    refine ist1_t (C := cI) (x := p) ho H spl hh rfl rfl fun w co' H ho' => ?_
    have H : Hp w0 w (⟨bo, 22, [so]⟩ :: ⟨bw, 22, [sw]⟩ :: (co' ++ (cw ++ L))) := H.re
    repeat (first | simp only [cI_enc, cE_enc, cN_enc, W0] | refine lss_a ?_ | refine lss_b ?_ | refine gtr_a ?_ | refine gtr_b ?_ | refine geq_a ?_ | refine geq_b ?_ | refine leq_a ?_ | refine leq_b ?_ | refine eql_a ?_ | refine eql_b ?_ | refine neq_a ?_ | refine neq_b ?_ | refine add_a ?_ | refine sub_a ?_ | refine ld_a ?_ | refine ldA_a ?_ | refine ldS_a ?_ | refine ldNS_a ?_ | refine rdA_s ?_ | refine rd1_s ?_ | refine drew_a fun w1 H1 => ?_ | refine st_a fun w1 H1 => ?_ | refine stA_a fun w1 H1 => ?_ | refine lenT_a ?_ | refine lenO_a ?_ | refine ixT_a ?_ | refine ixO_a ?_ | fail)
    refine app1_t (x := h) elU H hw spl rfl (by decide) (by omega) (by omega) fun w sw' cw' H hw' => ?_
    have hsc := hw'.sc
    have H : Hp w0 w (⟨bo, 22, [so]⟩ :: ⟨bw, 22, [sw]⟩ :: (co' ++ (cw' ++ L))) := H.re
    repeat (first | simp only [cI_enc, cE_enc, cN_enc, W0] | refine lss_a ?_ | refine lss_b ?_ | refine gtr_a ?_ | refine gtr_b ?_ | refine geq_a ?_ | refine geq_b ?_ | refine leq_a ?_ | refine leq_b ?_ | refine eql_a ?_ | refine eql_b ?_ | refine neq_a ?_ | refine neq_b ?_ | refine add_a ?_ | refine sub_a ?_ | refine ld_a ?_ | refine ldA_a ?_ | refine ldS_a ?_ | refine ldNS_a ?_ | refine rdA_s ?_ | refine rd1_s ?_ | refine drew_a fun w1 H1 => ?_ | refine st_a fun w1 H1 => ?_ | refine stA_a fun w1 H1 => ?_ | refine lenT_a ?_ | refine lenO_a ?_ | refine ixT_a ?_ | refine ixO_a ?_ | fail)
    refine ⟨(by first | rfl | trivial), ?_⟩
    rw [if_pos hg]
    exact ⟨sw', co', cw', ho', hw', by assumption⟩
  · repeat (first | simp only [cI_enc, cE_enc, cN_enc, W0] | refine lss_a ?_ | refine lss_b ?_ | refine gtr_a ?_ | refine gtr_b ?_ | refine geq_a ?_ | refine geq_b ?_ | refine leq_a ?_ | refine leq_b ?_ | refine eql_a ?_ | refine eql_b ?_ | refine neq_a ?_ | refine neq_b ?_ | refine add_a ?_ | refine sub_a ?_ | refine ld_a ?_ | refine ldA_a ?_ | refine ldS_a ?_ | refine ldNS_a ?_ | refine rdA_s ?_ | refine rd1_s ?_ | refine drew_a fun w1 H1 => ?_ | refine st_a fun w1 H1 => ?_ | refine stA_a fun w1 H1 => ?_ | refine lenT_a ?_ | refine lenO_a ?_ | refine ixT_a ?_ | refine ixO_a ?_ | fail)
    refine ⟨(by first | rfl | trivial), ?_⟩
    rw [if_neg hg]
    exact H
theorem Clone_spec {xs : List Int} (h : TR cI w0 cs s xs) (H : Hp w0 w L) (m1 : ∀ c ∈ cs, c ∈ L) (hl : xs.length ≤ 4000) :
    Calls Pg 50 ⟨[s]⟩ w fun x w' => ∃ s' cs', x = .returned s' ∧ Hp w0 w' (cs' ++ L) ∧ TS cI 3 s' xs cs' := by
  apply F50_calls
  unfold F50
  obtain ⟨⟨a, n, c⟩, rfl⟩ := h.sh
  cases a with
  | none =>
    have hx : xs = [] := by
      have hlen : xs.length = 0 := by
        rcases h with (⟨c, e, h0, _⟩ | ⟨a, c, e, _⟩) | ⟨b, o, c, e, l, e2, _⟩
        · simpa [cI] using h0
        · cases e
        · cases e2
      exact List.length_eq_zero_iff.1 hlen
    subst hx
    unfold Sh.val
    repeat (first | simp only [cI_enc, cE_enc, cN_enc, W0] | refine lss_a ?_ | refine lss_b ?_ | refine gtr_a ?_ | refine gtr_b ?_ | refine geq_a ?_ | refine geq_b ?_ | refine leq_a ?_ | refine leq_b ?_ | refine eql_a ?_ | refine eql_b ?_ | refine neq_a ?_ | refine neq_b ?_ | refine add_a ?_ | refine sub_a ?_ | refine ld_a ?_ | refine ldA_a ?_ | refine ldS_a ?_ | refine ldNS_a ?_ | refine rdA_s ?_ | refine rd1_s ?_ | refine drew_a fun w1 H1 => ?_ | refine st_a fun w1 H1 => ?_ | refine stA_a fun w1 H1 => ?_ | refine lenT_a ?_ | refine lenO_a ?_ | refine ixT_a ?_ | refine ixO_a ?_ | fail)
    exact ⟨_, [], (by first | rfl | trivial), H, TS.nil⟩
  | some a =>
    have h' := h
    unfold Sh.val at h' ⊢
    repeat (first | simp only [cI_enc, cE_enc, cN_enc, W0] | refine lss_a ?_ | refine lss_b ?_ | refine gtr_a ?_ | refine gtr_b ?_ | refine geq_a ?_ | refine geq_b ?_ | refine leq_a ?_ | refine leq_b ?_ | refine eql_a ?_ | refine eql_b ?_ | refine neq_a ?_ | refine neq_b ?_ | refine add_a ?_ | refine sub_a ?_ | refine ld_a ?_ | refine ldA_a ?_ | refine ldS_a ?_ | refine ldNS_a ?_ | refine rdA_s ?_ | refine rd1_s ?_ | refine drew_a fun w1 H1 => ?_ | refine st_a fun w1 H1 => ?_ | refine stA_a fun w1 H1 => ?_ | refine lenT_a ?_ | refine lenO_a ?_ | refine ixT_a ?_ | refine ixO_a ?_ | fail)
    refine lit0_t elI H fun w s0 H hs0 => ?_
    refine append_t elI H hs0 spl h' csub (by simp; omega) (by simp; omega) fun w s2 cs2 H hs2 => ?_
    exact ⟨s2, cs2, rfl, H, hs2⟩
end
end Go.Proofs.Ytagcifbfokneoaa.Den
