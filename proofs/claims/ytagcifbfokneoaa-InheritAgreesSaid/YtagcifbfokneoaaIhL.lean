/- Inherit: breadth first, and chains, of the program. Conditions: none. -/
import Derived.Test.YtagcifbfokneoaaIhK
set_option linter.unusedVariables false
set_option linter.unusedSimpArgs false
set_option maxRecDepth 8000
set_option maxHeartbeats 1000000
namespace Go.Proofs.Ytagcifbfokneoaa.Den
open Go Go.RowKit
section
variable {w w' w0 : World} {L L' F cs cs2 cs3 : List Chunk} {s s2 sb se sd : Value} {K : VK} {R : ER} {base d out : List Int} {E : List (Nat × Nat)} {n to i u x : Nat} {l : List Nat}
theorem adj_mem_w {a v : Nat} : a ∈ adjAt Prod.snd Prod.fst E v ↔ (a, v) ∈ E := by
  simp only [adjAt, List.mem_map, List.mem_filter, beq_iff_eq]
  constructor
  · rintro ⟨⟨p, q⟩, ⟨h1, h2⟩, h3⟩; simp only at h2 h3; subst h2; subst h3; exact h1
  · intro h; exact ⟨(a, v), ⟨h, rfl⟩, rfl⟩
theorem adj_mem_h {a v : Nat} : a ∈ adjAt Prod.fst Prod.snd E v ↔ (v, a) ∈ E := by
  simp only [adjAt, List.mem_map, List.mem_filter, beq_iff_eq]
  constructor
  · rintro ⟨⟨p, q⟩, ⟨h1, h2⟩, h3⟩; simp only at h2 h3; subst h2; subst h3; exact h1
  · intro h; exact ⟨(v, a), ⟨h, rfl⟩, rfl⟩
theorem adj_sorted {v : Nat} (h : Inc E) : (adjAt Prod.fst Prod.snd E v).Pairwise (· < ·) := by
  unfold adjAt
  rw [List.pairwise_map, List.pairwise_filter]
  refine h.imp ?_
  intro a b hab h1 h2
  simp only [ltN, decide_eq_true_eq] at hab
  simp only [beq_iff_eq] at h1 h2
  omega
structure Bf (E : List (Nat × Nat)) (n to i : Nat) (out : List Int) (l : List Nat) : Prop where
  len : out.length = n
  to0 : gt out to = 0
  val : ∀ v, v < n → gt out v < 0 → gt out v = -1
  why : ∀ v, v < n → 0 ≤ gt out v → ∃ k : Nat, gt out v = k ∧ PathN E k v to
  mem : ∀ v, v ∈ l ↔ v < n ∧ 0 ≤ gt out v
  nd : l.Nodup
  srt : l.Pairwise fun a b => gt out a ≤ gt out b
  cl : ∀ j u, j < i → l[j]? = some u → ∀ a, (a, u) ∈ E → 0 ≤ gt out a ∧ gt out a ≤ gt out u + 1
  bd : ∀ v ∈ l, gt out v < l.length
theorem gt_m1 {m : Nat} : ∀ {v : Nat}, v < m → gt (List.replicate m (-1)) v = -1 := fun h => gt_rep h
theorem Bf.start (h : to < n) : Bf E n to 0 ((List.replicate n (-1)).set to 0) [to] := by
  have g : ∀ v, v < n → gt ((List.replicate n (-1 : Int)).set to 0) v = if v = to then 0 else -1 := fun v hv => by
    rw [gt_set (by simpa using h), gt_m1 hv]
  refine ⟨by simp, by rw [g to h, if_pos rfl], fun v hv hn => ?_, fun v hv hn => ?_, fun v => ?_, by simp, by simp, fun j u hj => by omega, by
    intro v hv; simp at hv; subst hv; rw [g v h, if_pos rfl]; simp⟩
  · rw [g v hv] at hn ⊢; split at hn <;> simp_all
  · rw [g v hv] at hn ⊢
    split at hn
    · rename_i e; subst e; exact ⟨0, by simp, .zero _⟩
    · omega
  · rw [List.mem_singleton]
    constructor
    · rintro rfl; exact ⟨h, by rw [g v h, if_pos rfl]; omega⟩
    · rintro ⟨hv, h0⟩
      rw [g v hv] at h0
      split at h0
      · assumption
      · omega
theorem Bf.llen (h : Bf E n to i out l) : l.length ≤ n := nodup_lt n l h.nd fun x hx => ((h.mem x).1 hx).1
theorem Bf.add (h : Bf E n to i out l) (hu : l[i]? = some u) (htop : ∀ v ∈ l, gt out v ≤ gt out u + 1) (hx : x < n) (he : (x, u) ∈ E) (hneg : gt out x < 0) :
    Bf E n to i (out.set x (gt out u + 1)) (l ++ [x]) ∧ (l ++ [x])[i]? = some u ∧ (∀ v, v < n → 0 ≤ gt out v → gt (out.set x (gt out u + 1)) v = gt out v) ∧ gt (out.set x (gt out u + 1)) x = gt out u + 1 ∧ (∀ v ∈ l ++ [x], gt (out.set x (gt out u + 1)) v ≤ gt out u + 1) := by
  have hul : u ∈ l := List.mem_of_getElem? hu
  have hu0 := ((h.mem u).1 hul).2
  have g : ∀ v, gt (out.set x (gt out u + 1)) v = if v = x then gt out u + 1 else gt out v := fun v => gt_set (by rw [h.len]; exact hx)
  have gne : ∀ v, 0 ≤ gt out v → gt (out.set x (gt out u + 1)) v = gt out v := fun v hv => by
    rw [g, if_neg]; rintro rfl; omega
  have gl : ∀ v ∈ l, gt (out.set x (gt out u + 1)) v = gt out v := fun v hv => gne v ((h.mem v).1 hv).2
  have htop' : ∀ v ∈ l ++ [x], gt (out.set x (gt out u + 1)) v ≤ gt out u + 1 := by
    intro v hv
    rcases List.mem_append.1 hv with hv | hv
    · rw [gl v hv]; exact htop v hv
    · simp at hv; subst hv; rw [g, if_pos rfl]; omega
  have hil : i < l.length := (List.getElem?_eq_some_iff.1 hu).1
  refine ⟨⟨by simp [h.len], by rw [gne to (by rw [h.to0]; omega)]; exact h.to0, fun v hv hn => ?_, fun v hv hn => ?_, fun v => ?_, ?_, ?_, fun j u' hj hju a ha => ?_, fun v hv => by
    rw [List.length_append, List.length_singleton]
    have hub := h.bd u hul
    rcases List.mem_append.1 hv with hv | hv
    · rw [gl v hv]; have := h.bd v hv; omega
    · simp at hv; subst hv; rw [g, if_pos rfl]; omega⟩, by rw [List.getElem?_append_left hil]; exact hu, fun v _ hv => gne v hv, by rw [g, if_pos rfl], htop'⟩
  · rw [g] at hn ⊢
    split at hn
    · omega
    · rename_i e; rw [if_neg e]; exact h.val v hv hn
  · rw [g] at hn ⊢
    split at hn
    · rename_i e; subst e
      obtain ⟨k, ek, p⟩ := h.why u ((h.mem u).1 hul).1 hu0
      exact ⟨k + 1, by rw [if_pos rfl]; omega, .succ he p⟩
    · rename_i e; rw [if_neg e]; exact h.why v hv hn
  · rw [List.mem_append, h.mem, List.mem_singleton, g]
    by_cases e : v = x
    · subst e; simp only [if_true, or_true, true_iff]; exact ⟨hx, by omega⟩
    · rw [if_neg e]; simp [e]
  · rw [List.nodup_append]
    refine ⟨h.nd, by simp, fun a ha b hb => ?_⟩
    simp at hb; subst hb
    rintro rfl
    have := ((h.mem a).1 ha).2; omega
  · rw [List.pairwise_append]
    refine ⟨h.srt.imp_of_mem fun {a b} ha hb hab => by rw [gl a ha, gl b hb]; exact hab, by simp, fun a ha b hb => ?_⟩
    simp at hb; subst hb
    have : gt (out.set b (gt out u + 1)) b = gt out u + 1 := by rw [g, if_pos rfl]
    rw [this]
    exact htop' a (List.mem_append_left _ ha)
  · have hju' : l[j]? = some u' := by
      rw [List.getElem?_append_left (by omega)] at hju; exact hju
    obtain ⟨c1, c2⟩ := h.cl j u' hj hju' a ha
    have hu' := ((h.mem u').1 (List.mem_of_getElem? hju')).2
    rw [gne a c1, gne u' hu']
    exact ⟨c1, c2⟩
theorem Bf.next (h : Bf E n to i out l) (hu : l[i]? = some u) (hd : ∀ a, (a, u) ∈ E → 0 ≤ gt out a ∧ gt out a ≤ gt out u + 1) : Bf E n to (i + 1) out l :=
  { len := h.len, to0 := h.to0, val := h.val, why := h.why, mem := h.mem, nd := h.nd, srt := h.srt, cl := fun j u' hj hju a ha => by
      by_cases e : j = i
      · subst e; rw [hu] at hju; injection hju with hju; subst hju; exact hd a ha
      · exact h.cl j u' (by omega) hju a ha, bd := h.bd }
theorem Bf.top (h : Bf E n to i out l) (hu : l[i]? = some u) (htop : ∀ v ∈ l, gt out v ≤ gt out u + 1) {u' : Nat} (hu' : l[i + 1]? = some u') : ∀ v ∈ l, gt out v ≤ gt out u' + 1 := by
  intro v hv
  have h1 := htop v hv
  obtain ⟨p1, q1⟩ := List.getElem?_eq_some_iff.1 hu
  obtain ⟨p2, q2⟩ := List.getElem?_eq_some_iff.1 hu'
  have := List.pairwise_iff_getElem.1 h.srt i (i + 1) p1 p2 (by omega)
  rw [q1, q2] at this
  omega
theorem Bf.isD (h : Bf E n to l.length out l) (hV : Valid E n) : IsD E n to (gt out) := by
  refine IsD.of hV h.to0 (fun e he h0 => ?_) h.why h.val
  have hm : e.2 ∈ l := (h.mem _).2 ⟨(hV e he).2, h0⟩
  obtain ⟨j, hj, ej⟩ := List.getElem_of_mem hm
  exact h.cl j e.2 hj (by rw [List.getElem?_eq_getElem hj, ej]) e.1 he
theorem dist_spec {css : List Chunk} (h1 : NR cU w0 cs s (adj Prod.snd Prod.fst E n)) (H : Hp w0 w L) (m1 : ∀ c ∈ cs, c ∈ L) (hV : Valid E n) (hl : n ≤ 256) (hel : E.length ≤ 4000) (hto : to < n) :
    Calls Pg 43 ⟨[s, I to]⟩ w fun x w' => ∃ s cs d, x = .returned s ∧ Hp w0 w' (cs ++ L) ∧ TS cI 3 s d cs ∧ d.length = n ∧ IsD E n to (gt d) := by
  obtain ⟨hs, htop, hhl, hsub⟩ := h1
  have hhl' : hs.length = n := by rw [hhl, adj_len]
  apply F43_calls
  unfold F43
  repeat (first | simp only [cI_enc, cE_enc, cN_enc, W0] | refine lss_a ?_ | refine lss_b ?_ | refine gtr_a ?_ | refine gtr_b ?_ | refine geq_a ?_ | refine geq_b ?_ | refine leq_a ?_ | refine leq_b ?_ | refine eql_a ?_ | refine eql_b ?_ | refine neq_a ?_ | refine neq_b ?_ | refine add_a ?_ | refine sub_a ?_ | refine ld_a ?_ | refine ldA_a ?_ | refine ldS_a ?_ | refine ldNS_a ?_ | refine rdA_s ?_ | refine rd1_s ?_ | refine drew_a fun w1 H1 => ?_ | refine st_a fun w1 H1 => ?_ | refine stA_a fun w1 H1 => ?_ | refine lenT_a ?_ | refine lenO_a ?_ | refine ixT_a ?_ | refine ixO_a ?_ | fail)
  refine make_t (C := cI) (x := 0) elI rfl H (by rw [hhl']) (by omega) (by omega) fun w s0 cs0 H hs0 => ?_
  unfold F43_j14
  repeat (first | simp only [cI_enc, cE_enc, cN_enc, W0] | refine lss_a ?_ | refine lss_b ?_ | refine gtr_a ?_ | refine gtr_b ?_ | refine geq_a ?_ | refine geq_b ?_ | refine leq_a ?_ | refine leq_b ?_ | refine eql_a ?_ | refine eql_b ?_ | refine neq_a ?_ | refine neq_b ?_ | refine add_a ?_ | refine sub_a ?_ | refine ld_a ?_ | refine ldA_a ?_ | refine ldS_a ?_ | refine ldNS_a ?_ | refine rdA_s ?_ | refine rd1_s ?_ | refine drew_a fun w1 H1 => ?_ | refine st_a fun w1 H1 => ?_ | refine stA_a fun w1 H1 => ?_ | refine lenT_a ?_ | refine lenO_a ?_ | refine ixT_a ?_ | refine ixO_a ?_ | fail)
  rw [List.length_replicate]
  unfold F43_j15
  refine loop5 (F43_l3_succ _) (fun m x0 x1 x5 x15 x16 w => ∃ i : Nat, ∃ cs o, x0 = s ∧ x1 = I to ∧ x5 = s0 ∧ x15 = I n ∧ x16 = I i ∧ m + i = n ∧ o.length = n ∧ o.take i = List.replicate i (-1) ∧ TS cI 3 s0 o cs ∧ Hp w0 w (cs ++ L)) ?_ (m := n)
    ⟨0, cs0, _, rfl, rfl, rfl, rfl, rfl, by omega, by simp, by simp, hs0, H⟩
  clear H hs0
  rintro m k s _ s0 _ _ w ⟨i, cs0, o, rfl, rfl, rfl, rfl, rfl, hm, hol, hot, hs0, H⟩ hk
  unfold F43_b3
  refine lss_k (fun hi => ?_) (fun hi => ?_)
  · repeat (first | simp only [cI_enc, cE_enc, cN_enc, W0] | refine lss_a ?_ | refine lss_b ?_ | refine gtr_a ?_ | refine gtr_b ?_ | refine geq_a ?_ | refine geq_b ?_ | refine leq_a ?_ | refine leq_b ?_ | refine eql_a ?_ | refine eql_b ?_ | refine neq_a ?_ | refine neq_b ?_ | refine add_a ?_ | refine sub_a ?_ | refine ld_a ?_ | refine ldA_a ?_ | refine ldS_a ?_ | refine ldNS_a ?_ | refine rdA_s ?_ | refine rd1_s ?_ | refine drew_a fun w1 H1 => ?_ | refine st_a fun w1 H1 => ?_ | refine stA_a fun w1 H1 => ?_ | refine lenT_a ?_ | refine lenO_a ?_ | refine ixT_a ?_ | refine ixO_a ?_ | fail)
    refine ist1_t (C := cI) (x := -1) hs0 H spl (by omega) rfl rfl fun w cs0 H hs0 => ?_
    repeat (first | simp only [cI_enc, cE_enc, cN_enc, W0] | refine lss_a ?_ | refine lss_b ?_ | refine gtr_a ?_ | refine gtr_b ?_ | refine geq_a ?_ | refine geq_b ?_ | refine leq_a ?_ | refine leq_b ?_ | refine eql_a ?_ | refine eql_b ?_ | refine neq_a ?_ | refine neq_b ?_ | refine add_a ?_ | refine sub_a ?_ | refine ld_a ?_ | refine ldA_a ?_ | refine ldS_a ?_ | refine ldNS_a ?_ | refine rdA_s ?_ | refine rd1_s ?_ | refine drew_a fun w1 H1 => ?_ | refine st_a fun w1 H1 => ?_ | refine stA_a fun w1 H1 => ?_ | refine lenT_a ?_ | refine lenO_a ?_ | refine ixT_a ?_ | refine ixO_a ?_ | fail)
    refine hk (m - 1) _ _ _ _ _ _ (by omega) ⟨i + 1, cs0, _, rfl, rfl, rfl, rfl, rfl, by omega, by simp [hol], ?_, hs0, H⟩
    apply List.ext_getElem?; intro j
    by_cases hj : j < i + 1
    · rw [List.getElem?_take, if_pos hj]
      by_cases e : i = j
      · subst e; rw [List.getElem?_set_self (by omega)]; simp
      · rw [List.getElem?_set_ne e]
        have := congrArg (·[j]?) hot
        simp only [List.getElem?_take] at this
        rw [if_pos (by omega)] at this
        rw [this, List.getElem?_replicate, List.getElem?_replicate, if_pos (by omega), if_pos hj]
    · rw [List.getElem?_eq_none (by simp; omega), List.getElem?_eq_none (by simp; omega)]
  · repeat (first | simp only [cI_enc, cE_enc, cN_enc, W0] | refine lss_a ?_ | refine lss_b ?_ | refine gtr_a ?_ | refine gtr_b ?_ | refine geq_a ?_ | refine geq_b ?_ | refine leq_a ?_ | refine leq_b ?_ | refine eql_a ?_ | refine eql_b ?_ | refine neq_a ?_ | refine neq_b ?_ | refine add_a ?_ | refine sub_a ?_ | refine ld_a ?_ | refine ldA_a ?_ | refine ldS_a ?_ | refine ldNS_a ?_ | refine rdA_s ?_ | refine rd1_s ?_ | refine drew_a fun w1 H1 => ?_ | refine st_a fun w1 H1 => ?_ | refine stA_a fun w1 H1 => ?_ | refine lenT_a ?_ | refine lenO_a ?_ | refine ixT_a ?_ | refine ixO_a ?_ | fail)
    obtain rfl : i = n := by omega
    rw [List.take_of_length_le (by omega)] at hot
    subst hot
    unfold F43_j1
    refine ist1_t (C := cI) (x := 0) hs0 H spl (by simpa using hto) rfl rfl fun w cs0 H hs0 => ?_
    refine lit1_t (C := cU) (x := to) elU H rfl (by decide) fun w s1 cs1 H hs1 => ?_
    unfold F43_j3 F43_j4
    refine loop4 (F43_l2_succ _) (fun m x0 x5 x7 x8 w => ∃ j : Nat, ∃ cs0 cs1 o l s1, x0 = s ∧ x5 = s0 ∧ x7 = s1 ∧ x8 = I j ∧ m + j = i ∧ j ≤ l.length ∧ Bf E i to j o l ∧ (∀ u, l[j]? = some u → ∀ v ∈ l, gt o v ≤ gt o u + 1) ∧ TS cI 3 s0 o cs0 ∧ TS cU 3 s1 l cs1 ∧ Hp w0 w (cs1 ++ (cs0 ++ L))) ?_ (m := i)
      ⟨0, cs0, cs1, _, _, _, rfl, rfl, rfl, rfl, by omega, by simp, Bf.start hto, ?_, hs0, hs1, H⟩
    rotate_left
    · intro u hu v hv
      simp only [List.getElem?_cons_zero, Option.some.injEq] at hu; subst hu
      simp at hv; subst hv; omega
    clear hk
    rintro m k s s0 _ _ w ⟨j, cs0, cs1, o, l, s1, rfl, rfl, rfl, rfl, hm, hjl, hB, htp, hs0, hs1, H⟩ hk
    have hll := hB.llen
    unfold F43_b1
    repeat (first | simp only [cI_enc, cE_enc, cN_enc, W0] | refine lss_a ?_ | refine lss_b ?_ | refine gtr_a ?_ | refine gtr_b ?_ | refine geq_a ?_ | refine geq_b ?_ | refine leq_a ?_ | refine leq_b ?_ | refine eql_a ?_ | refine eql_b ?_ | refine neq_a ?_ | refine neq_b ?_ | refine add_a ?_ | refine sub_a ?_ | refine ld_a ?_ | refine ldA_a ?_ | refine ldS_a ?_ | refine ldNS_a ?_ | refine rdA_s ?_ | refine rd1_s ?_ | refine drew_a fun w1 H1 => ?_ | refine st_a fun w1 H1 => ?_ | refine stA_a fun w1 H1 => ?_ | refine lenT_a ?_ | refine lenO_a ?_ | refine ixT_a ?_ | refine ixO_a ?_ | fail)
    refine lss_k (fun hi => ?_) (fun hi => ?_)
    · obtain ⟨u, hu⟩ : ∃ u, l[j]? = some u := ⟨_, List.getElem?_eq_getElem (by omega)⟩
      have hun := (hB.mem u).1 (List.mem_of_getElem? hu)
      obtain ⟨ku, hku⟩ : ∃ ku, hs[u]? = some ku := ⟨_, List.getElem?_eq_getElem (by omega)⟩
      have hw := hsub u ku _ hku (adj_get hun.1)
      have hwl : (adjAt Prod.snd Prod.fst E u).length ≤ 4000 := adjAt_len hel
      unfold F43_j5 F43_j7
      refine ix1_t (C := cU) (TS.tr hs1) H csub hu rfl rfl ?_
      refine ix1_t (C := cS) htop H csub hku rfl rfl ?_
      repeat (first | simp only [cI_enc, cE_enc, cN_enc, W0] | refine lss_a ?_ | refine lss_b ?_ | refine gtr_a ?_ | refine gtr_b ?_ | refine geq_a ?_ | refine geq_b ?_ | refine leq_a ?_ | refine leq_b ?_ | refine eql_a ?_ | refine eql_b ?_ | refine neq_a ?_ | refine neq_b ?_ | refine add_a ?_ | refine sub_a ?_ | refine ld_a ?_ | refine ldA_a ?_ | refine ldS_a ?_ | refine ldNS_a ?_ | refine rdA_s ?_ | refine rd1_s ?_ | refine drew_a fun w1 H1 => ?_ | refine st_a fun w1 H1 => ?_ | refine stA_a fun w1 H1 => ?_ | refine lenT_a ?_ | refine lenO_a ?_ | refine ixT_a ?_ | refine ixO_a ?_ | fail)
      unfold F43_j8
      refine loop7 (F43_l1_succ _ _) (fun m x0 x5 x7 x8 x40 x41 x42 w => ∃ q : Nat, ∃ cs0 cs1 o l s1, x0 = s ∧ x5 = s0 ∧ x7 = s1 ∧ x8 = I j ∧ x40 = ku.val ∧ x41 = I ((adjAt Prod.snd Prod.fst E u).length : Int) ∧ x42 = I q ∧ m + q = (adjAt Prod.snd Prod.fst E u).length ∧ Bf E i to j o l ∧ l[j]? = some u ∧ (∀ v ∈ l, gt o v ≤ gt o u + 1) ∧
          (∀ a ∈ (adjAt Prod.snd Prod.fst E u).take q, 0 ≤ gt o a ∧ gt o a ≤ gt o u + 1) ∧ TS cI 3 s0 o cs0 ∧ TS cU 3 s1 l cs1 ∧ Hp w0 w (cs1 ++ (cs0 ++ L))) ?_ (m := (adjAt Prod.snd Prod.fst E u).length)
        ⟨0, cs0, cs1, o, l, _, rfl, rfl, rfl, rfl, rfl, rfl, rfl, rfl, hB, hu, htp u hu, by simp, hs0, hs1, H⟩
      clear H hs0 hs1 hB htp hu hjl hll hun
      rintro mm k2 s s0 _ _ _ _ _ w ⟨q, cs0, cs1, o, l, s1, rfl, rfl, rfl, rfl, rfl, rfl, rfl, hmm, hB, hu, htp, hdn, hs0, hs1, H⟩ hk2
      have hll := hB.llen
      have hun := (hB.mem u).1 (List.mem_of_getElem? hu)
      have huo : o[u]? = some (gt o u) := gt_some (by rw [hB.len]; exact hun.1)
      unfold F43_b2
      refine lss_k (fun hq => ?_) (fun hq => ?_)
      · have hx : (adjAt Prod.snd Prod.fst E u)[q]? = some (adjAt Prod.snd Prod.fst E u)[q] := List.getElem?_eq_getElem (by omega)
        have hmem : (adjAt Prod.snd Prod.fst E u)[q] ∈ adjAt Prod.snd Prod.fst E u := List.getElem_mem _
        have htk : (adjAt Prod.snd Prod.fst E u).take (q + 1) = (adjAt Prod.snd Prod.fst E u).take q ++ [(adjAt Prod.snd Prod.fst E u)[q]] := by rw [List.take_add_one, hx]; rfl
        generalize (adjAt Prod.snd Prod.fst E u)[q] = x at hx hmem htk
        have hxe := adj_mem_w.1 hmem
        have hxn := (hV _ hxe).1
        have hxo : o[x]? = some (gt o x) := gt_some (by rw [hB.len]; exact hxn)
        unfold F43_j9 F43_j11
        repeat (first | simp only [cI_enc, cE_enc, cN_enc, W0] | refine lss_a ?_ | refine lss_b ?_ | refine gtr_a ?_ | refine gtr_b ?_ | refine geq_a ?_ | refine geq_b ?_ | refine leq_a ?_ | refine leq_b ?_ | refine eql_a ?_ | refine eql_b ?_ | refine neq_a ?_ | refine neq_b ?_ | refine add_a ?_ | refine sub_a ?_ | refine ld_a ?_ | refine ldA_a ?_ | refine ldS_a ?_ | refine ldNS_a ?_ | refine rdA_s ?_ | refine rd1_s ?_ | refine drew_a fun w1 H1 => ?_ | refine st_a fun w1 H1 => ?_ | refine stA_a fun w1 H1 => ?_ | refine lenT_a ?_ | refine lenO_a ?_ | refine ixT_a ?_ | refine ixO_a ?_ | fail)
        refine lss_k (fun hg => ?_) (fun hg => ?_)
        · have hgle : gt o u ≤ i := by
            have := hB.bd u (List.mem_of_getElem? hu)
            omega
          unfold F43_j12 F43_j13
          repeat (first | simp only [cI_enc, cE_enc, cN_enc, W0] | refine lss_a ?_ | refine lss_b ?_ | refine gtr_a ?_ | refine gtr_b ?_ | refine geq_a ?_ | refine geq_b ?_ | refine leq_a ?_ | refine leq_b ?_ | refine eql_a ?_ | refine eql_b ?_ | refine neq_a ?_ | refine neq_b ?_ | refine add_a ?_ | refine sub_a ?_ | refine ld_a ?_ | refine ldA_a ?_ | refine ldS_a ?_ | refine ldNS_a ?_ | refine rdA_s ?_ | refine rd1_s ?_ | refine drew_a fun w1 H1 => ?_ | refine st_a fun w1 H1 => ?_ | refine stA_a fun w1 H1 => ?_ | refine lenT_a ?_ | refine lenO_a ?_ | refine ixT_a ?_ | refine ixO_a ?_ | fail)
          obtain ⟨a1, a2, a3, a4, a5⟩ := hB.add hu htp hxn hxe hg
          refine ist1_t (C := cI) (x := gt o u + 1) hs0 H spl (by rw [hB.len]; exact hxn) rfl rfl fun w cs0 H hs0 => ?_
          refine app1_t (x := x) elU H hs1 spl rfl (by decide) (by omega) (by omega) fun w s2 cs2 H hs2 => ?_
          unfold F43_j10
          repeat (first | simp only [cI_enc, cE_enc, cN_enc, W0] | refine lss_a ?_ | refine lss_b ?_ | refine gtr_a ?_ | refine gtr_b ?_ | refine geq_a ?_ | refine geq_b ?_ | refine leq_a ?_ | refine leq_b ?_ | refine eql_a ?_ | refine eql_b ?_ | refine neq_a ?_ | refine neq_b ?_ | refine add_a ?_ | refine sub_a ?_ | refine ld_a ?_ | refine ldA_a ?_ | refine ldS_a ?_ | refine ldNS_a ?_ | refine rdA_s ?_ | refine rd1_s ?_ | refine drew_a fun w1 H1 => ?_ | refine st_a fun w1 H1 => ?_ | refine stA_a fun w1 H1 => ?_ | refine lenT_a ?_ | refine lenO_a ?_ | refine ixT_a ?_ | refine ixO_a ?_ | fail)
          refine hk2 (mm - 1) _ _ _ _ _ _ _ _ (by omega) ⟨q + 1, cs0, cs2, _, _, _, rfl, rfl, rfl, rfl, rfl, rfl, rfl, by omega, a1, a2, ?_, ?_, hs0, hs2, H.re⟩
          · intro v hv; rw [a3 u hun.1 hun.2]; exact a5 v hv
          · rw [htk, a3 u hun.1 hun.2]
            intro a ha
            rcases List.mem_append.1 ha with ha | ha
            · have := hdn a ha
              have haE := adj_mem_w.1 (List.mem_of_mem_take ha)
              rw [a3 a (hV _ haE).1 this.1]; exact this
            · simp at ha; subst ha; rw [a4]; omega
        · unfold F43_j12 F43_j10
          repeat (first | simp only [cI_enc, cE_enc, cN_enc, W0] | refine lss_a ?_ | refine lss_b ?_ | refine gtr_a ?_ | refine gtr_b ?_ | refine geq_a ?_ | refine geq_b ?_ | refine leq_a ?_ | refine leq_b ?_ | refine eql_a ?_ | refine eql_b ?_ | refine neq_a ?_ | refine neq_b ?_ | refine add_a ?_ | refine sub_a ?_ | refine ld_a ?_ | refine ldA_a ?_ | refine ldS_a ?_ | refine ldNS_a ?_ | refine rdA_s ?_ | refine rd1_s ?_ | refine drew_a fun w1 H1 => ?_ | refine st_a fun w1 H1 => ?_ | refine stA_a fun w1 H1 => ?_ | refine lenT_a ?_ | refine lenO_a ?_ | refine ixT_a ?_ | refine ixO_a ?_ | fail)
          refine hk2 (mm - 1) _ _ _ _ _ _ _ _ (by omega) ⟨q + 1, cs0, cs1, _, _, _, rfl, rfl, rfl, rfl, rfl, rfl, rfl, by omega, hB, hu, htp, ?_, hs0, hs1, H⟩
          rw [htk]
          intro a ha
          rcases List.mem_append.1 ha with ha | ha
          · exact hdn a ha
          · simp at ha; subst ha
            have : a ∈ l := (hB.mem a).2 ⟨hxn, by omega⟩
            exact ⟨by omega, htp a this⟩
      · repeat (first | simp only [cI_enc, cE_enc, cN_enc, W0] | refine lss_a ?_ | refine lss_b ?_ | refine gtr_a ?_ | refine gtr_b ?_ | refine geq_a ?_ | refine geq_b ?_ | refine leq_a ?_ | refine leq_b ?_ | refine eql_a ?_ | refine eql_b ?_ | refine neq_a ?_ | refine neq_b ?_ | refine add_a ?_ | refine sub_a ?_ | refine ld_a ?_ | refine ldA_a ?_ | refine ldS_a ?_ | refine ldNS_a ?_ | refine rdA_s ?_ | refine rd1_s ?_ | refine drew_a fun w1 H1 => ?_ | refine st_a fun w1 H1 => ?_ | refine stA_a fun w1 H1 => ?_ | refine lenT_a ?_ | refine lenO_a ?_ | refine ixT_a ?_ | refine ixO_a ?_ | fail)
        rw [List.take_of_length_le (by omega)] at hdn
        have hjl := (List.getElem?_eq_some_iff.1 hu).1
        exact hk (m - 1) _ _ _ _ _ (by omega) ⟨j + 1, cs0, cs1, o, l, _, rfl, rfl, rfl, rfl, by omega, by omega, hB.next hu fun a ha => hdn a (adj_mem_w.2 ha), fun u' hu' => hB.top hu htp hu', hs0, hs1, H⟩
    · repeat (first | simp only [cI_enc, cE_enc, cN_enc, W0] | refine lss_a ?_ | refine lss_b ?_ | refine gtr_a ?_ | refine gtr_b ?_ | refine geq_a ?_ | refine geq_b ?_ | refine leq_a ?_ | refine leq_b ?_ | refine eql_a ?_ | refine eql_b ?_ | refine neq_a ?_ | refine neq_b ?_ | refine add_a ?_ | refine sub_a ?_ | refine ld_a ?_ | refine ldA_a ?_ | refine ldS_a ?_ | refine ldNS_a ?_ | refine rdA_s ?_ | refine rd1_s ?_ | refine drew_a fun w1 H1 => ?_ | refine st_a fun w1 H1 => ?_ | refine stA_a fun w1 H1 => ?_ | refine lenT_a ?_ | refine lenO_a ?_ | refine ixT_a ?_ | refine ixO_a ?_ | fail)
      unfold F43_j2
      obtain rfl : j = l.length := by omega
      exact ⟨_, cs0, o, rfl, H.re, hs0, hB.len, hB.isD hV⟩
end
end Go.Proofs.Ytagcifbfokneoaa.Den
