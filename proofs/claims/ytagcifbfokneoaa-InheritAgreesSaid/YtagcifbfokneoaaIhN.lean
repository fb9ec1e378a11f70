/- Inherit: effective priorities of the program. Conditions: none. -/
import Derived.Test.YtagcifbfokneoaaIhM
set_option linter.unusedVariables false
set_option linter.unusedSimpArgs false
set_option maxRecDepth 8000
namespace Go.Proofs.Ytagcifbfokneoaa.Den
open Go Go.RowKit
section
variable {w w' w0 : World} {L L' F cs cs2 cs3 : List Chunk} {s s2 sb se sd : Value} {K : VK} {R : ER} {base d out : List Int} {E E' : List (Nat × Nat)} {es : List (Int × Int)} {n to i u x : Nat} {l : List Nat}
theorem slack_bd : ∀ (l : List Int), (∀ x ∈ l, 0 ≤ x) → slack l ≤ 255 * l.length
  | [], _ => by simp [slack]
  | a :: l, h => by
    have := slack_bd l fun x hx => h x (by simp [hx])
    have := h a (by simp)
    simp only [slack, List.map_cons, List.sum_cons, List.length_cons] at *
    omega
/-- The work that is left: where an edge is not settled, its waiter is in the work. -/
def Left (E : List (Nat × Nat)) (out : List Int) (work : List Nat) (t : Nat) (todo : List Nat) : Prop := ∀ e ∈ E, gt out e.1 ≤ gt out e.2 ∨ e.1 ∈ work ∨ (e.1 = t ∧ e.2 ∈ todo)
def EffQ (base : List Int) (E : List (Nat × Nat)) (w0 : World) (L : List Chunk) : ER := fun x w' => ∃ s cs out, x = .returned s ∧ Hp w0 w' (cs ++ L) ∧ TS cI 3 s out cs ∧ IsEff base E out
theorem eff_tail {bo : Nat} {so sn : Value} {co cn L2 : List Chunk} (hL : ∀ {w : World} {cs : List Chunk}, Hp w0 w (cs ++ L) → Hp w0 w (cs ++ L2)) (hp : E'.Perm E) (hV : Valid E base.length) (hb : ∀ x ∈ base, 0 ≤ x ∧ x ≤ 255) (hl : base.length ≤ 256) (hel : E.length ≤ 4000) (h1 : NR cU w0 cn sn (adj Prod.fst Prod.snd E' base.length))
    (ho : TS cI 3 so base co) (hn : ∀ c ∈ cn, c ∈ L) (H : Hp w0 w (⟨bo, 22, [so]⟩ :: (co ++ L))) : F33_j1 (EffQ base E w0 L2) (ptr bo 0) sn w := by
  obtain ⟨hs, htop, hhl, hsub⟩ := h1
  have hhl' : hs.length = base.length := by rw [hhl, adj_len]
  unfold F33_j1
  refine al_m (ys := [.slice none 0 0]) H (by kernel_rfl) fun w bw H => ?_
  have hsc := ho.sc
  unfold F33_j8
  repeat (first | simp only [cI_enc, cE_enc, cN_enc, W0] | refine lss_a ?_ | refine lss_b ?_ | refine gtr_a ?_ | refine gtr_b ?_ | refine geq_a ?_ | refine geq_b ?_ | refine leq_a ?_ | refine leq_b ?_ | refine eql_a ?_ | refine eql_b ?_ | refine neq_a ?_ | refine neq_b ?_ | refine add_a ?_ | refine sub_a ?_ | refine ld_a ?_ | refine ldA_a ?_ | refine ldS_a ?_ | refine ldNS_a ?_ | refine rdA_s ?_ | refine rd1_s ?_ | refine drew_a fun w1 H1 => ?_ | refine st_a fun w1 H1 => ?_ | refine stA_a fun w1 H1 => ?_ | refine lenT_a ?_ | refine lenO_a ?_ | refine ixT_a ?_ | refine ixO_a ?_ | fail)
  unfold F33_j9
  refine loop6 (F33_l3_succ _) (fun m x3 x4 x5 x6 x18 x19 w => ∃ i : Nat, ∃ sw cw, x3 = ptr bo 0 ∧ x4 = sn ∧ x5 = ptr bw 0 ∧ x6 = .func (.func 59) ⟨[]⟩ ⟨[ptr bo 0, ptr bw 0]⟩ ∧ x18 = I (base.length : Int) ∧ x19 = I i ∧ m + i = base.length ∧ TS cU 3 sw (List.range i) cw ∧ Hp w0 w (⟨bo, 22, [so]⟩ :: ⟨bw, 22, [sw]⟩ :: (co ++ (cw ++ L)))) ?_ (m := base.length)
    ⟨0, .slice none 0 0, [], rfl, rfl, rfl, rfl, rfl, rfl, by omega, TS.nil, H.re⟩
  clear H
  rintro m k _ sn _ _ _ _ w ⟨i, sw, cw, rfl, rfl, rfl, rfl, rfl, rfl, hm, hw, H⟩ hk
  unfold F33_b3
  refine lss_k (fun hi => ?_) (fun hi => ?_)
  · repeat (first | simp only [cI_enc, cE_enc, cN_enc, W0] | refine lss_a ?_ | refine lss_b ?_ | refine gtr_a ?_ | refine gtr_b ?_ | refine geq_a ?_ | refine geq_b ?_ | refine leq_a ?_ | refine leq_b ?_ | refine eql_a ?_ | refine eql_b ?_ | refine neq_a ?_ | refine neq_b ?_ | refine add_a ?_ | refine sub_a ?_ | refine ld_a ?_ | refine ldA_a ?_ | refine ldS_a ?_ | refine ldNS_a ?_ | refine rdA_s ?_ | refine rd1_s ?_ | refine drew_a fun w1 H1 => ?_ | refine st_a fun w1 H1 => ?_ | refine stA_a fun w1 H1 => ?_ | refine lenT_a ?_ | refine lenO_a ?_ | refine ixT_a ?_ | refine ixO_a ?_ | fail)
    refine app1_t (x := i) elU H hw spl rfl (by decide) (by simp; omega) (by simp; omega) fun w sw' cw' H hw' => ?_
    refine st_m H (by exact updd) (by simp) hw'.sc fun w H => ?_
    repeat (first | simp only [cI_enc, cE_enc, cN_enc, W0] | refine lss_a ?_ | refine lss_b ?_ | refine gtr_a ?_ | refine gtr_b ?_ | refine geq_a ?_ | refine geq_b ?_ | refine leq_a ?_ | refine leq_b ?_ | refine eql_a ?_ | refine eql_b ?_ | refine neq_a ?_ | refine neq_b ?_ | refine add_a ?_ | refine sub_a ?_ | refine ld_a ?_ | refine ldA_a ?_ | refine ldS_a ?_ | refine ldNS_a ?_ | refine rdA_s ?_ | refine rd1_s ?_ | refine drew_a fun w1 H1 => ?_ | refine st_a fun w1 H1 => ?_ | refine stA_a fun w1 H1 => ?_ | refine lenT_a ?_ | refine lenO_a ?_ | refine ixT_a ?_ | refine ixO_a ?_ | fail)
    exact hk (m - 1) _ _ _ _ _ _ _ (by omega) ⟨i + 1, sw', cw', rfl, rfl, rfl, rfl, rfl, rfl, by omega, by rw [List.range_succ]; exact hw', H.re⟩
  · repeat (first | simp only [cI_enc, cE_enc, cN_enc, W0] | refine lss_a ?_ | refine lss_b ?_ | refine gtr_a ?_ | refine gtr_b ?_ | refine geq_a ?_ | refine geq_b ?_ | refine leq_a ?_ | refine leq_b ?_ | refine eql_a ?_ | refine eql_b ?_ | refine neq_a ?_ | refine neq_b ?_ | refine add_a ?_ | refine sub_a ?_ | refine ld_a ?_ | refine ldA_a ?_ | refine ldS_a ?_ | refine ldNS_a ?_ | refine rdA_s ?_ | refine rd1_s ?_ | refine drew_a fun w1 H1 => ?_ | refine st_a fun w1 H1 => ?_ | refine stA_a fun w1 H1 => ?_ | refine lenT_a ?_ | refine lenO_a ?_ | refine ixT_a ?_ | refine ixO_a ?_ | fail)
    obtain rfl : i = base.length := by omega
    have hsb := slack_bd base fun x hx => (hb x hx).1
    unfold F33_j2 F33_j4
    refine loop4 (F33_l2_succ _) (fun m x3 x4 x5 x6 w => ∃ out so sw co cw work, x3 = ptr bo 0 ∧ x4 = sn ∧ x5 = ptr bw 0 ∧ x6 = .func (.func 59) ⟨[]⟩ ⟨[ptr bo 0, ptr bw 0]⟩ ∧ m = 2 * slack out + work.length ∧ m ≤ 140000 ∧ Wk base E out ∧ (∀ v ∈ work, v < base.length) ∧ Left E out work 0 [] ∧ TS cI 3 so out co ∧ TS cU 3 sw work cw ∧ Hp w0 w (⟨bo, 22, [so]⟩ :: ⟨bw, 22, [sw]⟩ :: (co ++ (cw ++ L)))) ?_ (m := 2 * slack base + base.length)
      ⟨base, so, sw, co, cw, _, rfl, rfl, rfl, rfl, by simp, by omega, Wk.start, by simp, fun e he => .inr (.inl (by simp; exact (hV e he).1)), ho, hw, H⟩
    clear H hk hm hw ho
    rintro m k _ sn _ _ w ⟨out, so, sw, co, cw, work, rfl, rfl, rfl, rfl, hm, hmb, hW, hwk, hlf, ho, hw, H⟩ hk
    unfold F33_b1
    refine ld_m H (by exact has) rfl ?_
    refine pv_of (lenS_ts hw) ?_
    rcases List.eq_nil_or_concat work with rfl | ⟨rest, t, rfl⟩
    · refine gtr_n (by simp) ?_
      repeat (first | simp only [cI_enc, cE_enc, cN_enc, W0] | refine lss_a ?_ | refine lss_b ?_ | refine gtr_a ?_ | refine gtr_b ?_ | refine geq_a ?_ | refine geq_b ?_ | refine leq_a ?_ | refine leq_b ?_ | refine eql_a ?_ | refine eql_b ?_ | refine neq_a ?_ | refine neq_b ?_ | refine add_a ?_ | refine sub_a ?_ | refine ld_a ?_ | refine ldA_a ?_ | refine ldS_a ?_ | refine ldNS_a ?_ | refine rdA_s ?_ | refine rd1_s ?_ | refine drew_a fun w1 H1 => ?_ | refine st_a fun w1 H1 => ?_ | refine stA_a fun w1 H1 => ?_ | refine lenT_a ?_ | refine lenO_a ?_ | refine ixT_a ?_ | refine ixO_a ?_ | fail)
      refine ⟨so, co, out, rfl, hL (H.re), ho, hW.done fun e he => ?_⟩
      rcases hlf e he with h | h | h
      · exact h
      · cases h
      · exact absurd h.2 (by simp)
    · rw [List.concat_eq_append] at *
      have hlen : (rest ++ [t]).length = rest.length + 1 := by simp
      rw [hlen] at hm
      refine gtr_y (by rw [hlen]; omega) ?_
      unfold F33_j5
      have htn := hwk t (by simp)
      have htl : (rest ++ [t])[rest.length]? = some t := by simp
      have e1 : (((rest ++ [t]).length : Nat) : Int) - 1 = (rest.length : Int) := by rw [hlen]; omega
      obtain ⟨kt, hkt⟩ : ∃ kt, hs[t]? = some kt := ⟨_, List.getElem?_eq_getElem (by omega)⟩
      have hwt := hsub t kt _ hkt (adj_get htn)
      have hwl : (adjAt Prod.fst Prod.snd E' t).length ≤ 4000 := adjAt_len (by rw [hp.length_eq]; exact hel)
      repeat (first | simp only [cI_enc, cE_enc, cN_enc, W0] | refine lss_a ?_ | refine lss_b ?_ | refine gtr_a ?_ | refine gtr_b ?_ | refine geq_a ?_ | refine geq_b ?_ | refine leq_a ?_ | refine leq_b ?_ | refine eql_a ?_ | refine eql_b ?_ | refine neq_a ?_ | refine neq_b ?_ | refine add_a ?_ | refine sub_a ?_ | refine ld_a ?_ | refine ldA_a ?_ | refine ldS_a ?_ | refine ldNS_a ?_ | refine rdA_s ?_ | refine rd1_s ?_ | refine drew_a fun w1 H1 => ?_ | refine st_a fun w1 H1 => ?_ | refine stA_a fun w1 H1 => ?_ | refine lenT_a ?_ | refine lenO_a ?_ | refine ixT_a ?_ | refine ixO_a ?_ | fail)
      rw [e1]
      refine ix1_t (C := cU) (TS.tr hw) (by assumption) csub htl rfl rfl ?_
      repeat (first | simp only [cI_enc, cE_enc, cN_enc, W0] | refine lss_a ?_ | refine lss_b ?_ | refine gtr_a ?_ | refine gtr_b ?_ | refine geq_a ?_ | refine geq_b ?_ | refine leq_a ?_ | refine leq_b ?_ | refine eql_a ?_ | refine eql_b ?_ | refine neq_a ?_ | refine neq_b ?_ | refine add_a ?_ | refine sub_a ?_ | refine ld_a ?_ | refine ldA_a ?_ | refine ldS_a ?_ | refine ldNS_a ?_ | refine rdA_s ?_ | refine rd1_s ?_ | refine drew_a fun w1 H1 => ?_ | refine st_a fun w1 H1 => ?_ | refine stA_a fun w1 H1 => ?_ | refine lenT_a ?_ | refine lenO_a ?_ | refine ixT_a ?_ | refine ixO_a ?_ | fail)
      rw [e1]
      obtain ⟨sw2, e2, hw2⟩ := slTo_t (hi := rest.length) hw (by rw [hlen]; omega)
      refine pv_of e2 ?_
      refine st_m H (by exact updd) (by simp) hw2.sc fun w2 H2 => ?_
      simp only [List.set_cons_zero] at H2
      have htake : (rest ++ [t]).take rest.length = rest := by simp
      rw [htake] at hw2
      refine ix1_t (C := cS) htop H2 (by intro c hc; simp [hn c hc]) hkt rfl rfl ?_
      repeat (first | simp only [cI_enc, cE_enc, cN_enc, W0] | refine lss_a ?_ | refine lss_b ?_ | refine gtr_a ?_ | refine gtr_b ?_ | refine geq_a ?_ | refine geq_b ?_ | refine leq_a ?_ | refine leq_b ?_ | refine eql_a ?_ | refine eql_b ?_ | refine neq_a ?_ | refine neq_b ?_ | refine add_a ?_ | refine sub_a ?_ | refine ld_a ?_ | refine ldA_a ?_ | refine ldS_a ?_ | refine ldNS_a ?_ | refine rdA_s ?_ | refine rd1_s ?_ | refine drew_a fun w1 H1 => ?_ | refine st_a fun w1 H1 => ?_ | refine stA_a fun w1 H1 => ?_ | refine lenT_a ?_ | refine lenO_a ?_ | refine ixT_a ?_ | refine ixO_a ?_ | fail)
      unfold F33_j6
      refine loop8 (F33_l1_succ _ _) (fun q x3 x4 x5 x6 x8 x44 x45 x46 w => ∃ j : Nat, ∃ out so sw co cw work, x3 = ptr bo 0 ∧ x4 = sn ∧ x5 = ptr bw 0 ∧ x6 = .func (.func 59) ⟨[]⟩ ⟨[ptr bo 0, ptr bw 0]⟩ ∧ x8 = I t ∧ x44 = kt.val ∧ x45 = I ((adjAt Prod.fst Prod.snd E' t).length : Int) ∧ x46 = I j ∧ q + j = (adjAt Prod.fst Prod.snd E' t).length ∧
          2 * slack out + work.length + 1 ≤ m ∧ Wk base E out ∧ (∀ v ∈ work, v < base.length) ∧ Left E out work t ((adjAt Prod.fst Prod.snd E' t).drop j) ∧ TS cI 3 so out co ∧ TS cU 3 sw work cw ∧ Hp w0 w (⟨bo, 22, [so]⟩ :: ⟨bw, 22, [sw]⟩ :: (co ++ (cw ++ L)))) ?_ (m := (adjAt Prod.fst Prod.snd E' t).length)
        ⟨0, out, so, sw2, co, cw, rest, rfl, rfl, rfl, rfl, rfl, rfl, rfl, rfl, rfl, by omega, hW, fun v hv => hwk v (by simp [hv]), fun e he => ?_, ho, hw2, H2⟩
      rotate_left
      · rcases hlf e he with h | h | h
        · exact .inl h
        · rcases List.mem_append.1 h with h | h
          · exact .inr (.inl h)
          · simp at h
            exact .inr (.inr ⟨h, by simp only [List.drop_zero]; exact adj_mem_h.2 (by rw [← h]; exact hp.symm.subset he)⟩)
        · exact absurd h.2 (by simp)
      clear H H2 hW hlf ho hw hw2 hm e2
      rintro q k2 _ sn _ _ _ _ _ _ w ⟨j, out, so, sw, co, cw, work, rfl, rfl, rfl, rfl, rfl, rfl, rfl, rfl, hq, hm, hW, hwk, hlf, ho, hw, H⟩ hk2
      unfold F33_b2
      refine lss_k (fun hj => ?_) (fun hj => ?_)
      · have hx : (adjAt Prod.fst Prod.snd E' t)[j]? = some (adjAt Prod.fst Prod.snd E' t)[j] := List.getElem?_eq_getElem (by omega)
        have hdr : (adjAt Prod.fst Prod.snd E' t).drop j = (adjAt Prod.fst Prod.snd E' t)[j] :: (adjAt Prod.fst Prod.snd E' t).drop (j + 1) := List.drop_eq_getElem_cons (by omega)
        generalize (adjAt Prod.fst Prod.snd E' t)[j] = h at hx hdr
        have hE := hp.subset (adj_mem_h.1 (List.mem_of_getElem? hx))
        have hhn := (hV _ hE).2
        have hot : out[t]? = some (gt out t) := gt_some (by rw [hW.len]; exact htn)
        unfold F33_j7
        refine ix1_t (C := cU) hwt H (by intro c hc; simp [hn c hc]) hx rfl rfl ?_
        refine ld_m H (by exact has) rfl ?_
        refine ix1_t (C := cI) (TS.tr ho) H csub hot rfl rfl ?_
        refine calD_k (by kernel_rfl) ?_
        refine cal_h (raise_spec ho hw (by rw [hW.len]; exact hhn) (by omega) H) ?_
        rintro _ w ⟨rfl, hr⟩
        simp only [ret_k]
        refine add_k (by omega) (by omega) rfl ?_
        split at hr
        · rename_i hlt
          obtain ⟨sw', co', cw', ho', hw', H⟩ := hr
          have hle := hW.le (fun x hx => (hb x hx).2) htn
          have hsl := slack_set (l := out) (i := h) (v := gt out t) (by rw [hW.len]; exact hhn) hlt hle
          have hne : h ≠ t := by rintro rfl; omega
          have g : ∀ v, gt (out.set h (gt out t)) v = if v = h then gt out t else gt out v := fun v => gt_set (by rw [hW.len]; exact hhn)
          refine hk2 (q - 1) _ _ _ _ _ _ _ _ _ (by omega) ⟨j + 1, _, so, sw', co', cw', work ++ [h], rfl, rfl, rfl, rfl, rfl, rfl, rfl, rfl, by omega, by simp; omega, hW.raise hV hE (Int.le_of_lt hlt), ?_, fun e he => ?_, ho', hw', H⟩
          · intro v hv
            rcases List.mem_append.1 hv with hv | hv
            · exact hwk v hv
            · simp at hv; subst hv; exact hhn
          · by_cases e1 : e.1 = h
            · exact .inr (.inl (by simp [e1]))
            · rw [g, g, if_neg e1]
              rcases hlf e he with hh | hh | hh
              · refine .inl ?_
                split
                · rename_i e2; rw [e2] at hh; omega
                · exact hh
              · exact .inr (.inl (by simp [hh]))
              · rw [hdr] at hh
                rcases List.mem_cons.1 hh.2 with h2 | h2
                · refine .inl ?_
                  rw [if_pos h2, hh.1]; omega
                · exact .inr (.inr ⟨hh.1, h2⟩)
        · rename_i hge
          refine hk2 (q - 1) _ _ _ _ _ _ _ _ _ (by omega) ⟨j + 1, out, so, sw, co, cw, work, rfl, rfl, rfl, rfl, rfl, rfl, rfl, rfl, by omega, hm, hW, hwk, fun e he => ?_, ho, hw, hr⟩
          rcases hlf e he with hh | hh | hh
          · exact .inl hh
          · exact .inr (.inl hh)
          · rw [hdr] at hh
            rcases List.mem_cons.1 hh.2 with h2 | h2
            · refine .inl ?_
              rw [hh.1, h2]; omega
            · exact .inr (.inr ⟨hh.1, h2⟩)
      · repeat (first | simp only [cI_enc, cE_enc, cN_enc, W0] | refine lss_a ?_ | refine lss_b ?_ | refine gtr_a ?_ | refine gtr_b ?_ | refine geq_a ?_ | refine geq_b ?_ | refine leq_a ?_ | refine leq_b ?_ | refine eql_a ?_ | refine eql_b ?_ | refine neq_a ?_ | refine neq_b ?_ | refine add_a ?_ | refine sub_a ?_ | refine ld_a ?_ | refine ldA_a ?_ | refine ldS_a ?_ | refine ldNS_a ?_ | refine rdA_s ?_ | refine rd1_s ?_ | refine drew_a fun w1 H1 => ?_ | refine st_a fun w1 H1 => ?_ | refine stA_a fun w1 H1 => ?_ | refine lenT_a ?_ | refine lenO_a ?_ | refine ixT_a ?_ | refine ixO_a ?_ | fail)
        refine hk (2 * slack out + work.length) _ _ _ _ _ (by omega) ⟨out, so, sw, co, cw, work, rfl, rfl, rfl, rfl, rfl, by omega, hW, hwk, fun e he => ?_, ho, hw, H⟩
        rcases hlf e he with hh | hh | hh
        · exact .inl hh
        · exact .inr (.inl hh)
        · rw [List.drop_eq_nil_of_le (by omega)] at hh
          exact absurd hh.2 (by simp)
theorem eff_spec (h1 : TR cI w0 cs sb base) (h2 : TR cN w0 cs2 se E) (H : Hp w0 w L) (m1 : ∀ c ∈ cs, c ∈ L) (m2 : ∀ c ∈ cs2, c ∈ L) (hb : ∀ x ∈ base, 0 ≤ x ∧ x ≤ 255) (hV : Valid E base.length) (hl : base.length ≤ 256) (hel : E.length ≤ 4000) (hnd : E.Nodup) :
    Calls Pg 33 ⟨[.agg ⟨[sb, se]⟩]⟩ w (EffQ base E w0 L) := by
  apply F33_calls
  unfold F33
  refine bx_m H fun w b H => ?_
  repeat (first | simp only [cI_enc, cE_enc, cN_enc, W0] | refine lss_a ?_ | refine lss_b ?_ | refine gtr_a ?_ | refine gtr_b ?_ | refine geq_a ?_ | refine geq_b ?_ | refine leq_a ?_ | refine leq_b ?_ | refine eql_a ?_ | refine eql_b ?_ | refine neq_a ?_ | refine neq_b ?_ | refine add_a ?_ | refine sub_a ?_ | refine ld_a ?_ | refine ldA_a ?_ | refine ldS_a ?_ | refine ldNS_a ?_ | refine rdA_s ?_ | refine rd1_s ?_ | refine drew_a fun w1 H1 => ?_ | refine st_a fun w1 H1 => ?_ | refine stA_a fun w1 H1 => ?_ | refine lenT_a ?_ | refine lenO_a ?_ | refine ixT_a ?_ | refine ixO_a ?_ | fail)
  have fin : ∀ {w : World} {bo : Nat} {so sn : Value} {E' : List (Nat × Nat)} {co cn : List Chunk}, TS cI 3 so base co → E'.Perm E → NR cU w0 cn sn (adj Prod.fst Prod.snd E' base.length) → Hp w0 w (⟨bo, 22, [so]⟩ :: (co ++ (cn ++ L))) → F33_j1 (EffQ base E w0 L) (ptr bo 0) sn w := by
    intro w bo so sn E' co cn ho hp hn H
    exact eff_tail (L := cn ++ L) (fun H => H.re) hp hV hb hl hel hn ho (fun c hc => List.mem_append_left _ hc) H
  refine allW2 ?_ ?_
  · refine cal_h (Clone_spec h1 (by assumption) csub (by omega)) ?_
    rintro _ w ⟨so, co, rfl, H, ho⟩
    repeat (first | simp only [cI_enc, cE_enc, cN_enc, W0] | refine lss_a ?_ | refine lss_b ?_ | refine gtr_a ?_ | refine gtr_b ?_ | refine geq_a ?_ | refine geq_b ?_ | refine leq_a ?_ | refine leq_b ?_ | refine eql_a ?_ | refine eql_b ?_ | refine neq_a ?_ | refine neq_b ?_ | refine add_a ?_ | refine sub_a ?_ | refine ld_a ?_ | refine ldA_a ?_ | refine ldS_a ?_ | refine ldNS_a ?_ | refine rdA_s ?_ | refine rd1_s ?_ | refine drew_a fun w1 H1 => ?_ | refine st_a fun w1 H1 => ?_ | refine stA_a fun w1 H1 => ?_ | refine lenT_a ?_ | refine lenO_a ?_ | refine ixT_a ?_ | refine ixO_a ?_ | fail)
    refine allW2 ?_ ?_
    · refine cal_h (holders_spec h1 h2 (by assumption) csub csub hV hl hel hnd) ?_
      rintro _ w ⟨sn, cn, E', rfl, H, hn, hp, _⟩
      repeat (first | simp only [cI_enc, cE_enc, cN_enc, W0] | refine lss_a ?_ | refine lss_b ?_ | refine gtr_a ?_ | refine gtr_b ?_ | refine geq_a ?_ | refine geq_b ?_ | refine leq_a ?_ | refine leq_b ?_ | refine eql_a ?_ | refine eql_b ?_ | refine neq_a ?_ | refine neq_b ?_ | refine add_a ?_ | refine sub_a ?_ | refine ld_a ?_ | refine ldA_a ?_ | refine ldS_a ?_ | refine ldNS_a ?_ | refine rdA_s ?_ | refine rd1_s ?_ | refine drew_a fun w1 H1 => ?_ | refine st_a fun w1 H1 => ?_ | refine stA_a fun w1 H1 => ?_ | refine lenT_a ?_ | refine lenO_a ?_ | refine ixT_a ?_ | refine ixO_a ?_ | fail)
      refine al_m (ys := [.slice none 0 0]) (by assumption) (by kernel_rfl) fun w bo H => ?_
      have hsc := ho.sc
      repeat (first | simp only [cI_enc, cE_enc, cN_enc, W0] | refine lss_a ?_ | refine lss_b ?_ | refine gtr_a ?_ | refine gtr_b ?_ | refine geq_a ?_ | refine geq_b ?_ | refine leq_a ?_ | refine leq_b ?_ | refine eql_a ?_ | refine eql_b ?_ | refine neq_a ?_ | refine neq_b ?_ | refine add_a ?_ | refine sub_a ?_ | refine ld_a ?_ | refine ldA_a ?_ | refine ldS_a ?_ | refine ldNS_a ?_ | refine rdA_s ?_ | refine rd1_s ?_ | refine drew_a fun w1 H1 => ?_ | refine st_a fun w1 H1 => ?_ | refine stA_a fun w1 H1 => ?_ | refine lenT_a ?_ | refine lenO_a ?_ | refine ixT_a ?_ | refine ixO_a ?_ | fail)
      exact fin ho hp hn (Hp.re (by assumption))
    · refine al_m (ys := [.slice none 0 0]) (by assumption) (by kernel_rfl) fun w bo H => ?_
      have hsc := ho.sc
      repeat (first | simp only [cI_enc, cE_enc, cN_enc, W0] | refine lss_a ?_ | refine lss_b ?_ | refine gtr_a ?_ | refine gtr_b ?_ | refine geq_a ?_ | refine geq_b ?_ | refine leq_a ?_ | refine leq_b ?_ | refine eql_a ?_ | refine eql_b ?_ | refine neq_a ?_ | refine neq_b ?_ | refine add_a ?_ | refine sub_a ?_ | refine ld_a ?_ | refine ldA_a ?_ | refine ldS_a ?_ | refine ldNS_a ?_ | refine rdA_s ?_ | refine rd1_s ?_ | refine drew_a fun w1 H1 => ?_ | refine st_a fun w1 H1 => ?_ | refine stA_a fun w1 H1 => ?_ | refine lenT_a ?_ | refine lenO_a ?_ | refine ixT_a ?_ | refine ixO_a ?_ | fail)
      refine cal_h (holders_spec h1 h2 (by assumption) csub csub hV hl hel hnd) ?_
      rintro _ w ⟨sn, cn, E', rfl, H, hn, hp, _⟩
      repeat (first | simp only [cI_enc, cE_enc, cN_enc, W0] | refine lss_a ?_ | refine lss_b ?_ | refine gtr_a ?_ | refine gtr_b ?_ | refine geq_a ?_ | refine geq_b ?_ | refine leq_a ?_ | refine leq_b ?_ | refine eql_a ?_ | refine eql_b ?_ | refine neq_a ?_ | refine neq_b ?_ | refine add_a ?_ | refine sub_a ?_ | refine ld_a ?_ | refine ldA_a ?_ | refine ldS_a ?_ | refine ldNS_a ?_ | refine rdA_s ?_ | refine rd1_s ?_ | refine drew_a fun w1 H1 => ?_ | refine st_a fun w1 H1 => ?_ | refine stA_a fun w1 H1 => ?_ | refine lenT_a ?_ | refine lenO_a ?_ | refine ixT_a ?_ | refine ixO_a ?_ | fail)
      exact fin ho hp hn (Hp.re (by assumption))
  · refine al_m (ys := [.slice none 0 0]) (by assumption) (by kernel_rfl) fun w bo H => ?_
    repeat (first | simp only [cI_enc, cE_enc, cN_enc, W0] | refine lss_a ?_ | refine lss_b ?_ | refine gtr_a ?_ | refine gtr_b ?_ | refine geq_a ?_ | refine geq_b ?_ | refine leq_a ?_ | refine leq_b ?_ | refine eql_a ?_ | refine eql_b ?_ | refine neq_a ?_ | refine neq_b ?_ | refine add_a ?_ | refine sub_a ?_ | refine ld_a ?_ | refine ldA_a ?_ | refine ldS_a ?_ | refine ldNS_a ?_ | refine rdA_s ?_ | refine rd1_s ?_ | refine drew_a fun w1 H1 => ?_ | refine st_a fun w1 H1 => ?_ | refine stA_a fun w1 H1 => ?_ | refine lenT_a ?_ | refine lenO_a ?_ | refine ixT_a ?_ | refine ixO_a ?_ | fail)
    refine cal_h (Clone_spec h1 (by assumption) csub (by omega)) ?_
    rintro _ w ⟨so, co, rfl, H, ho⟩
    repeat (first | simp only [cI_enc, cE_enc, cN_enc, W0] | refine lss_a ?_ | refine lss_b ?_ | refine gtr_a ?_ | refine gtr_b ?_ | refine geq_a ?_ | refine geq_b ?_ | refine leq_a ?_ | refine leq_b ?_ | refine eql_a ?_ | refine eql_b ?_ | refine neq_a ?_ | refine neq_b ?_ | refine add_a ?_ | refine sub_a ?_ | refine ld_a ?_ | refine ldA_a ?_ | refine ldS_a ?_ | refine ldNS_a ?_ | refine rdA_s ?_ | refine rd1_s ?_ | refine drew_a fun w1 H1 => ?_ | refine st_a fun w1 H1 => ?_ | refine stA_a fun w1 H1 => ?_ | refine lenT_a ?_ | refine lenO_a ?_ | refine ixT_a ?_ | refine ixO_a ?_ | fail)
    refine cal_h (holders_spec h1 h2 (by assumption) csub csub hV hl hel hnd) ?_
    rintro _ w ⟨sn, cn, E', rfl, H, hn, hp, _⟩
    have hsc := ho.sc
    repeat (first | simp only [cI_enc, cE_enc, cN_enc, W0] | refine lss_a ?_ | refine lss_b ?_ | refine gtr_a ?_ | refine gtr_b ?_ | refine geq_a ?_ | refine geq_b ?_ | refine leq_a ?_ | refine leq_b ?_ | refine eql_a ?_ | refine eql_b ?_ | refine neq_a ?_ | refine neq_b ?_ | refine add_a ?_ | refine sub_a ?_ | refine ld_a ?_ | refine ldA_a ?_ | refine ldS_a ?_ | refine ldNS_a ?_ | refine rdA_s ?_ | refine rd1_s ?_ | refine drew_a fun w1 H1 => ?_ | refine st_a fun w1 H1 => ?_ | refine stA_a fun w1 H1 => ?_ | refine lenT_a ?_ | refine lenO_a ?_ | refine ixT_a ?_ | refine ixO_a ?_ | fail)
    exact fin ho hp hn (Hp.re (by assumption))
end
end Go.Proofs.Ytagcifbfokneoaa.Den
