/- Inherit: what a change of the graph reports. Conditions: none. -/
import Derived.Test.YtagcifbfokneoaaIhTr
import Derived.Test.YtagcifbfokneoaaIhNa
set_option linter.unusedVariables false
set_option linter.unusedSimpArgs false
set_option maxRecDepth 8000
set_option maxHeartbeats 1000000
namespace Go.Proofs.Ytagcifbfokneoaa.Den
open Go Go.RowKit
theorem elC : ElT 59 103 cE.sz 16 [I 0, I 0] := ⟨by kernel_rfl, by kernel_rfl, rfl⟩
theorem elC' : ElT 81 104 cE.sz 16 [I 0, I 0] := ⟨by kernel_rfl, by kernel_rfl, rfl⟩
theorem bld2v {a b : Int} : bldO [.int .i64 0, .int .i64 0] [(0, 1, I a), (1, 1, I b)] = some (.agg ⟨[I a, I b]⟩) := rfl
/-- The changes of the first n threads. -/
def dif (old now : List Int) (n : Nat) : List (Int × Int) := (List.range n).filterMap fun i => if gt now i = gt old i then none else some ((i : Int), gt now i)
theorem dif_succ {old now : List Int} {n : Nat} : dif old now (n + 1) = dif old now n ++ (if gt now n = gt old n then [] else [((n : Int), gt now n)]) := by
  unfold dif
  rw [List.range_succ, List.filterMap_append]
  congr 1
  by_cases h : gt now n = gt old n <;> simp [h]
theorem dif_len {old now : List Int} {n : Nat} : (dif old now n).length ≤ n := by
  have := List.length_filterMap_le (fun i => if gt now i = gt old i then none else some ((i : Int), gt now i)) (List.range n)
  simpa [dif] using this
section
variable {w w' w0 : World} {L L' F cs cs2 cs3 cb ce : List Chunk} {s s2 sb se sd : Value} {K : VK} {R : ER} {base eff : List Int} {E E' : List (Nat × Nat)} {bt bm clock : Nat} {ents : List ((Int × Int) × Bool × Nat)}
theorem IsEff.perm {out : List Int} (h : IsEff base E out) (hp : ∀ e, e ∈ E ↔ e ∈ E') : IsEff base E' out :=
  ⟨h.len, h.ge, fun e he => h.cl e ((hp e).2 he), fun i hi => by
    obtain ⟨j, h1, h2, h3⟩ := h.why i hi
    exact ⟨j, h1, h2.mono fun e he => (hp e).1 he, h3⟩⟩
theorem update_spec (hb : TS cI 3 sb base cb) (he : TS cI 3 se eff ce) (hel : eff.length = base.length) (hw : MW ents clock) (hk : mkeys ents = E.map ofN) (hnd : E.Nodup) (hl : E.length ≤ 2000)
    (hbl : base.length ≤ 256) (hbr : ∀ x ∈ base, 0 ≤ x ∧ x ≤ 255) (hV : Valid E base.length)
    (H : Hp w0 w (⟨bt, 88, [sb, .map (some bm), se]⟩ :: ⟨bm, .o (mobj kE Value.bool ents clock), []⟩ :: (cb ++ (ce ++ F)))) :
    Calls Pg 58 ⟨[ptr bt 0]⟩ w fun x w' => ∃ s cs se' ce' now, x = .returned s ∧ Hp w0 w' (⟨bt, 88, [sb, .map (some bm), se']⟩ :: ⟨bm, .o (mobj kE Value.bool ents clock), []⟩ :: (cb ++ (ce' ++ (cs ++ F)))) ∧
      TS cI 3 se' now ce' ∧ IsEff base E now ∧ TS cE 103 s (dif eff now base.length) cs := by
  have q1 := hb.sc
  have q2 := he.sc
  apply F58_calls
  unfold F58
  refine cal_h (graph_spec q1 hw hk hnd hl H) ?_
  rintro _ w ⟨s', E', c', rfl, H, hs', hp, hinc⟩
  simp only [ret_k]
  have hmem : ∀ e, e ∈ E' ↔ e ∈ E := fun e => hp.mem_iff
  refine cal_h (eff_spec hb.tr hs'.tr (by assumption) csub csub hbr (fun e he => hV e ((hmem e).1 he)) hbl (by have := hp.length_eq; omega) (hp.nodup_iff.2 hnd)) ?_
  rintro _ w ⟨so, co, now, rfl, H, ho, hio⟩
  have hio := hio.perm hmem
  have hnl := hio.len
  have q3 := ho.sc
  simp only [ret_k]
  unfold F58_j2
  repeat (first | simp only [cI_enc, cE_enc, cN_enc, W0] | refine lss_a ?_ | refine lss_b ?_ | refine gtr_a ?_ | refine gtr_b ?_ | refine geq_a ?_ | refine geq_b ?_ | refine leq_a ?_ | refine leq_b ?_ | refine eql_a ?_ | refine eql_b ?_ | refine neq_a ?_ | refine neq_b ?_ | refine add_a ?_ | refine sub_a ?_ | refine ld_a ?_ | refine ldA_a ?_ | refine ldS_a ?_ | refine ldNS_a ?_ | refine rdA_s ?_ | refine rd1_s ?_ | refine drew_a fun w1 H1 => ?_ | refine st_a fun w1 H1 => ?_ | refine stA_a fun w1 H1 => ?_ | refine lenT_a ?_ | refine lenO_a ?_ | refine ixT_a ?_ | refine ixO_a ?_ | fail)
  unfold F58_j3
  refine loop6 (F58_l1_succ _) (fun m x0 x3 x4 x10 x11 x12 w => ∃ i s cs, x0 = ptr bt 0 ∧ x3 = s ∧ x4 = so ∧ x10 = so ∧ x11 = I (now.length : Int) ∧ x12 = I (i : Nat) ∧ m + i = base.length ∧ TS cE 103 s (dif eff now i) cs ∧
      Hp w0 w (⟨bt, 88, [sb, .map (some bm), se]⟩ :: ⟨bm, .o (mobj kE Value.bool ents clock), []⟩ :: (cb ++ (ce ++ (co ++ (cs ++ F)))))) ?_ (m := base.length)
    ⟨0, .slice none 0 0, [], rfl, rfl, rfl, rfl, rfl, rfl, by omega, TS.nil, Hp.re (by assumption)⟩
  clear H
  rintro m k x0 x3 x4 x10 x11 x12 w ⟨i, s, cs, rfl, rfl, rfl, rfl, rfl, rfl, hm, hs, H⟩ hk'
  unfold F58_b1
  have hdl := dif_len (old := eff) (now := now) (n := i)
  by_cases hi : i < base.length
  rotate_left
  · obtain rfl : i = base.length := by omega
    repeat (first | simp only [cI_enc, cE_enc, cN_enc, W0] | refine lss_a ?_ | refine lss_b ?_ | refine gtr_a ?_ | refine gtr_b ?_ | refine geq_a ?_ | refine geq_b ?_ | refine leq_a ?_ | refine leq_b ?_ | refine eql_a ?_ | refine eql_b ?_ | refine neq_a ?_ | refine neq_b ?_ | refine add_a ?_ | refine sub_a ?_ | refine ld_a ?_ | refine ldA_a ?_ | refine ldS_a ?_ | refine ldNS_a ?_ | refine rdA_s ?_ | refine rd1_s ?_ | refine drew_a fun w1 H1 => ?_ | refine st_a fun w1 H1 => ?_ | refine stA_a fun w1 H1 => ?_ | refine lenT_a ?_ | refine lenO_a ?_ | refine ixT_a ?_ | refine ixO_a ?_ | fail)
    unfold F58_j1
    repeat (first | simp only [cI_enc, cE_enc, cN_enc, W0] | refine lss_a ?_ | refine lss_b ?_ | refine gtr_a ?_ | refine gtr_b ?_ | refine geq_a ?_ | refine geq_b ?_ | refine leq_a ?_ | refine leq_b ?_ | refine eql_a ?_ | refine eql_b ?_ | refine neq_a ?_ | refine neq_b ?_ | refine add_a ?_ | refine sub_a ?_ | refine ld_a ?_ | refine ldA_a ?_ | refine ldS_a ?_ | refine ldNS_a ?_ | refine rdA_s ?_ | refine rd1_s ?_ | refine drew_a fun w1 H1 => ?_ | refine st_a fun w1 H1 => ?_ | refine stA_a fun w1 H1 => ?_ | refine lenT_a ?_ | refine lenO_a ?_ | refine ixT_a ?_ | refine ixO_a ?_ | fail)
    exact ⟨_, cs, _, co, now, rfl, Hp.re (by assumption), ho, hio, hs⟩
  have ho' : now[i]? = some (gt now i) := gt_some (by omega)
  have he' : eff[i]? = some (gt eff i) := gt_some (by omega)
  have hd := dif_succ (old := eff) (now := now) (n := i)
  by_cases hc : gt now i = gt eff i
  · rw [if_pos hc, List.append_nil] at hd
    repeat (first | simp only [cI_enc, cE_enc, cN_enc, W0] | refine lss_a ?_ | refine lss_b ?_ | refine gtr_a ?_ | refine gtr_b ?_ | refine geq_a ?_ | refine geq_b ?_ | refine leq_a ?_ | refine leq_b ?_ | refine eql_a ?_ | refine eql_b ?_ | refine neq_a ?_ | refine neq_b ?_ | refine add_a ?_ | refine sub_a ?_ | refine ld_a ?_ | refine ldA_a ?_ | refine ldS_a ?_ | refine ldNS_a ?_ | refine rdA_s ?_ | refine rd1_s ?_ | refine drew_a fun w1 H1 => ?_ | refine st_a fun w1 H1 => ?_ | refine stA_a fun w1 H1 => ?_ | refine lenT_a ?_ | refine lenO_a ?_ | refine ixT_a ?_ | refine ixO_a ?_ | fail)
    refine hk' (m - 1) _ _ _ _ _ _ _ (by omega) ⟨i + 1, _, cs, rfl, rfl, rfl, rfl, rfl, rfl, by omega, by rw [hd]; exact hs, Hp.re (by assumption)⟩
  · rw [if_neg hc] at hd
    repeat (first | simp only [cI_enc, cE_enc, cN_enc, W0] | refine lss_a ?_ | refine lss_b ?_ | refine gtr_a ?_ | refine gtr_b ?_ | refine geq_a ?_ | refine geq_b ?_ | refine leq_a ?_ | refine leq_b ?_ | refine eql_a ?_ | refine eql_b ?_ | refine neq_a ?_ | refine neq_b ?_ | refine add_a ?_ | refine sub_a ?_ | refine ld_a ?_ | refine ldA_a ?_ | refine ldS_a ?_ | refine ldNS_a ?_ | refine rdA_s ?_ | refine rd1_s ?_ | refine drew_a fun w1 H1 => ?_ | refine st_a fun w1 H1 => ?_ | refine stA_a fun w1 H1 => ?_ | refine lenT_a ?_ | refine lenO_a ?_ | refine ixT_a ?_ | refine ixO_a ?_ | fail)
    refine pv_of bld2v ?_
    refine app1_t (C := cE) (x := ((i : Int), gt now i)) elC (by assumption) hs spl rfl (by decide) (by omega) (by omega) fun w s2 cs2 H hs2 => ?_
    rw [← hd] at hs2
    repeat (first | simp only [cI_enc, cE_enc, cN_enc, W0] | refine lss_a ?_ | refine lss_b ?_ | refine gtr_a ?_ | refine gtr_b ?_ | refine geq_a ?_ | refine geq_b ?_ | refine leq_a ?_ | refine leq_b ?_ | refine eql_a ?_ | refine eql_b ?_ | refine neq_a ?_ | refine neq_b ?_ | refine add_a ?_ | refine sub_a ?_ | refine ld_a ?_ | refine ldA_a ?_ | refine ldS_a ?_ | refine ldNS_a ?_ | refine rdA_s ?_ | refine rd1_s ?_ | refine drew_a fun w1 H1 => ?_ | refine st_a fun w1 H1 => ?_ | refine stA_a fun w1 H1 => ?_ | refine lenT_a ?_ | refine lenO_a ?_ | refine ixT_a ?_ | refine ixO_a ?_ | fail)
    refine hk' (m - 1) _ _ _ _ _ _ _ (by omega) ⟨i + 1, s2, cs2, rfl, rfl, rfl, rfl, rfl, rfl, by omega, hs2, Hp.re (by assumption)⟩
theorem put_spec {cs4 : List Chunk} {sb' se' : Value} {base0 : List Int} {E0 : List (Nat × Nat)} {br : Nat} (h1 : TR cI w0 cs sb base0) (h2 : TR cN w0 cs2 se E0) (h3 : TR cI w0 cs3 sb' base) (h4 : TR cN w0 cs4 se' E)
    (m1 : ∀ c ∈ cs, c ∈ L) (m2 : ∀ c ∈ cs2, c ∈ L) (m3 : ∀ c ∈ cs3, c ∈ L) (m4 : ∀ c ∈ cs4, c ∈ L) (hio : IsEff base0 E0 eff) (hll : base0.length = base.length)
    (hl0 : E0.length ≤ 2001) (hb0 : ∀ x ∈ base0, 0 ≤ x ∧ x ≤ 255) (hV0 : Valid E0 base0.length)
    (hl : E.length ≤ 2001) (hbl : base.length ≤ 256) (hbr : ∀ x ∈ base, 0 ≤ x ∧ x ≤ 255) (hV : Valid E base.length)
    (H : Hp w0 w (⟨br, 90, [sb, se]⟩ :: L)) :
    Calls Pg 66 ⟨[ptr br 0, .agg ⟨[sb', se']⟩]⟩ w fun x w' => ∃ s cs now, x = .returned s ∧ Hp w0 w' (⟨br, 90, [sb', se']⟩ :: (cs ++ L)) ∧ TS cE 104 s (dif eff now base.length) cs ∧ IsEff base E now := by
  have q1 := h1.sc
  have q2 := h2.sc
  have q3 := h3.sc
  have q4 := h4.sc
  apply F66_calls
  unfold F66
  refine bx_m H fun w b H => ?_
  repeat (first | simp only [cI_enc, cE_enc, cN_enc, W0] | refine lss_a ?_ | refine lss_b ?_ | refine gtr_a ?_ | refine gtr_b ?_ | refine geq_a ?_ | refine geq_b ?_ | refine leq_a ?_ | refine leq_b ?_ | refine eql_a ?_ | refine eql_b ?_ | refine neq_a ?_ | refine neq_b ?_ | refine add_a ?_ | refine sub_a ?_ | refine ld_a ?_ | refine ldA_a ?_ | refine ldS_a ?_ | refine ldNS_a ?_ | refine rdA_s ?_ | refine rd1_s ?_ | refine drew_a fun w1 H1 => ?_ | refine st_a fun w1 H1 => ?_ | refine stA_a fun w1 H1 => ?_ | refine lenT_a ?_ | refine lenO_a ?_ | refine ixT_a ?_ | refine ixO_a ?_ | fail)
  refine cal_h (Values_spec h1 h2 (by assumption) csub csub hb0 hV0 (by omega) (by omega)) ?_
  rintro _ w ⟨so, co, old, rfl, H, ho, hio'⟩
  obtain rfl : eff = old := hio.unique hio' fun e => Iff.rfl
  have hol := hio.len
  repeat (first | simp only [cI_enc, cE_enc, cN_enc, W0] | refine lss_a ?_ | refine lss_b ?_ | refine gtr_a ?_ | refine gtr_b ?_ | refine geq_a ?_ | refine geq_b ?_ | refine leq_a ?_ | refine leq_b ?_ | refine eql_a ?_ | refine eql_b ?_ | refine neq_a ?_ | refine neq_b ?_ | refine add_a ?_ | refine sub_a ?_ | refine ld_a ?_ | refine ldA_a ?_ | refine ldS_a ?_ | refine ldNS_a ?_ | refine rdA_s ?_ | refine rd1_s ?_ | refine drew_a fun w1 H1 => ?_ | refine st_a fun w1 H1 => ?_ | refine stA_a fun w1 H1 => ?_ | refine lenT_a ?_ | refine lenO_a ?_ | refine ixT_a ?_ | refine ixO_a ?_ | fail)
  refine cal_h (Values_spec h3 h4 (by assumption) csub (by intro c hc; simp [m4 c hc]) hbr hV (by omega) (by omega)) ?_
  rintro _ w ⟨sn, cn, now, rfl, H, hn, hin⟩
  have hnl := hin.len
  simp only [ret_k]
  unfold F66_j2 F66_j3
  refine loop6 (F66_l1_succ _) (fun m x0 x3 x5 x6 x7 x8 w => ∃ i s cs, x0 = ptr br 0 ∧ x3 = ptr b 0 ∧ x5 = so ∧ x6 = sn ∧ x7 = s ∧ x8 = I (i : Nat) ∧ m + i = base.length ∧ TS cE 104 s (dif eff now i) cs ∧
      Hp w0 w (⟨b, 32, [sb', se']⟩ :: ⟨br, 90, [sb, se]⟩ :: (co ++ (cn ++ (cs ++ L))))) ?_ (m := base.length)
    ⟨0, .slice none 0 0, [], rfl, rfl, rfl, rfl, rfl, rfl, by omega, TS.nil, Hp.re (by assumption)⟩
  clear H
  rintro m k x0 x3 x5 x6 x7 x8 w ⟨i, s, cs, rfl, rfl, rfl, rfl, rfl, rfl, hm, hs, H⟩ hk'
  unfold F66_b1
  have hdl := dif_len (old := eff) (now := now) (n := i)
  by_cases hi : i < base.length
  rotate_left
  · obtain rfl : i = base.length := by omega
    repeat (first | simp only [cI_enc, cE_enc, cN_enc, W0] | refine lss_a ?_ | refine lss_b ?_ | refine gtr_a ?_ | refine gtr_b ?_ | refine geq_a ?_ | refine geq_b ?_ | refine leq_a ?_ | refine leq_b ?_ | refine eql_a ?_ | refine eql_b ?_ | refine neq_a ?_ | refine neq_b ?_ | refine add_a ?_ | refine sub_a ?_ | refine ld_a ?_ | refine ldA_a ?_ | refine ldS_a ?_ | refine ldNS_a ?_ | refine rdA_s ?_ | refine rd1_s ?_ | refine drew_a fun w1 H1 => ?_ | refine st_a fun w1 H1 => ?_ | refine stA_a fun w1 H1 => ?_ | refine lenT_a ?_ | refine lenO_a ?_ | refine ixT_a ?_ | refine ixO_a ?_ | fail)
    try unfold F66_j1
    repeat (first | simp only [cI_enc, cE_enc, cN_enc, W0] | refine lss_a ?_ | refine lss_b ?_ | refine gtr_a ?_ | refine gtr_b ?_ | refine geq_a ?_ | refine geq_b ?_ | refine leq_a ?_ | refine leq_b ?_ | refine eql_a ?_ | refine eql_b ?_ | refine neq_a ?_ | refine neq_b ?_ | refine add_a ?_ | refine sub_a ?_ | refine ld_a ?_ | refine ldA_a ?_ | refine ldS_a ?_ | refine ldNS_a ?_ | refine rdA_s ?_ | refine rd1_s ?_ | refine drew_a fun w1 H1 => ?_ | refine st_a fun w1 H1 => ?_ | refine stA_a fun w1 H1 => ?_ | refine lenT_a ?_ | refine lenO_a ?_ | refine ixT_a ?_ | refine ixO_a ?_ | fail)
    exact ⟨_, cs, now, rfl, Hp.re (by assumption), hs, hin⟩
  have ho' : now[i]? = some (gt now i) := gt_some (by omega)
  have he' : eff[i]? = some (gt eff i) := gt_some (by omega)
  have hd := dif_succ (old := eff) (now := now) (n := i)
  by_cases hc : gt now i = gt eff i
  · rw [if_pos hc, List.append_nil] at hd
    repeat (first | simp only [cI_enc, cE_enc, cN_enc, W0] | refine lss_a ?_ | refine lss_b ?_ | refine gtr_a ?_ | refine gtr_b ?_ | refine geq_a ?_ | refine geq_b ?_ | refine leq_a ?_ | refine leq_b ?_ | refine eql_a ?_ | refine eql_b ?_ | refine neq_a ?_ | refine neq_b ?_ | refine add_a ?_ | refine sub_a ?_ | refine ld_a ?_ | refine ldA_a ?_ | refine ldS_a ?_ | refine ldNS_a ?_ | refine rdA_s ?_ | refine rd1_s ?_ | refine drew_a fun w1 H1 => ?_ | refine st_a fun w1 H1 => ?_ | refine stA_a fun w1 H1 => ?_ | refine lenT_a ?_ | refine lenO_a ?_ | refine ixT_a ?_ | refine ixO_a ?_ | fail)
    refine hk' (m - 1) _ _ _ _ _ _ _ (by omega) ⟨i + 1, _, cs, rfl, rfl, rfl, rfl, rfl, rfl, by omega, by rw [hd]; exact hs, Hp.re (by assumption)⟩
  · rw [if_neg hc] at hd
    repeat (first | simp only [cI_enc, cE_enc, cN_enc, W0] | refine lss_a ?_ | refine lss_b ?_ | refine gtr_a ?_ | refine gtr_b ?_ | refine geq_a ?_ | refine geq_b ?_ | refine leq_a ?_ | refine leq_b ?_ | refine eql_a ?_ | refine eql_b ?_ | refine neq_a ?_ | refine neq_b ?_ | refine add_a ?_ | refine sub_a ?_ | refine ld_a ?_ | refine ldA_a ?_ | refine ldS_a ?_ | refine ldNS_a ?_ | refine rdA_s ?_ | refine rd1_s ?_ | refine drew_a fun w1 H1 => ?_ | refine st_a fun w1 H1 => ?_ | refine stA_a fun w1 H1 => ?_ | refine lenT_a ?_ | refine lenO_a ?_ | refine ixT_a ?_ | refine ixO_a ?_ | fail)
    refine pv_of bld2v ?_
    refine app1_t (C := cE) (x := ((i : Int), gt now i)) elC' (by assumption) hs spl rfl (by decide) (by omega) (by omega) fun w s2 cs2 H hs2 => ?_
    rw [← hd] at hs2
    repeat (first | simp only [cI_enc, cE_enc, cN_enc, W0] | refine lss_a ?_ | refine lss_b ?_ | refine gtr_a ?_ | refine gtr_b ?_ | refine geq_a ?_ | refine geq_b ?_ | refine leq_a ?_ | refine leq_b ?_ | refine eql_a ?_ | refine eql_b ?_ | refine neq_a ?_ | refine neq_b ?_ | refine add_a ?_ | refine sub_a ?_ | refine ld_a ?_ | refine ldA_a ?_ | refine ldS_a ?_ | refine ldNS_a ?_ | refine rdA_s ?_ | refine rd1_s ?_ | refine drew_a fun w1 H1 => ?_ | refine st_a fun w1 H1 => ?_ | refine stA_a fun w1 H1 => ?_ | refine lenT_a ?_ | refine lenO_a ?_ | refine ixT_a ?_ | refine ixO_a ?_ | fail)
    refine hk' (m - 1) _ _ _ _ _ _ _ (by omega) ⟨i + 1, s2, cs2, rfl, rfl, rfl, rfl, rfl, rfl, by omega, hs2, Hp.re (by assumption)⟩
end
end Go.Proofs.Ytagcifbfokneoaa.Den
