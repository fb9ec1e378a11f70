/- Inherit: what a change of the graph reports. Conditions: none. -/
import Derived.Test.YtagcifbfokneoaaQ9
section
set_option linter.unusedVariables false
set_option linter.unusedSimpArgs false
set_option maxRecDepth 8000
set_option maxHeartbeats 1000000
namespace Go.Proofs.Ytagcifbfokneoaa.Den
open Go Go.RowKit
theorem elC : ElT 59 103 cE.sz 16 [I 0, I 0] := ⟨by kernel_rfl, by kernel_rfl, rfl⟩
theorem elC' : ElT 81 104 cE.sz 16 [I 0, I 0] := ⟨by kernel_rfl, by kernel_rfl, rfl⟩
theorem bld2v {a b : Int} : bldO [.int .i64 0, .int .i64 0] [(0, 1, I a), (1, 1, I b)] = some (.agg ⟨[I a, I b]⟩) := rfl
/-- The changes of the first n threads. -/
def dif (old now : List Int) (n : Nat) : List (Int × Int) := (List.range n).filterMap fun i => if gt now i = gt old i then none else some ((i : Int), gt now i)
theorem dif_succ {old now : List Int} {n : Nat} : dif old now (n + 1) = dif old now n ++ (if gt now n = gt old n then [] else [((n : Int), gt now n)]) := by
  unfold dif
  rw [List.range_succ, List.filterMap_append]
  congr 1
  by_cases h : gt now n = gt old n <;> simp [h]
theorem dif_len {old now : List Int} {n : Nat} : (dif old now n).length ≤ n := by
  have := List.length_filterMap_le (fun i => if gt now i = gt old i then none else some ((i : Int), gt now i)) (List.range n)
  simpa [dif] using this
section
variable {w w' w0 : World} {L L' F cs cs2 cs3 cb ce : List Chunk} {s s2 sb se sd : Value} {K : VK} {R : ER} {base eff : List Int} {E E' : List (Nat × Nat)} {bt bm clock : Nat} {ents : List ((Int × Int) × Bool × Nat)}
theorem IsEff.perm {out : List Int} (h : IsEff base E out) (hp : ∀ e, e ∈ E ↔ e ∈ E') : IsEff base E' out :=
  ⟨h.len, h.ge, fun e he => h.cl e ((hp e).2 he), fun i hi => by
    obtain ⟨j, h1, h2, h3⟩ := h.why i hi
    exact ⟨j, h1, h2.mono fun e he => (hp e).1 he, h3⟩⟩
theorem update_spec (hb : TS cI 3 sb base cb) (he : TS cI 3 se eff ce) (hel : eff.length = base.length) (hw : MW ents clock) (hk : mkeys ents = E.map ofN) (hnd : E.Nodup) (hl : E.length ≤ 2000)
    (hbl : base.length ≤ 256) (hbr : ∀ x ∈ base, 0 ≤ x ∧ x ≤ 255) (hV : Valid E base.length)
    (H : Hp w0 w (⟨bt, 88, [sb, .map (some bm), se]⟩ :: ⟨bm, .o (mobj kE Value.bool ents clock), []⟩ :: (cb ++ (ce ++ F)))) :
    Calls Pg 58 ⟨[ptr bt 0]⟩ w fun x w' => ∃ s cs se' ce' now, x = .returned s ∧ Hp w0 w' (⟨bt, 88, [sb, .map (some bm), se']⟩ :: ⟨bm, .o (mobj kE Value.bool ents clock), []⟩ :: (cb ++ (ce' ++ (cs ++ F)))) ∧
      TS cI 3 se' now ce' ∧ IsEff base E now ∧ TS cE 103 s (dif eff now base.length) cs := by
  have q1 := hb.sc
  have q2 := he.sc
  apply F58_calls
  unfold F58
  refine cal_h (graph_spec q1 hw hk hnd hl H) ?_
  rintro _ w ⟨s', E', c', rfl, H, hs', hp, hinc⟩
  simp only [ret_k]
  have hmem : ∀ e, e ∈ E' ↔ e ∈ E := fun e => hp.mem_iff
  refine cal_h (eff_spec hb.tr hs'.tr (by assumption) csub csub hbr (fun e he => hV e ((hmem e).1 he)) hbl (by have := hp.length_eq; omega) (hp.nodup_iff.2 hnd)) ?_
  rintro _ w ⟨so, co, now, rfl, H, ho, hio⟩
  have hio := hio.perm hmem
  have hnl := hio.len
  have q3 := ho.sc
  simp only [ret_k]
  unfold F58_j2
  repeat (first | simp only [cI_enc, cE_enc, cN_enc, W0] | refine lss_a ?_ | refine lss_b ?_ | refine gtr_a ?_ | refine gtr_b ?_ | refine geq_a ?_ | refine geq_b ?_ | refine leq_a ?_ | refine leq_b ?_ | refine eql_a ?_ | refine eql_b ?_ | refine neq_a ?_ | refine neq_b ?_ | refine add_a ?_ | refine sub_a ?_ | refine ld_a ?_ | refine ldA_a ?_ | refine ldS_a ?_ | refine ldNS_a ?_ | refine rdA_s ?_ | refine rd1_s ?_ | refine drew_a fun w1 H1 => ?_ | refine st_a fun w1 H1 => ?_ | refine stA_a fun w1 H1 => ?_ | refine lenT_a ?_ | refine lenO_a ?_ | refine ixT_a ?_ | refine ixO_a ?_ | fail)
  unfold F58_j3
  refine loop6 (F58_l1_succ _) (fun m x0 x3 x4 x10 x11 x12 w => ∃ i s cs, x0 = ptr bt 0 ∧ x3 = s ∧ x4 = so ∧ x10 = so ∧ x11 = I (now.length : Int) ∧ x12 = I (i : Nat) ∧ m + i = base.length ∧ TS cE 103 s (dif eff now i) cs ∧
      Hp w0 w (⟨bt, 88, [sb, .map (some bm), se]⟩ :: ⟨bm, .o (mobj kE Value.bool ents clock), []⟩ :: (cb ++ (ce ++ (co ++ (cs ++ F)))))) ?_ (m := base.length)
    ⟨0, .slice none 0 0, [], rfl, rfl, rfl, rfl, rfl, rfl, by omega, TS.nil, Hp.re (by assumption)⟩
  clear H
  rintro m k x0 x3 x4 x10 x11 x12 w ⟨i, s, cs, rfl, rfl, rfl, rfl, rfl, rfl, hm, hs, H⟩ hk'
  unfold F58_b1
  have hdl := dif_len (old := eff) (now := now) (n := i)
  by_cases hi : i < base.length
  rotate_left
  · obtain rfl : i = base.length := by omega
    repeat (first | simp only [cI_enc, cE_enc, cN_enc, W0] | refine lss_a ?_ | refine lss_b ?_ | refine gtr_a ?_ | refine gtr_b ?_ | refine geq_a ?_ | refine geq_b ?_ | refine leq_a ?_ | refine leq_b ?_ | refine eql_a ?_ | refine eql_b ?_ | refine neq_a ?_ | refine neq_b ?_ | refine add_a ?_ | refine sub_a ?_ | refine ld_a ?_ | refine ldA_a ?_ | refine ldS_a ?_ | refine ldNS_a ?_ | refine rdA_s ?_ | refine rd1_s ?_ | refine drew_a fun w1 H1 => ?_ | refine st_a fun w1 H1 => ?_ | refine stA_a fun w1 H1 => ?_ | refine lenT_a ?_ | refine lenO_a ?_ | refine ixT_a ?_ | refine ixO_a ?_ | fail)
    unfold F58_j1
    repeat (first | simp only [cI_enc, cE_enc, cN_enc, W0] | refine lss_a ?_ | refine lss_b ?_ | refine gtr_a ?_ | refine gtr_b ?_ | refine geq_a ?_ | refine geq_b ?_ | refine leq_a ?_ | refine leq_b ?_ | refine eql_a ?_ | refine eql_b ?_ | refine neq_a ?_ | refine neq_b ?_ | refine add_a ?_ | refine sub_a ?_ | refine ld_a ?_ | refine ldA_a ?_ | refine ldS_a ?_ | refine ldNS_a ?_ | refine rdA_s ?_ | refine rd1_s ?_ | refine drew_a fun w1 H1 => ?_ | refine st_a fun w1 H1 => ?_ | refine stA_a fun w1 H1 => ?_ | refine lenT_a ?_ | refine lenO_a ?_ | refine ixT_a ?_ | refine ixO_a ?_ | fail)
    exact ⟨_, cs, _, co, now, rfl, Hp.re (by assumption), ho, hio, hs⟩
  have ho' : now[i]? = some (gt now i) := gt_some (by omega)
  have he' : eff[i]? = some (gt eff i) := gt_some (by omega)
  have hd := dif_succ (old := eff) (now := now) (n := i)
  by_cases hc : gt now i = gt eff i
  · rw [if_pos hc, List.append_nil] at hd
    repeat (first | simp only [cI_enc, cE_enc, cN_enc, W0] | refine lss_a ?_ | refine lss_b ?_ | refine gtr_a ?_ | refine gtr_b ?_ | refine geq_a ?_ | refine geq_b ?_ | refine leq_a ?_ | refine leq_b ?_ | refine eql_a ?_ | refine eql_b ?_ | refine neq_a ?_ | refine neq_b ?_ | refine add_a ?_ | refine sub_a ?_ | refine ld_a ?_ | refine ldA_a ?_ | refine ldS_a ?_ | refine ldNS_a ?_ | refine rdA_s ?_ | refine rd1_s ?_ | refine drew_a fun w1 H1 => ?_ | refine st_a fun w1 H1 => ?_ | refine stA_a fun w1 H1 => ?_ | refine lenT_a ?_ | refine lenO_a ?_ | refine ixT_a ?_ | refine ixO_a ?_ | fail)
    refine hk' (m - 1) _ _ _ _ _ _ _ (by omega) ⟨i + 1, _, cs, rfl, rfl, rfl, rfl, rfl, rfl, by omega, by rw [hd]; exact hs, Hp.re (by assumption)⟩
  · rw [if_neg hc] at hd
    repeat (first | simp only [cI_enc, cE_enc, cN_enc, W0] | refine lss_a ?_ | refine lss_b ?_ | refine gtr_a ?_ | refine gtr_b ?_ | refine geq_a ?_ | refine geq_b ?_ | refine leq_a ?_ | refine leq_b ?_ | refine eql_a ?_ | refine eql_b ?_ | refine neq_a ?_ | refine neq_b ?_ | refine add_a ?_ | refine sub_a ?_ | refine ld_a ?_ | refine ldA_a ?_ | refine ldS_a ?_ | refine ldNS_a ?_ | refine rdA_s ?_ | refine rd1_s ?_ | refine drew_a fun w1 H1 => ?_ | refine st_a fun w1 H1 => ?_ | refine stA_a fun w1 H1 => ?_ | refine lenT_a ?_ | refine lenO_a ?_ | refine ixT_a ?_ | refine ixO_a ?_ | fail)
    refine pv_of bld2v ?_
    refine app1_t (C := cE) (x := ((i : Int), gt now i)) elC (by assumption) hs spl rfl (by decide) (by omega) (by omega) fun w s2 cs2 H hs2 => ?_
    rw [← hd] at hs2
    repeat (first | simp only [cI_enc, cE_enc, cN_enc, W0] | refine lss_a ?_ | refine lss_b ?_ | refine gtr_a ?_ | refine gtr_b ?_ | refine geq_a ?_ | refine geq_b ?_ | refine leq_a ?_ | refine leq_b ?_ | refine eql_a ?_ | refine eql_b ?_ | refine neq_a ?_ | refine neq_b ?_ | refine add_a ?_ | refine sub_a ?_ | refine ld_a ?_ | refine ldA_a ?_ | refine ldS_a ?_ | refine ldNS_a ?_ | refine rdA_s ?_ | refine rd1_s ?_ | refine drew_a fun w1 H1 => ?_ | refine st_a fun w1 H1 => ?_ | refine stA_a fun w1 H1 => ?_ | refine lenT_a ?_ | refine lenO_a ?_ | refine ixT_a ?_ | refine ixO_a ?_ | fail)
    refine hk' (m - 1) _ _ _ _ _ _ _ (by omega) ⟨i + 1, s2, cs2, rfl, rfl, rfl, rfl, rfl, rfl, by omega, hs2, Hp.re (by assumption)⟩
theorem put_spec {cs4 : List Chunk} {sb' se' : Value} {base0 : List Int} {E0 : List (Nat × Nat)} {br : Nat} (h1 : TR cI w0 cs sb base0) (h2 : TR cN w0 cs2 se E0) (h3 : TR cI w0 cs3 sb' base) (h4 : TR cN w0 cs4 se' E)
    (m1 : ∀ c ∈ cs, c ∈ L) (m2 : ∀ c ∈ cs2, c ∈ L) (m3 : ∀ c ∈ cs3, c ∈ L) (m4 : ∀ c ∈ cs4, c ∈ L) (hio : IsEff base0 E0 eff) (hll : base0.length = base.length)
    (hl0 : E0.length ≤ 2001) (hb0 : ∀ x ∈ base0, 0 ≤ x ∧ x ≤ 255) (hV0 : Valid E0 base0.length)
    (hl : E.length ≤ 2001) (hbl : base.length ≤ 256) (hbr : ∀ x ∈ base, 0 ≤ x ∧ x ≤ 255) (hV : Valid E base.length)
    (H : Hp w0 w (⟨br, 90, [sb, se]⟩ :: L)) :
    Calls Pg 66 ⟨[ptr br 0, .agg ⟨[sb', se']⟩]⟩ w fun x w' => ∃ s cs now, x = .returned s ∧ Hp w0 w' (⟨br, 90, [sb', se']⟩ :: (cs ++ L)) ∧ TS cE 104 s (dif eff now base.length) cs ∧ IsEff base E now := by
  have q1 := h1.sc
  have q2 := h2.sc
  have q3 := h3.sc
  have q4 := h4.sc
  apply F66_calls
  unfold F66
  refine bx_m H fun w b H => ?_
  repeat (first | simp only [cI_enc, cE_enc, cN_enc, W0] | refine lss_a ?_ | refine lss_b ?_ | refine gtr_a ?_ | refine gtr_b ?_ | refine geq_a ?_ | refine geq_b ?_ | refine leq_a ?_ | refine leq_b ?_ | refine eql_a ?_ | refine eql_b ?_ | refine neq_a ?_ | refine neq_b ?_ | refine add_a ?_ | refine sub_a ?_ | refine ld_a ?_ | refine ldA_a ?_ | refine ldS_a ?_ | refine ldNS_a ?_ | refine rdA_s ?_ | refine rd1_s ?_ | refine drew_a fun w1 H1 => ?_ | refine st_a fun w1 H1 => ?_ | refine stA_a fun w1 H1 => ?_ | refine lenT_a ?_ | refine lenO_a ?_ | refine ixT_a ?_ | refine ixO_a ?_ | fail)
  refine cal_h (Values_spec h1 h2 (by assumption) csub csub hb0 hV0 (by omega) (by omega)) ?_
  rintro _ w ⟨so, co, old, rfl, H, ho, hio'⟩
  obtain rfl : eff = old := hio.unique hio' fun e => Iff.rfl
  have hol := hio.len
  repeat (first | simp only [cI_enc, cE_enc, cN_enc, W0] | refine lss_a ?_ | refine lss_b ?_ | refine gtr_a ?_ | refine gtr_b ?_ | refine geq_a ?_ | refine geq_b ?_ | refine leq_a ?_ | refine leq_b ?_ | refine eql_a ?_ | refine eql_b ?_ | refine neq_a ?_ | refine neq_b ?_ | refine add_a ?_ | refine sub_a ?_ | refine ld_a ?_ | refine ldA_a ?_ | refine ldS_a ?_ | refine ldNS_a ?_ | refine rdA_s ?_ | refine rd1_s ?_ | refine drew_a fun w1 H1 => ?_ | refine st_a fun w1 H1 => ?_ | refine stA_a fun w1 H1 => ?_ | refine lenT_a ?_ | refine lenO_a ?_ | refine ixT_a ?_ | refine ixO_a ?_ | fail)
  refine cal_h (Values_spec h3 h4 (by assumption) csub (by intro c hc; simp [m4 c hc]) hbr hV (by omega) (by omega)) ?_
  rintro _ w ⟨sn, cn, now, rfl, H, hn, hin⟩
  have hnl := hin.len
  simp only [ret_k]
  unfold F66_j2 F66_j3
  refine loop6 (F66_l1_succ _) (fun m x0 x3 x5 x6 x7 x8 w => ∃ i s cs, x0 = ptr br 0 ∧ x3 = ptr b 0 ∧ x5 = so ∧ x6 = sn ∧ x7 = s ∧ x8 = I (i : Nat) ∧ m + i = base.length ∧ TS cE 104 s (dif eff now i) cs ∧
      Hp w0 w (⟨b, 32, [sb', se']⟩ :: ⟨br, 90, [sb, se]⟩ :: (co ++ (cn ++ (cs ++ L))))) ?_ (m := base.length)
    ⟨0, .slice none 0 0, [], rfl, rfl, rfl, rfl, rfl, rfl, by omega, TS.nil, Hp.re (by assumption)⟩
  clear H
  rintro m k x0 x3 x5 x6 x7 x8 w ⟨i, s, cs, rfl, rfl, rfl, rfl, rfl, rfl, hm, hs, H⟩ hk'
  unfold F66_b1
  have hdl := dif_len (old := eff) (now := now) (n := i)
  by_cases hi : i < base.length
  rotate_left
  · obtain rfl : i = base.length := by omega
    repeat (first | simp only [cI_enc, cE_enc, cN_enc, W0] | refine lss_a ?_ | refine lss_b ?_ | refine gtr_a ?_ | refine gtr_b ?_ | refine geq_a ?_ | refine geq_b ?_ | refine leq_a ?_ | refine leq_b ?_ | refine eql_a ?_ | refine eql_b ?_ | refine neq_a ?_ | refine neq_b ?_ | refine add_a ?_ | refine sub_a ?_ | refine ld_a ?_ | refine ldA_a ?_ | refine ldS_a ?_ | refine ldNS_a ?_ | refine rdA_s ?_ | refine rd1_s ?_ | refine drew_a fun w1 H1 => ?_ | refine st_a fun w1 H1 => ?_ | refine stA_a fun w1 H1 => ?_ | refine lenT_a ?_ | refine lenO_a ?_ | refine ixT_a ?_ | refine ixO_a ?_ | fail)
    try unfold F66_j1
    repeat (first | simp only [cI_enc, cE_enc, cN_enc, W0] | refine lss_a ?_ | refine lss_b ?_ | refine gtr_a ?_ | refine gtr_b ?_ | refine geq_a ?_ | refine geq_b ?_ | refine leq_a ?_ | refine leq_b ?_ | refine eql_a ?_ | refine eql_b ?_ | refine neq_a ?_ | refine neq_b ?_ | refine add_a ?_ | refine sub_a ?_ | refine ld_a ?_ | refine ldA_a ?_ | refine ldS_a ?_ | refine ldNS_a ?_ | refine rdA_s ?_ | refine rd1_s ?_ | refine drew_a fun w1 H1 => ?_ | refine st_a fun w1 H1 => ?_ | refine stA_a fun w1 H1 => ?_ | refine lenT_a ?_ | refine lenO_a ?_ | refine ixT_a ?_ | refine ixO_a ?_ | fail)
    exact ⟨_, cs, now, rfl, Hp.re (by assumption), hs, hin⟩
  have ho' : now[i]? = some (gt now i) := gt_some (by omega)
  have he' : eff[i]? = some (gt eff i) := gt_some (by omega)
  have hd := dif_succ (old := eff) (now := now) (n := i)
  by_cases hc : gt now i = gt eff i
  · rw [if_pos hc, List.append_nil] at hd
    repeat (first | simp only [cI_enc, cE_enc, cN_enc, W0] | refine lss_a ?_ | refine lss_b ?_ | refine gtr_a ?_ | refine gtr_b ?_ | refine geq_a ?_ | refine geq_b ?_ | refine leq_a ?_ | refine leq_b ?_ | refine eql_a ?_ | refine eql_b ?_ | refine neq_a ?_ | refine neq_b ?_ | refine add_a ?_ | refine sub_a ?_ | refine ld_a ?_ | refine ldA_a ?_ | refine ldS_a ?_ | refine ldNS_a ?_ | refine rdA_s ?_ | refine rd1_s ?_ | refine drew_a fun w1 H1 => ?_ | refine st_a fun w1 H1 => ?_ | refine stA_a fun w1 H1 => ?_ | refine lenT_a ?_ | refine lenO_a ?_ | refine ixT_a ?_ | refine ixO_a ?_ | fail)
    refine hk' (m - 1) _ _ _ _ _ _ _ (by omega) ⟨i + 1, _, cs, rfl, rfl, rfl, rfl, rfl, rfl, by omega, by rw [hd]; exact hs, Hp.re (by assumption)⟩
  · rw [if_neg hc] at hd
    repeat (first | simp only [cI_enc, cE_enc, cN_enc, W0] | refine lss_a ?_ | refine lss_b ?_ | refine gtr_a ?_ | refine gtr_b ?_ | refine geq_a ?_ | refine geq_b ?_ | refine leq_a ?_ | refine leq_b ?_ | refine eql_a ?_ | refine eql_b ?_ | refine neq_a ?_ | refine neq_b ?_ | refine add_a ?_ | refine sub_a ?_ | refine ld_a ?_ | refine ldA_a ?_ | refine ldS_a ?_ | refine ldNS_a ?_ | refine rdA_s ?_ | refine rd1_s ?_ | refine drew_a fun w1 H1 => ?_ | refine st_a fun w1 H1 => ?_ | refine stA_a fun w1 H1 => ?_ | refine lenT_a ?_ | refine lenO_a ?_ | refine ixT_a ?_ | refine ixO_a ?_ | fail)
    refine pv_of bld2v ?_
    refine app1_t (C := cE) (x := ((i : Int), gt now i)) elC' (by assumption) hs spl rfl (by decide) (by omega) (by omega) fun w s2 cs2 H hs2 => ?_
    rw [← hd] at hs2
    repeat (first | simp only [cI_enc, cE_enc, cN_enc, W0] | refine lss_a ?_ | refine lss_b ?_ | refine gtr_a ?_ | refine gtr_b ?_ | refine geq_a ?_ | refine geq_b ?_ | refine leq_a ?_ | refine leq_b ?_ | refine eql_a ?_ | refine eql_b ?_ | refine neq_a ?_ | refine neq_b ?_ | refine add_a ?_ | refine sub_a ?_ | refine ld_a ?_ | refine ldA_a ?_ | refine ldS_a ?_ | refine ldNS_a ?_ | refine rdA_s ?_ | refine rd1_s ?_ | refine drew_a fun w1 H1 => ?_ | refine st_a fun w1 H1 => ?_ | refine stA_a fun w1 H1 => ?_ | refine lenT_a ?_ | refine lenO_a ?_ | refine ixT_a ?_ | refine ixO_a ?_ | fail)
    refine hk' (m - 1) _ _ _ _ _ _ _ (by omega) ⟨i + 1, s2, cs2, rfl, rfl, rfl, rfl, rfl, rfl, by omega, hs2, Hp.re (by assumption)⟩
end
end Go.Proofs.Ytagcifbfokneoaa.Den
end

section
set_option linter.unusedVariables false
set_option linter.unusedSimpArgs false
set_option maxRecDepth 8000
set_option maxHeartbeats 1000000
namespace Go.Proofs.Ytagcifbfokneoaa.Den
open Go Go.RowKit
structure St (base : List Int) (E : List (Nat × Nat)) : Prop where
  len : base.length ≤ 256
  rg : ∀ x ∈ base, 0 ≤ x ∧ x ≤ 255
  va : Valid E base.length
  nd : E.Nodup
  el : E.length ≤ 2000
/-- The program's tracker at a block. -/
def PTr (bt : Nat) (base : List Int) (E : List (Nat × Nat)) (eff : List Int) (C : List Chunk) : Prop :=
  ∃ bm sb se cb ce ents clock, C = ⟨bt, 88, [sb, .map (some bm), se]⟩ :: ⟨bm, .o (mobj kE Value.bool ents clock), []⟩ :: (cb ++ ce) ∧ TS cI 3 sb base cb ∧ TS cI 3 se eff ce ∧ MW ents clock ∧ mkeys ents = E.map ofN ∧ ∀ e ∈ ents, e.2.1 = true
/-- The reference's. -/
def RTr (br : Nat) (base : List Int) (E : List (Nat × Nat)) (eff : List Int) (C : List Chunk) : Prop :=
  ∃ sb se cb ce, C = ⟨br, 90, [sb, se]⟩ :: (cb ++ ce) ∧ TS cI 3 sb base cb ∧ TS cN 39 se E ce
/-- What a call leaves. -/
def OpQ (el : Nat) (T : List Int → List (Nat × Nat) → List Int → List Chunk → Prop) (code : Int) (base : List Int) (E : List (Nat × Nat)) (eff base' : List Int) (E' : List (Nat × Nat)) (w0 : World) (L : List Chunk) : ER := fun x w' =>
  (code ≠ 0 ∧ x = .returned (.tuple ⟨[.slice none 0 0, I code]⟩) ∧ ∃ C, T base E eff C ∧ Hp w0 w' (C ++ L)) ∨
  (code = 0 ∧ ∃ s cs now C, x = .returned (.tuple ⟨[s, I 0]⟩) ∧ IsEff base' E' now ∧ TS cE el s (dif eff now base'.length) cs ∧ T base' E' now C ∧ Hp w0 w' (C ++ (cs ++ L)))
def addC (base : List Int) (E : List (Nat × Nat)) (e : Int × Int) : Int :=
  if ¬ (inR base.length e.1 = true ∧ inR base.length e.2 = true) then 34 else if e ∈ E.map ofN then 10 else if 2000 ≤ E.length then 18 else 0
def remC (base : List Int) (E : List (Nat × Nat)) (e : Int × Int) : Int :=
  if ¬ (inR base.length e.1 = true ∧ inR base.length e.2 = true) then 34 else if e ∉ E.map ofN then 22 else 0
section
variable {w w' w0 : World} {L L' F cs cs2 cs3 cb ce C : List Chunk} {s s2 sb se sd : Value} {K : VK} {R : ER} {base eff : List Int} {E E' : List (Nat × Nat)} {bt bm clock : Nat} {ents : List ((Int × Int) × Bool × Nat)}
theorem has57 {n : Int} (hb : TS cI 3 sb base cb) (H : Hp w0 w (⟨bt, 88, [sb, s, se]⟩ :: L)) :
    Calls Pg 57 ⟨[ptr bt 0, I n]⟩ w fun x w' => x = .returned (.bool (inR base.length n)) ∧ Hp w0 w' (⟨bt, 88, [sb, s, se]⟩ :: L) := by
  apply F57_calls
  unfold F57
  by_cases h0 : 0 ≤ n
  · by_cases h1 : n < base.length
    · repeat (first | simp only [cI_enc, cE_enc, cN_enc, W0] | refine lss_a ?_ | refine lss_b ?_ | refine gtr_a ?_ | refine gtr_b ?_ | refine geq_a ?_ | refine geq_b ?_ | refine leq_a ?_ | refine leq_b ?_ | refine eql_a ?_ | refine eql_b ?_ | refine neq_a ?_ | refine neq_b ?_ | refine add_a ?_ | refine sub_a ?_ | refine ld_a ?_ | refine ldA_a ?_ | refine ldS_a ?_ | refine ldNS_a ?_ | refine rdA_s ?_ | refine rd1_s ?_ | refine drew_a fun w1 H1 => ?_ | refine st_a fun w1 H1 => ?_ | refine stA_a fun w1 H1 => ?_ | refine lenT_a ?_ | refine lenO_a ?_ | refine ixT_a ?_ | refine ixO_a ?_ | fail)
      exact ⟨by rw [inR, decide_eq_true ⟨h0, h1⟩], by assumption⟩
    · repeat (first | simp only [cI_enc, cE_enc, cN_enc, W0] | refine lss_a ?_ | refine lss_b ?_ | refine gtr_a ?_ | refine gtr_b ?_ | refine geq_a ?_ | refine geq_b ?_ | refine leq_a ?_ | refine leq_b ?_ | refine eql_a ?_ | refine eql_b ?_ | refine neq_a ?_ | refine neq_b ?_ | refine add_a ?_ | refine sub_a ?_ | refine ld_a ?_ | refine ldA_a ?_ | refine ldS_a ?_ | refine ldNS_a ?_ | refine rdA_s ?_ | refine rd1_s ?_ | refine drew_a fun w1 H1 => ?_ | refine st_a fun w1 H1 => ?_ | refine stA_a fun w1 H1 => ?_ | refine lenT_a ?_ | refine lenO_a ?_ | refine ixT_a ?_ | refine ixO_a ?_ | fail)
      exact ⟨by rw [inR, decide_eq_false (fun h => h1 h.2)], by assumption⟩
  · repeat (first | simp only [cI_enc, cE_enc, cN_enc, W0] | refine lss_a ?_ | refine lss_b ?_ | refine gtr_a ?_ | refine gtr_b ?_ | refine geq_a ?_ | refine geq_b ?_ | refine leq_a ?_ | refine leq_b ?_ | refine eql_a ?_ | refine eql_b ?_ | refine neq_a ?_ | refine neq_b ?_ | refine add_a ?_ | refine sub_a ?_ | refine ld_a ?_ | refine ldA_a ?_ | refine ldS_a ?_ | refine ldNS_a ?_ | refine rdA_s ?_ | refine rd1_s ?_ | refine drew_a fun w1 H1 => ?_ | refine st_a fun w1 H1 => ?_ | refine stA_a fun w1 H1 => ?_ | refine lenT_a ?_ | refine lenO_a ?_ | refine ixT_a ?_ | refine ixO_a ?_ | fail)
    exact ⟨by rw [inR, decide_eq_false (fun h => h0 h.1)], by assumption⟩
theorem mem_get {e : Int × Int} (hk : mkeys ents = E.map ofN) (ht : ∀ x ∈ ents, x.2.1 = true) : lkv Value.bool false (mget e ents) = .bool (decide (e ∈ E.map ofN)) := by
  rw [← hk]
  unfold lkv
  cases h : mget e ents with
  | none => rw [decide_eq_false (mget_none.1 h)]; rfl
  | some v =>
    obtain ⟨n, hn⟩ := mget_some h
    have := ht _ hn
    simp at this; subst this
    have : e ∈ mkeys ents := List.mem_map.2 ⟨_, hn, rfl⟩
    rw [decide_eq_true this]; rfl
theorem St.add {e : Int × Int} (hS : St base E) (g1 : inR base.length e.1 = true) (g2 : inR base.length e.2 = true) (hm : e ∉ E.map ofN) (hl : E.length < 2000) : St base (E ++ [toN e]) := by
  rw [inR, decide_eq_true_eq] at g1 g2
  have he' : ofN (toN e) = e := Prod.ext (by simp [ofN, toN]; omega) (by simp [ofN, toN]; omega)
  refine ⟨hS.len, hS.rg, ?_, ?_, by simp; omega⟩
  · intro x hx
    rcases List.mem_append.1 hx with h | h
    · exact hS.va x h
    · simp at h; subst h
      simp only [toN]; omega
  · rw [List.nodup_append]
    refine ⟨hS.nd, by simp, ?_⟩
    intro a ha b hb
    simp at hb; subst hb
    rintro rfl
    exact hm (by rw [← he']; exact List.mem_map_of_mem ha)
theorem add_spec {e : Int × Int} (hS : St base E) (hel : eff.length = base.length) (hT : PTr bt base E eff C) (H : Hp w0 w (C ++ L)) :
    Calls Pg 31 ⟨[ptr bt 0, .agg ⟨[I e.1, I e.2]⟩]⟩ w (OpQ 103 (PTr bt) (addC base E e) base E eff base (E ++ [toN e]) w0 L) := by
  have hT0 := hT
  obtain ⟨bm, sb, se, cb, ce, ents, clock, rfl, hb, he, hw, hk, ht⟩ := hT
  have hkl : ents.length = E.length := by have := congrArg List.length hk; simpa [mkeys] using this
  apply F31_calls
  unfold F31
  refine bx_m H fun w b H => ?_
  try unfold F31_j2
  repeat (first | simp only [cI_enc, cE_enc, cN_enc, W0] | refine lss_a ?_ | refine lss_b ?_ | refine gtr_a ?_ | refine gtr_b ?_ | refine geq_a ?_ | refine geq_b ?_ | refine leq_a ?_ | refine leq_b ?_ | refine eql_a ?_ | refine eql_b ?_ | refine neq_a ?_ | refine neq_b ?_ | refine add_a ?_ | refine sub_a ?_ | refine ld_a ?_ | refine ldA_a ?_ | refine ldS_a ?_ | refine ldNS_a ?_ | refine rdA_s ?_ | refine rd1_s ?_ | refine drew_a fun w1 H1 => ?_ | refine st_a fun w1 H1 => ?_ | refine stA_a fun w1 H1 => ?_ | refine lenT_a ?_ | refine lenO_a ?_ | refine ixT_a ?_ | refine ixO_a ?_ | fail)
  try unfold F31_j3
  repeat (first | simp only [cI_enc, cE_enc, cN_enc, W0] | refine lss_a ?_ | refine lss_b ?_ | refine gtr_a ?_ | refine gtr_b ?_ | refine geq_a ?_ | refine geq_b ?_ | refine leq_a ?_ | refine leq_b ?_ | refine eql_a ?_ | refine eql_b ?_ | refine neq_a ?_ | refine neq_b ?_ | refine add_a ?_ | refine sub_a ?_ | refine ld_a ?_ | refine ldA_a ?_ | refine ldS_a ?_ | refine ldNS_a ?_ | refine rdA_s ?_ | refine rd1_s ?_ | refine drew_a fun w1 H1 => ?_ | refine st_a fun w1 H1 => ?_ | refine stA_a fun w1 H1 => ?_ | refine lenT_a ?_ | refine lenO_a ?_ | refine ixT_a ?_ | refine ixO_a ?_ | fail)
  try unfold F31_j4
  repeat (first | simp only [cI_enc, cE_enc, cN_enc, W0] | refine lss_a ?_ | refine lss_b ?_ | refine gtr_a ?_ | refine gtr_b ?_ | refine geq_a ?_ | refine geq_b ?_ | refine leq_a ?_ | refine leq_b ?_ | refine eql_a ?_ | refine eql_b ?_ | refine neq_a ?_ | refine neq_b ?_ | refine add_a ?_ | refine sub_a ?_ | refine ld_a ?_ | refine ldA_a ?_ | refine ldS_a ?_ | refine ldNS_a ?_ | refine rdA_s ?_ | refine rd1_s ?_ | refine drew_a fun w1 H1 => ?_ | refine st_a fun w1 H1 => ?_ | refine stA_a fun w1 H1 => ?_ | refine lenT_a ?_ | refine lenO_a ?_ | refine ixT_a ?_ | refine ixO_a ?_ | fail)
  refine cal_h (has57 (s := .map (some bm)) (se := se) hb (L := ⟨b, 39, [I e.1, I e.2]⟩ :: ⟨bm, .o (mobj kE Value.bool ents clock), []⟩ :: (cb ++ (ce ++ L))) (Hp.re (by assumption))) ?_
  rintro _ w ⟨rfl, H⟩
  have bad : ∀ {w : World} {c : Int}, addC base E e = c → c ≠ 0 → Hp w0 w (⟨bt, 88, [sb, .map (some bm), se]⟩ :: ⟨b, 39, [I e.1, I e.2]⟩ :: ⟨bm, .o (mobj kE Value.bool ents clock), []⟩ :: (cb ++ (ce ++ L))) →
      OpQ 103 (PTr bt) (addC base E e) base E eff base (E ++ [toN e]) w0 L (.returned (.tuple ⟨[.slice none 0 0, I c]⟩)) w := by
    intro w c hc h0 H
    exact .inl ⟨by omega, by rw [hc], _, hT0, Hp.re (by assumption)⟩
  cases g1 : inR base.length e.1 with
  | false =>
    repeat (first | simp only [cI_enc, cE_enc, cN_enc, W0] | refine lss_a ?_ | refine lss_b ?_ | refine gtr_a ?_ | refine gtr_b ?_ | refine geq_a ?_ | refine geq_b ?_ | refine leq_a ?_ | refine leq_b ?_ | refine eql_a ?_ | refine eql_b ?_ | refine neq_a ?_ | refine neq_b ?_ | refine add_a ?_ | refine sub_a ?_ | refine ld_a ?_ | refine ldA_a ?_ | refine ldS_a ?_ | refine ldNS_a ?_ | refine rdA_s ?_ | refine rd1_s ?_ | refine drew_a fun w1 H1 => ?_ | refine st_a fun w1 H1 => ?_ | refine stA_a fun w1 H1 => ?_ | refine lenT_a ?_ | refine lenO_a ?_ | refine ixT_a ?_ | refine ixO_a ?_ | fail)
    try unfold F31_j5
    repeat (first | simp only [cI_enc, cE_enc, cN_enc, W0] | refine lss_a ?_ | refine lss_b ?_ | refine gtr_a ?_ | refine gtr_b ?_ | refine geq_a ?_ | refine geq_b ?_ | refine leq_a ?_ | refine leq_b ?_ | refine eql_a ?_ | refine eql_b ?_ | refine neq_a ?_ | refine neq_b ?_ | refine add_a ?_ | refine sub_a ?_ | refine ld_a ?_ | refine ldA_a ?_ | refine ldS_a ?_ | refine ldNS_a ?_ | refine rdA_s ?_ | refine rd1_s ?_ | refine drew_a fun w1 H1 => ?_ | refine st_a fun w1 H1 => ?_ | refine stA_a fun w1 H1 => ?_ | refine lenT_a ?_ | refine lenO_a ?_ | refine ixT_a ?_ | refine ixO_a ?_ | fail)
    exact bad (by unfold addC; rw [if_pos (by simp [g1])]) (by decide) (by assumption)
  | true =>
    repeat (first | simp only [cI_enc, cE_enc, cN_enc, W0] | refine lss_a ?_ | refine lss_b ?_ | refine gtr_a ?_ | refine gtr_b ?_ | refine geq_a ?_ | refine geq_b ?_ | refine leq_a ?_ | refine leq_b ?_ | refine eql_a ?_ | refine eql_b ?_ | refine neq_a ?_ | refine neq_b ?_ | refine add_a ?_ | refine sub_a ?_ | refine ld_a ?_ | refine ldA_a ?_ | refine ldS_a ?_ | refine ldNS_a ?_ | refine rdA_s ?_ | refine rd1_s ?_ | refine drew_a fun w1 H1 => ?_ | refine st_a fun w1 H1 => ?_ | refine stA_a fun w1 H1 => ?_ | refine lenT_a ?_ | refine lenO_a ?_ | refine ixT_a ?_ | refine ixO_a ?_ | fail)
    refine cal_h (has57 (s := .map (some bm)) (se := se) hb (L := ⟨b, 39, [I e.1, I e.2]⟩ :: ⟨bm, .o (mobj kE Value.bool ents clock), []⟩ :: (cb ++ (ce ++ L))) (Hp.re (by assumption))) ?_
    rintro _ w ⟨rfl, H⟩
    cases g2 : inR base.length e.2 with
    | false =>
      repeat (first | simp only [cI_enc, cE_enc, cN_enc, W0] | refine lss_a ?_ | refine lss_b ?_ | refine gtr_a ?_ | refine gtr_b ?_ | refine geq_a ?_ | refine geq_b ?_ | refine leq_a ?_ | refine leq_b ?_ | refine eql_a ?_ | refine eql_b ?_ | refine neq_a ?_ | refine neq_b ?_ | refine add_a ?_ | refine sub_a ?_ | refine ld_a ?_ | refine ldA_a ?_ | refine ldS_a ?_ | refine ldNS_a ?_ | refine rdA_s ?_ | refine rd1_s ?_ | refine drew_a fun w1 H1 => ?_ | refine st_a fun w1 H1 => ?_ | refine stA_a fun w1 H1 => ?_ | refine lenT_a ?_ | refine lenO_a ?_ | refine ixT_a ?_ | refine ixO_a ?_ | fail)
      try unfold F31_j5
      repeat (first | simp only [cI_enc, cE_enc, cN_enc, W0] | refine lss_a ?_ | refine lss_b ?_ | refine gtr_a ?_ | refine gtr_b ?_ | refine geq_a ?_ | refine geq_b ?_ | refine leq_a ?_ | refine leq_b ?_ | refine eql_a ?_ | refine eql_b ?_ | refine neq_a ?_ | refine neq_b ?_ | refine add_a ?_ | refine sub_a ?_ | refine ld_a ?_ | refine ldA_a ?_ | refine ldS_a ?_ | refine ldNS_a ?_ | refine rdA_s ?_ | refine rd1_s ?_ | refine drew_a fun w1 H1 => ?_ | refine st_a fun w1 H1 => ?_ | refine stA_a fun w1 H1 => ?_ | refine lenT_a ?_ | refine lenO_a ?_ | refine ixT_a ?_ | refine ixO_a ?_ | fail)
      exact bad (by unfold addC; rw [if_pos (by simp [g2])]) (by decide) (by assumption)
    | true =>
      have c0 : addC base E e = if e ∈ E.map ofN then 10 else if 2000 ≤ E.length then 18 else 0 := by unfold addC; rw [if_neg (by simp [g1, g2])]
      repeat (first | simp only [cI_enc, cE_enc, cN_enc, W0] | refine lss_a ?_ | refine lss_b ?_ | refine gtr_a ?_ | refine gtr_b ?_ | refine geq_a ?_ | refine geq_b ?_ | refine leq_a ?_ | refine leq_b ?_ | refine eql_a ?_ | refine eql_b ?_ | refine neq_a ?_ | refine neq_b ?_ | refine add_a ?_ | refine sub_a ?_ | refine ld_a ?_ | refine ldA_a ?_ | refine ldS_a ?_ | refine ldNS_a ?_ | refine rdA_s ?_ | refine rd1_s ?_ | refine drew_a fun w1 H1 => ?_ | refine st_a fun w1 H1 => ?_ | refine stA_a fun w1 H1 => ?_ | refine lenT_a ?_ | refine lenO_a ?_ | refine ixT_a ?_ | refine ixO_a ?_ | fail)
      try unfold F31_j5
      repeat (first | simp only [cI_enc, cE_enc, cN_enc, W0] | refine lss_a ?_ | refine lss_b ?_ | refine gtr_a ?_ | refine gtr_b ?_ | refine geq_a ?_ | refine geq_b ?_ | refine leq_a ?_ | refine leq_b ?_ | refine eql_a ?_ | refine eql_b ?_ | refine neq_a ?_ | refine neq_b ?_ | refine add_a ?_ | refine sub_a ?_ | refine ld_a ?_ | refine ldA_a ?_ | refine ldS_a ?_ | refine ldNS_a ?_ | refine rdA_s ?_ | refine rd1_s ?_ | refine drew_a fun w1 H1 => ?_ | refine st_a fun w1 H1 => ?_ | refine stA_a fun w1 H1 => ?_ | refine lenT_a ?_ | refine lenO_a ?_ | refine ixT_a ?_ | refine ixO_a ?_ | fail)
      try unfold F31_j6
      repeat (first | simp only [cI_enc, cE_enc, cN_enc, W0] | refine lss_a ?_ | refine lss_b ?_ | refine gtr_a ?_ | refine gtr_b ?_ | refine geq_a ?_ | refine geq_b ?_ | refine leq_a ?_ | refine leq_b ?_ | refine eql_a ?_ | refine eql_b ?_ | refine neq_a ?_ | refine neq_b ?_ | refine add_a ?_ | refine sub_a ?_ | refine ld_a ?_ | refine ldA_a ?_ | refine ldS_a ?_ | refine ldNS_a ?_ | refine rdA_s ?_ | refine rd1_s ?_ | refine drew_a fun w1 H1 => ?_ | refine st_a fun w1 H1 => ?_ | refine stA_a fun w1 H1 => ?_ | refine lenT_a ?_ | refine lenO_a ?_ | refine ixT_a ?_ | refine ixO_a ?_ | fail)
      refine lookup_h mapE e (by assumption) has ?_
      rw [mem_get hk ht]
      by_cases hm : e ∈ E.map ofN
      · rw [decide_eq_true hm]
        rw [if_pos hm] at c0
        repeat (first | simp only [cI_enc, cE_enc, cN_enc, W0] | refine lss_a ?_ | refine lss_b ?_ | refine gtr_a ?_ | refine gtr_b ?_ | refine geq_a ?_ | refine geq_b ?_ | refine leq_a ?_ | refine leq_b ?_ | refine eql_a ?_ | refine eql_b ?_ | refine neq_a ?_ | refine neq_b ?_ | refine add_a ?_ | refine sub_a ?_ | refine ld_a ?_ | refine ldA_a ?_ | refine ldS_a ?_ | refine ldNS_a ?_ | refine rdA_s ?_ | refine rd1_s ?_ | refine drew_a fun w1 H1 => ?_ | refine st_a fun w1 H1 => ?_ | refine stA_a fun w1 H1 => ?_ | refine lenT_a ?_ | refine lenO_a ?_ | refine ixT_a ?_ | refine ixO_a ?_ | fail)
        exact bad c0 (by decide) (by assumption)
      rw [decide_eq_false hm]
      rw [if_neg hm] at c0
      repeat (first | simp only [cI_enc, cE_enc, cN_enc, W0] | refine lss_a ?_ | refine lss_b ?_ | refine gtr_a ?_ | refine gtr_b ?_ | refine geq_a ?_ | refine geq_b ?_ | refine leq_a ?_ | refine leq_b ?_ | refine eql_a ?_ | refine eql_b ?_ | refine neq_a ?_ | refine neq_b ?_ | refine add_a ?_ | refine sub_a ?_ | refine ld_a ?_ | refine ldA_a ?_ | refine ldS_a ?_ | refine ldNS_a ?_ | refine rdA_s ?_ | refine rd1_s ?_ | refine drew_a fun w1 H1 => ?_ | refine st_a fun w1 H1 => ?_ | refine stA_a fun w1 H1 => ?_ | refine lenT_a ?_ | refine lenO_a ?_ | refine ixT_a ?_ | refine ixO_a ?_ | fail)
      refine mlen_h mapE (by assumption) has ?_
      by_cases hl : 2000 ≤ E.length
      · rw [if_pos hl] at c0
        repeat (first | simp only [cI_enc, cE_enc, cN_enc, W0] | refine lss_a ?_ | refine lss_b ?_ | refine gtr_a ?_ | refine gtr_b ?_ | refine geq_a ?_ | refine geq_b ?_ | refine leq_a ?_ | refine leq_b ?_ | refine eql_a ?_ | refine eql_b ?_ | refine neq_a ?_ | refine neq_b ?_ | refine add_a ?_ | refine sub_a ?_ | refine ld_a ?_ | refine ldA_a ?_ | refine ldS_a ?_ | refine ldNS_a ?_ | refine rdA_s ?_ | refine rd1_s ?_ | refine drew_a fun w1 H1 => ?_ | refine st_a fun w1 H1 => ?_ | refine stA_a fun w1 H1 => ?_ | refine lenT_a ?_ | refine lenO_a ?_ | refine ixT_a ?_ | refine ixO_a ?_ | fail)
        exact bad c0 (by decide) (by assumption)
      rw [if_neg hl] at c0
      repeat (first | simp only [cI_enc, cE_enc, cN_enc, W0] | refine lss_a ?_ | refine lss_b ?_ | refine gtr_a ?_ | refine gtr_b ?_ | refine geq_a ?_ | refine geq_b ?_ | refine leq_a ?_ | refine leq_b ?_ | refine eql_a ?_ | refine eql_b ?_ | refine neq_a ?_ | refine neq_b ?_ | refine add_a ?_ | refine sub_a ?_ | refine ld_a ?_ | refine ldA_a ?_ | refine ldS_a ?_ | refine ldNS_a ?_ | refine rdA_s ?_ | refine rd1_s ?_ | refine drew_a fun w1 H1 => ?_ | refine st_a fun w1 H1 => ?_ | refine stA_a fun w1 H1 => ?_ | refine lenT_a ?_ | refine lenO_a ?_ | refine ixT_a ?_ | refine ixO_a ?_ | fail)
      try unfold F31_j1
      repeat (first | simp only [cI_enc, cE_enc, cN_enc, W0] | refine lss_a ?_ | refine lss_b ?_ | refine gtr_a ?_ | refine gtr_b ?_ | refine geq_a ?_ | refine geq_b ?_ | refine leq_a ?_ | refine leq_b ?_ | refine eql_a ?_ | refine eql_b ?_ | refine neq_a ?_ | refine neq_b ?_ | refine add_a ?_ | refine sub_a ?_ | refine ld_a ?_ | refine ldA_a ?_ | refine ldS_a ?_ | refine ldNS_a ?_ | refine rdA_s ?_ | refine rd1_s ?_ | refine drew_a fun w1 H1 => ?_ | refine st_a fun w1 H1 => ?_ | refine stA_a fun w1 H1 => ?_ | refine lenT_a ?_ | refine lenO_a ?_ | refine ixT_a ?_ | refine ixO_a ?_ | fail)
      refine put_h mapE e true (by assumption) updd fun w H => ?_
      have hx : e ∉ mkeys ents := by rw [hk]; exact hm
      obtain ⟨p1, p2⟩ := mput_new (v := true) (clock := clock) hx
      rw [p1, p2] at H
      have he' : ofN (toN e) = e := by
        rw [inR, decide_eq_true_eq] at g1 g2
        exact Prod.ext (by simp [ofN, toN]; omega) (by simp [ofN, toN]; omega)
      have hS' := hS.add g1 g2 hm (by omega)
      have hk' : mkeys (ents ++ [(e, true, clock)]) = (E ++ [toN e]).map ofN := by rw [List.map_append, ← hk, List.map_cons, he']; simp [mkeys]
      repeat (first | simp only [cI_enc, cE_enc, cN_enc, W0] | refine lss_a ?_ | refine lss_b ?_ | refine gtr_a ?_ | refine gtr_b ?_ | refine geq_a ?_ | refine geq_b ?_ | refine leq_a ?_ | refine leq_b ?_ | refine eql_a ?_ | refine eql_b ?_ | refine neq_a ?_ | refine neq_b ?_ | refine add_a ?_ | refine sub_a ?_ | refine ld_a ?_ | refine ldA_a ?_ | refine ldS_a ?_ | refine ldNS_a ?_ | refine rdA_s ?_ | refine rd1_s ?_ | refine drew_a fun w1 H1 => ?_ | refine st_a fun w1 H1 => ?_ | refine stA_a fun w1 H1 => ?_ | refine lenT_a ?_ | refine lenO_a ?_ | refine ixT_a ?_ | refine ixO_a ?_ | fail)
      refine cal_h (update_spec (bm := bm) (F := ⟨b, 39, [I e.1, I e.2]⟩ :: L) hb he hel (MW.put_new hx hw) hk' hS'.nd hS'.el hS'.len hS'.rg hS'.va (Hp.re (by assumption))) ?_
      rintro _ w ⟨s, cs, se', ce', now, rfl, H, hse, hio, hcs⟩
      simp only [ret_k]
      exact .inr ⟨c0, s, cs, now, ⟨bt, 88, [sb, .map (some bm), se']⟩ :: ⟨bm, .o (mobj kE Value.bool (ents ++ [(e, true, clock)]) (clock + 1)), []⟩ :: (cb ++ ce'), rfl, hio, hcs, ⟨bm, sb, se', cb, ce', _, _, rfl, hb, hse, MW.put_new hx hw, hk', by intro x hx; rcases List.mem_append.1 hx with h | h; exact ht x h; simp at h; subst h; rfl⟩, Hp.re (by assumption)⟩
end
end Go.Proofs.Ytagcifbfokneoaa.Den
end

section
set_option linter.unusedVariables false
set_option linter.unusedSimpArgs false
set_option maxRecDepth 8000
set_option maxHeartbeats 1000000
namespace Go.Proofs.Ytagcifbfokneoaa.Den
open Go Go.RowKit
def remE (E : List (Nat × Nat)) (e : Int × Int) : List (Nat × Nat) := E.filter fun x => decide (ofN x ≠ e)
section
variable {w w' w0 : World} {L L' F cs cs2 cs3 cb ce C : List Chunk} {s s2 sb se sd : Value} {K : VK} {R : ER} {base eff : List Int} {E E' : List (Nat × Nat)} {bt bm clock : Nat} {ents : List ((Int × Int) × Bool × Nat)}
theorem St.rem {e : Int × Int} (hS : St base E) : St base (remE E e) :=
  ⟨hS.len, hS.rg, fun x hx => hS.va x (List.mem_filter.1 hx).1, hS.nd.filter _, Nat.le_trans (List.length_filter_le _ _) hS.el⟩
theorem rem_spec {e : Int × Int} (hS : St base E) (hel : eff.length = base.length) (hT : PTr bt base E eff C) (H : Hp w0 w (C ++ L)) :
    Calls Pg 28 ⟨[ptr bt 0, .agg ⟨[I e.1, I e.2]⟩]⟩ w (OpQ 103 (PTr bt) (remC base E e) base E eff base (remE E e) w0 L) := by
  have hT0 := hT
  obtain ⟨bm, sb, se, cb, ce, ents, clock, rfl, hb, he, hw, hk, ht⟩ := hT
  have hkl : ents.length = E.length := by have := congrArg List.length hk; simpa [mkeys] using this
  apply F28_calls
  unfold F28
  refine bx_m H fun w b H => ?_
  try unfold F28_j2
  repeat (first | simp only [cI_enc, cE_enc, cN_enc, W0] | refine lss_a ?_ | refine lss_b ?_ | refine gtr_a ?_ | refine gtr_b ?_ | refine geq_a ?_ | refine geq_b ?_ | refine leq_a ?_ | refine leq_b ?_ | refine eql_a ?_ | refine eql_b ?_ | refine neq_a ?_ | refine neq_b ?_ | refine add_a ?_ | refine sub_a ?_ | refine ld_a ?_ | refine ldA_a ?_ | refine ldS_a ?_ | refine ldNS_a ?_ | refine rdA_s ?_ | refine rd1_s ?_ | refine drew_a fun w1 H1 => ?_ | refine st_a fun w1 H1 => ?_ | refine stA_a fun w1 H1 => ?_ | refine lenT_a ?_ | refine lenO_a ?_ | refine ixT_a ?_ | refine ixO_a ?_ | fail)
  try unfold F28_j3
  repeat (first | simp only [cI_enc, cE_enc, cN_enc, W0] | refine lss_a ?_ | refine lss_b ?_ | refine gtr_a ?_ | refine gtr_b ?_ | refine geq_a ?_ | refine geq_b ?_ | refine leq_a ?_ | refine leq_b ?_ | refine eql_a ?_ | refine eql_b ?_ | refine neq_a ?_ | refine neq_b ?_ | refine add_a ?_ | refine sub_a ?_ | refine ld_a ?_ | refine ldA_a ?_ | refine ldS_a ?_ | refine ldNS_a ?_ | refine rdA_s ?_ | refine rd1_s ?_ | refine drew_a fun w1 H1 => ?_ | refine st_a fun w1 H1 => ?_ | refine stA_a fun w1 H1 => ?_ | refine lenT_a ?_ | refine lenO_a ?_ | refine ixT_a ?_ | refine ixO_a ?_ | fail)
  try unfold F28_j4
  repeat (first | simp only [cI_enc, cE_enc, cN_enc, W0] | refine lss_a ?_ | refine lss_b ?_ | refine gtr_a ?_ | refine gtr_b ?_ | refine geq_a ?_ | refine geq_b ?_ | refine leq_a ?_ | refine leq_b ?_ | refine eql_a ?_ | refine eql_b ?_ | refine neq_a ?_ | refine neq_b ?_ | refine add_a ?_ | refine sub_a ?_ | refine ld_a ?_ | refine ldA_a ?_ | refine ldS_a ?_ | refine ldNS_a ?_ | refine rdA_s ?_ | refine rd1_s ?_ | refine drew_a fun w1 H1 => ?_ | refine st_a fun w1 H1 => ?_ | refine stA_a fun w1 H1 => ?_ | refine lenT_a ?_ | refine lenO_a ?_ | refine ixT_a ?_ | refine ixO_a ?_ | fail)
  refine cal_h (has57 (s := .map (some bm)) (se := se) hb (L := ⟨b, 39, [I e.1, I e.2]⟩ :: ⟨bm, .o (mobj kE Value.bool ents clock), []⟩ :: (cb ++ (ce ++ L))) (Hp.re (by assumption))) ?_
  rintro _ w ⟨rfl, H⟩
  have bad : ∀ {w : World} {c : Int}, remC base E e = c → c ≠ 0 → Hp w0 w (⟨bt, 88, [sb, .map (some bm), se]⟩ :: ⟨b, 39, [I e.1, I e.2]⟩ :: ⟨bm, .o (mobj kE Value.bool ents clock), []⟩ :: (cb ++ (ce ++ L))) →
      OpQ 103 (PTr bt) (remC base E e) base E eff base (remE E e) w0 L (.returned (.tuple ⟨[.slice none 0 0, I c]⟩)) w := by
    intro w c hc h0 H
    exact .inl ⟨by omega, by rw [hc], _, hT0, Hp.re (by assumption)⟩
  cases g1 : inR base.length e.1 with
  | false =>
    repeat (first | simp only [cI_enc, cE_enc, cN_enc, W0] | refine lss_a ?_ | refine lss_b ?_ | refine gtr_a ?_ | refine gtr_b ?_ | refine geq_a ?_ | refine geq_b ?_ | refine leq_a ?_ | refine leq_b ?_ | refine eql_a ?_ | refine eql_b ?_ | refine neq_a ?_ | refine neq_b ?_ | refine add_a ?_ | refine sub_a ?_ | refine ld_a ?_ | refine ldA_a ?_ | refine ldS_a ?_ | refine ldNS_a ?_ | refine rdA_s ?_ | refine rd1_s ?_ | refine drew_a fun w1 H1 => ?_ | refine st_a fun w1 H1 => ?_ | refine stA_a fun w1 H1 => ?_ | refine lenT_a ?_ | refine lenO_a ?_ | refine ixT_a ?_ | refine ixO_a ?_ | fail)
    try unfold F28_j5
    repeat (first | simp only [cI_enc, cE_enc, cN_enc, W0] | refine lss_a ?_ | refine lss_b ?_ | refine gtr_a ?_ | refine gtr_b ?_ | refine geq_a ?_ | refine geq_b ?_ | refine leq_a ?_ | refine leq_b ?_ | refine eql_a ?_ | refine eql_b ?_ | refine neq_a ?_ | refine neq_b ?_ | refine add_a ?_ | refine sub_a ?_ | refine ld_a ?_ | refine ldA_a ?_ | refine ldS_a ?_ | refine ldNS_a ?_ | refine rdA_s ?_ | refine rd1_s ?_ | refine drew_a fun w1 H1 => ?_ | refine st_a fun w1 H1 => ?_ | refine stA_a fun w1 H1 => ?_ | refine lenT_a ?_ | refine lenO_a ?_ | refine ixT_a ?_ | refine ixO_a ?_ | fail)
    exact bad (by unfold remC; rw [if_pos (by simp [g1])]) (by decide) (by assumption)
  | true =>
    repeat (first | simp only [cI_enc, cE_enc, cN_enc, W0] | refine lss_a ?_ | refine lss_b ?_ | refine gtr_a ?_ | refine gtr_b ?_ | refine geq_a ?_ | refine geq_b ?_ | refine leq_a ?_ | refine leq_b ?_ | refine eql_a ?_ | refine eql_b ?_ | refine neq_a ?_ | refine neq_b ?_ | refine add_a ?_ | refine sub_a ?_ | refine ld_a ?_ | refine ldA_a ?_ | refine ldS_a ?_ | refine ldNS_a ?_ | refine rdA_s ?_ | refine rd1_s ?_ | refine drew_a fun w1 H1 => ?_ | refine st_a fun w1 H1 => ?_ | refine stA_a fun w1 H1 => ?_ | refine lenT_a ?_ | refine lenO_a ?_ | refine ixT_a ?_ | refine ixO_a ?_ | fail)
    refine cal_h (has57 (s := .map (some bm)) (se := se) hb (L := ⟨b, 39, [I e.1, I e.2]⟩ :: ⟨bm, .o (mobj kE Value.bool ents clock), []⟩ :: (cb ++ (ce ++ L))) (Hp.re (by assumption))) ?_
    rintro _ w ⟨rfl, H⟩
    cases g2 : inR base.length e.2 with
    | false =>
      repeat (first | simp only [cI_enc, cE_enc, cN_enc, W0] | refine lss_a ?_ | refine lss_b ?_ | refine gtr_a ?_ | refine gtr_b ?_ | refine geq_a ?_ | refine geq_b ?_ | refine leq_a ?_ | refine leq_b ?_ | refine eql_a ?_ | refine eql_b ?_ | refine neq_a ?_ | refine neq_b ?_ | refine add_a ?_ | refine sub_a ?_ | refine ld_a ?_ | refine ldA_a ?_ | refine ldS_a ?_ | refine ldNS_a ?_ | refine rdA_s ?_ | refine rd1_s ?_ | refine drew_a fun w1 H1 => ?_ | refine st_a fun w1 H1 => ?_ | refine stA_a fun w1 H1 => ?_ | refine lenT_a ?_ | refine lenO_a ?_ | refine ixT_a ?_ | refine ixO_a ?_ | fail)
      try unfold F28_j5
      repeat (first | simp only [cI_enc, cE_enc, cN_enc, W0] | refine lss_a ?_ | refine lss_b ?_ | refine gtr_a ?_ | refine gtr_b ?_ | refine geq_a ?_ | refine geq_b ?_ | refine leq_a ?_ | refine leq_b ?_ | refine eql_a ?_ | refine eql_b ?_ | refine neq_a ?_ | refine neq_b ?_ | refine add_a ?_ | refine sub_a ?_ | refine ld_a ?_ | refine ldA_a ?_ | refine ldS_a ?_ | refine ldNS_a ?_ | refine rdA_s ?_ | refine rd1_s ?_ | refine drew_a fun w1 H1 => ?_ | refine st_a fun w1 H1 => ?_ | refine stA_a fun w1 H1 => ?_ | refine lenT_a ?_ | refine lenO_a ?_ | refine ixT_a ?_ | refine ixO_a ?_ | fail)
      exact bad (by unfold remC; rw [if_pos (by simp [g2])]) (by decide) (by assumption)
    | true =>
      have c0 : remC base E e = if e ∉ E.map ofN then 22 else 0 := by unfold remC; rw [if_neg (by simp [g1, g2])]
      repeat (first | simp only [cI_enc, cE_enc, cN_enc, W0] | refine lss_a ?_ | refine lss_b ?_ | refine gtr_a ?_ | refine gtr_b ?_ | refine geq_a ?_ | refine geq_b ?_ | refine leq_a ?_ | refine leq_b ?_ | refine eql_a ?_ | refine eql_b ?_ | refine neq_a ?_ | refine neq_b ?_ | refine add_a ?_ | refine sub_a ?_ | refine ld_a ?_ | refine ldA_a ?_ | refine ldS_a ?_ | refine ldNS_a ?_ | refine rdA_s ?_ | refine rd1_s ?_ | refine drew_a fun w1 H1 => ?_ | refine st_a fun w1 H1 => ?_ | refine stA_a fun w1 H1 => ?_ | refine lenT_a ?_ | refine lenO_a ?_ | refine ixT_a ?_ | refine ixO_a ?_ | fail)
      refine lookup_h mapE e (by assumption) has ?_
      rw [mem_get hk ht]
      by_cases hm : e ∈ E.map ofN
      rotate_left
      · rw [decide_eq_false hm]
        rw [if_pos hm] at c0
        repeat (first | simp only [cI_enc, cE_enc, cN_enc, W0] | refine lss_a ?_ | refine lss_b ?_ | refine gtr_a ?_ | refine gtr_b ?_ | refine geq_a ?_ | refine geq_b ?_ | refine leq_a ?_ | refine leq_b ?_ | refine eql_a ?_ | refine eql_b ?_ | refine neq_a ?_ | refine neq_b ?_ | refine add_a ?_ | refine sub_a ?_ | refine ld_a ?_ | refine ldA_a ?_ | refine ldS_a ?_ | refine ldNS_a ?_ | refine rdA_s ?_ | refine rd1_s ?_ | refine drew_a fun w1 H1 => ?_ | refine st_a fun w1 H1 => ?_ | refine stA_a fun w1 H1 => ?_ | refine lenT_a ?_ | refine lenO_a ?_ | refine ixT_a ?_ | refine ixO_a ?_ | fail)
        exact bad c0 (by decide) (by assumption)
      rw [decide_eq_true hm]
      rw [if_neg (not_not_intro hm)] at c0
      repeat (first | simp only [cI_enc, cE_enc, cN_enc, W0] | refine lss_a ?_ | refine lss_b ?_ | refine gtr_a ?_ | refine gtr_b ?_ | refine geq_a ?_ | refine geq_b ?_ | refine leq_a ?_ | refine leq_b ?_ | refine eql_a ?_ | refine eql_b ?_ | refine neq_a ?_ | refine neq_b ?_ | refine add_a ?_ | refine sub_a ?_ | refine ld_a ?_ | refine ldA_a ?_ | refine ldS_a ?_ | refine ldNS_a ?_ | refine rdA_s ?_ | refine rd1_s ?_ | refine drew_a fun w1 H1 => ?_ | refine st_a fun w1 H1 => ?_ | refine stA_a fun w1 H1 => ?_ | refine lenT_a ?_ | refine lenO_a ?_ | refine ixT_a ?_ | refine ixO_a ?_ | fail)
      try unfold F28_j1
      repeat (first | simp only [cI_enc, cE_enc, cN_enc, W0] | refine lss_a ?_ | refine lss_b ?_ | refine gtr_a ?_ | refine gtr_b ?_ | refine geq_a ?_ | refine geq_b ?_ | refine leq_a ?_ | refine leq_b ?_ | refine eql_a ?_ | refine eql_b ?_ | refine neq_a ?_ | refine neq_b ?_ | refine add_a ?_ | refine sub_a ?_ | refine ld_a ?_ | refine ldA_a ?_ | refine ldS_a ?_ | refine ldNS_a ?_ | refine rdA_s ?_ | refine rd1_s ?_ | refine drew_a fun w1 H1 => ?_ | refine st_a fun w1 H1 => ?_ | refine stA_a fun w1 H1 => ?_ | refine lenT_a ?_ | refine lenO_a ?_ | refine ixT_a ?_ | refine ixO_a ?_ | fail)
      refine delete_h mapE e (by assumption) updd fun w H => ?_
      have hS' := hS.rem (e := e)
      have hk' : mkeys (mdel e ents) = (remE E e).map ofN := by
        have e1 : (remE E e).map ofN = (E.map ofN).filter fun x => decide (x ≠ e) := by rw [remE, List.filter_map]; rfl
        rw [e1, ← hk, mdel_eq hw.nd, mkeys, mkeys, List.filter_map]
        rfl
      repeat (first | simp only [cI_enc, cE_enc, cN_enc, W0] | refine lss_a ?_ | refine lss_b ?_ | refine gtr_a ?_ | refine gtr_b ?_ | refine geq_a ?_ | refine geq_b ?_ | refine leq_a ?_ | refine leq_b ?_ | refine eql_a ?_ | refine eql_b ?_ | refine neq_a ?_ | refine neq_b ?_ | refine add_a ?_ | refine sub_a ?_ | refine ld_a ?_ | refine ldA_a ?_ | refine ldS_a ?_ | refine ldNS_a ?_ | refine rdA_s ?_ | refine rd1_s ?_ | refine drew_a fun w1 H1 => ?_ | refine st_a fun w1 H1 => ?_ | refine stA_a fun w1 H1 => ?_ | refine lenT_a ?_ | refine lenO_a ?_ | refine ixT_a ?_ | refine ixO_a ?_ | fail)
      refine cal_h (update_spec (bm := bm) (F := ⟨b, 39, [I e.1, I e.2]⟩ :: L) hb he hel hw.del hk' hS'.nd hS'.el hS'.len hS'.rg hS'.va (Hp.re (by assumption))) ?_
      rintro _ w ⟨s, cs, se', ce', now, rfl, H, hse, hio, hcs⟩
      simp only [ret_k]
      exact .inr ⟨c0, s, cs, now, ⟨bt, 88, [sb, .map (some bm), se']⟩ :: ⟨bm, .o (mobj kE Value.bool (mdel e ents) clock), []⟩ :: (cb ++ ce'), rfl, hio, hcs, ⟨bm, sb, se', cb, ce', _, _, rfl, hb, hse, hw.del, hk', by intro x hx; rw [mdel_eq hw.nd] at hx; exact ht x (List.mem_filter.1 hx).1⟩, Hp.re (by assumption)⟩
theorem St.set {i : Nat} {p : Int} (hS : St base E) (h : 0 ≤ p ∧ p ≤ 255) : St (base.set i p) E :=
  ⟨by rw [List.length_set]; exact hS.len, fun x hx => by rcases List.mem_or_eq_of_mem_set hx with hx | rfl; exact hS.rg x hx; exact h, by rw [List.length_set]; exact hS.va, hS.nd, hS.el⟩
def setC (base : List Int) (t p : Int) : Int := if inR base.length t = true ∧ (0 ≤ p ∧ p ≤ 255) then 0 else 34
theorem set_spec {t p : Int} (hS : St base E) (hel : eff.length = base.length) (hT : PTr bt base E eff C) (H : Hp w0 w (C ++ L)) :
    Calls Pg 29 ⟨[ptr bt 0, I t, I p]⟩ w (OpQ 103 (PTr bt) (setC base t p) base E eff (base.set t.toNat p) E w0 L) := by
  have hT0 := hT
  obtain ⟨bm, sb, se, cb, ce, ents, clock, rfl, hb, he, hw, hk, ht⟩ := hT
  have bad : ∀ {w : World} {c : Int}, setC base t p = c → c ≠ 0 → Hp w0 w (⟨bt, 88, [sb, .map (some bm), se]⟩ :: ⟨bm, .o (mobj kE Value.bool ents clock), []⟩ :: (cb ++ (ce ++ L))) →
      OpQ 103 (PTr bt) (setC base t p) base E eff (base.set t.toNat p) E w0 L (.returned (.tuple ⟨[.slice none 0 0, I c]⟩)) w := by
    intro w c hc h0 H
    exact .inl ⟨by omega, by rw [hc], _, hT0, Hp.re (by assumption)⟩
  apply F29_calls
  unfold F29
  try unfold F29_j2
  repeat (first | simp only [cI_enc, cE_enc, cN_enc, W0] | refine lss_a ?_ | refine lss_b ?_ | refine gtr_a ?_ | refine gtr_b ?_ | refine geq_a ?_ | refine geq_b ?_ | refine leq_a ?_ | refine leq_b ?_ | refine eql_a ?_ | refine eql_b ?_ | refine neq_a ?_ | refine neq_b ?_ | refine add_a ?_ | refine sub_a ?_ | refine ld_a ?_ | refine ldA_a ?_ | refine ldS_a ?_ | refine ldNS_a ?_ | refine rdA_s ?_ | refine rd1_s ?_ | refine drew_a fun w1 H1 => ?_ | refine st_a fun w1 H1 => ?_ | refine stA_a fun w1 H1 => ?_ | refine lenT_a ?_ | refine lenO_a ?_ | refine ixT_a ?_ | refine ixO_a ?_ | fail)
  try unfold F29_j3
  repeat (first | simp only [cI_enc, cE_enc, cN_enc, W0] | refine lss_a ?_ | refine lss_b ?_ | refine gtr_a ?_ | refine gtr_b ?_ | refine geq_a ?_ | refine geq_b ?_ | refine leq_a ?_ | refine leq_b ?_ | refine eql_a ?_ | refine eql_b ?_ | refine neq_a ?_ | refine neq_b ?_ | refine add_a ?_ | refine sub_a ?_ | refine ld_a ?_ | refine ldA_a ?_ | refine ldS_a ?_ | refine ldNS_a ?_ | refine rdA_s ?_ | refine rd1_s ?_ | refine drew_a fun w1 H1 => ?_ | refine st_a fun w1 H1 => ?_ | refine stA_a fun w1 H1 => ?_ | refine lenT_a ?_ | refine lenO_a ?_ | refine ixT_a ?_ | refine ixO_a ?_ | fail)
  try unfold F29_j4
  refine cal_h (has57 (s := .map (some bm)) (se := se) hb (L := ⟨bm, .o (mobj kE Value.bool ents clock), []⟩ :: (cb ++ (ce ++ L))) (Hp.re (by assumption))) ?_
  rintro _ w ⟨rfl, H⟩
  cases g1 : inR base.length t with
  | false =>
    repeat (first | simp only [cI_enc, cE_enc, cN_enc, W0] | refine lss_a ?_ | refine lss_b ?_ | refine gtr_a ?_ | refine gtr_b ?_ | refine geq_a ?_ | refine geq_b ?_ | refine leq_a ?_ | refine leq_b ?_ | refine eql_a ?_ | refine eql_b ?_ | refine neq_a ?_ | refine neq_b ?_ | refine add_a ?_ | refine sub_a ?_ | refine ld_a ?_ | refine ldA_a ?_ | refine ldS_a ?_ | refine ldNS_a ?_ | refine rdA_s ?_ | refine rd1_s ?_ | refine drew_a fun w1 H1 => ?_ | refine st_a fun w1 H1 => ?_ | refine stA_a fun w1 H1 => ?_ | refine lenT_a ?_ | refine lenO_a ?_ | refine ixT_a ?_ | refine ixO_a ?_ | fail)
    exact bad (by unfold setC; rw [if_neg (by simp [g1])]) (by decide) (by assumption)
  | true =>
    repeat (first | simp only [cI_enc, cE_enc, cN_enc, W0] | refine lss_a ?_ | refine lss_b ?_ | refine gtr_a ?_ | refine gtr_b ?_ | refine geq_a ?_ | refine geq_b ?_ | refine leq_a ?_ | refine leq_b ?_ | refine eql_a ?_ | refine eql_b ?_ | refine neq_a ?_ | refine neq_b ?_ | refine add_a ?_ | refine sub_a ?_ | refine ld_a ?_ | refine ldA_a ?_ | refine ldS_a ?_ | refine ldNS_a ?_ | refine rdA_s ?_ | refine rd1_s ?_ | refine drew_a fun w1 H1 => ?_ | refine st_a fun w1 H1 => ?_ | refine stA_a fun w1 H1 => ?_ | refine lenT_a ?_ | refine lenO_a ?_ | refine ixT_a ?_ | refine ixO_a ?_ | fail)
    refine cal_h (isPri_spec (by assumption)) ?_
    rintro _ w ⟨rfl, H⟩
    by_cases g2 : 0 ≤ p ∧ p ≤ 255
    rotate_left
    · rw [decide_eq_false g2]
      repeat (first | simp only [cI_enc, cE_enc, cN_enc, W0] | refine lss_a ?_ | refine lss_b ?_ | refine gtr_a ?_ | refine gtr_b ?_ | refine geq_a ?_ | refine geq_b ?_ | refine leq_a ?_ | refine leq_b ?_ | refine eql_a ?_ | refine eql_b ?_ | refine neq_a ?_ | refine neq_b ?_ | refine add_a ?_ | refine sub_a ?_ | refine ld_a ?_ | refine ldA_a ?_ | refine ldS_a ?_ | refine ldNS_a ?_ | refine rdA_s ?_ | refine rd1_s ?_ | refine drew_a fun w1 H1 => ?_ | refine st_a fun w1 H1 => ?_ | refine stA_a fun w1 H1 => ?_ | refine lenT_a ?_ | refine lenO_a ?_ | refine ixT_a ?_ | refine ixO_a ?_ | fail)
      exact bad (by unfold setC; rw [if_neg (fun h => g2 h.2)]) (by decide) (by assumption)
    rw [decide_eq_true g2]
    have c0 : setC base t p = 0 := by unfold setC; rw [if_pos ⟨g1, g2⟩]
    have hin := g1
    rw [inR, decide_eq_true_eq] at hin
    obtain ⟨i, rfl⟩ : ∃ i : Nat, t = i := ⟨t.toNat, by omega⟩
    simp only [Int.toNat_natCast]
    repeat (first | simp only [cI_enc, cE_enc, cN_enc, W0] | refine lss_a ?_ | refine lss_b ?_ | refine gtr_a ?_ | refine gtr_b ?_ | refine geq_a ?_ | refine geq_b ?_ | refine leq_a ?_ | refine leq_b ?_ | refine eql_a ?_ | refine eql_b ?_ | refine neq_a ?_ | refine neq_b ?_ | refine add_a ?_ | refine sub_a ?_ | refine ld_a ?_ | refine ldA_a ?_ | refine ldS_a ?_ | refine ldNS_a ?_ | refine rdA_s ?_ | refine rd1_s ?_ | refine drew_a fun w1 H1 => ?_ | refine st_a fun w1 H1 => ?_ | refine stA_a fun w1 H1 => ?_ | refine lenT_a ?_ | refine lenO_a ?_ | refine ixT_a ?_ | refine ixO_a ?_ | fail)
    try unfold F29_j1
    repeat (first | simp only [cI_enc, cE_enc, cN_enc, W0] | refine lss_a ?_ | refine lss_b ?_ | refine gtr_a ?_ | refine gtr_b ?_ | refine geq_a ?_ | refine geq_b ?_ | refine leq_a ?_ | refine leq_b ?_ | refine eql_a ?_ | refine eql_b ?_ | refine neq_a ?_ | refine neq_b ?_ | refine add_a ?_ | refine sub_a ?_ | refine ld_a ?_ | refine ldA_a ?_ | refine ldS_a ?_ | refine ldNS_a ?_ | refine rdA_s ?_ | refine rd1_s ?_ | refine drew_a fun w1 H1 => ?_ | refine st_a fun w1 H1 => ?_ | refine stA_a fun w1 H1 => ?_ | refine lenT_a ?_ | refine lenO_a ?_ | refine ixT_a ?_ | refine ixO_a ?_ | fail)
    refine ist1_t (C := cI) (x := p) hb (by assumption) spl (by omega) rfl rfl fun w cb' H hb' => ?_
    have hS' := hS.set (i := i) g2
    refine cal_h (update_spec (bm := bm) (F := L) hb' he (by rw [List.length_set]; exact hel) hw hk hS'.nd hS'.el hS'.len hS'.rg hS'.va (Hp.re (by assumption))) ?_
    rintro _ w ⟨s, cs, se', ce', now, rfl, H, hse, hio, hcs⟩
    simp only [ret_k]
    exact .inr ⟨c0, s, cs, now, ⟨bt, 88, [sb, .map (some bm), se']⟩ :: ⟨bm, .o (mobj kE Value.bool ents clock), []⟩ :: (cb' ++ ce'), rfl, hio, hcs, ⟨bm, sb, se', cb', ce', _, _, rfl, hb', hse, hw, hk, ht⟩, Hp.re (by assumption)⟩
end
end Go.Proofs.Ytagcifbfokneoaa.Den
end

section
set_option linter.unusedVariables false
set_option linter.unusedSimpArgs false
set_option maxRecDepth 8000
set_option maxHeartbeats 1000000
namespace Go.Proofs.Ytagcifbfokneoaa.Den
open Go Go.RowKit
section
variable {w w' w0 : World} {L L' F cs cs2 cs3 cb ce C : List Chunk} {s s2 sb se sd : Value} {K : VK} {R : ER} {base eff : List Int} {E E' : List (Nat × Nat)} {es : List (Int × Int)} {bt bm clock : Nat} {ents : List ((Int × Int) × Bool × Nat)}
theorem St.of (h : chk base es = 0) : St base (es.map toN) := by
  obtain ⟨c1, c2, c3, c4, c5, c6⟩ := chk_ok h
  exact ⟨c1, c3, c5, c6, by simpa using c2⟩
theorem rpl_spec (hS : St base E) (h2 : TR cE w0 cs2 s2 es) (m1 : ∀ c ∈ cs2, c ∈ L) (hel : eff.length = base.length) (hT : PTr bt base E eff C) (H : Hp w0 w (C ++ L)) :
    Calls Pg 30 ⟨[ptr bt 0, s2]⟩ w (OpQ 103 (PTr bt) (chk base es) base E eff base (es.map toN) w0 L) := by
  have hT0 := hT
  obtain ⟨bm, sb, se, cb, ce, ents, clock, rfl, hb, he, hw, hk, ht⟩ := hT
  have H : Hp w0 w (⟨bt, 88, [sb, .map (some bm), se]⟩ :: ⟨bm, .o (mobj kE Value.bool ents clock), []⟩ :: (cb ++ (ce ++ L))) := H.re
  have q1 := hb.sc
  have q2 := h2.sc
  apply F30_calls
  unfold F30
  repeat (first | simp only [cI_enc, cE_enc, cN_enc, W0] | refine lss_a ?_ | refine lss_b ?_ | refine gtr_a ?_ | refine gtr_b ?_ | refine geq_a ?_ | refine geq_b ?_ | refine leq_a ?_ | refine leq_b ?_ | refine eql_a ?_ | refine eql_b ?_ | refine neq_a ?_ | refine neq_b ?_ | refine add_a ?_ | refine sub_a ?_ | refine ld_a ?_ | refine ldA_a ?_ | refine ldS_a ?_ | refine ldNS_a ?_ | refine rdA_s ?_ | refine rd1_s ?_ | refine drew_a fun w1 H1 => ?_ | refine st_a fun w1 H1 => ?_ | refine stA_a fun w1 H1 => ?_ | refine lenT_a ?_ | refine lenO_a ?_ | refine ixT_a ?_ | refine ixO_a ?_ | fail)
  try unfold F30_j1 F30_j7
  repeat (first | simp only [cI_enc, cE_enc, cN_enc, W0] | refine lss_a ?_ | refine lss_b ?_ | refine gtr_a ?_ | refine gtr_b ?_ | refine geq_a ?_ | refine geq_b ?_ | refine leq_a ?_ | refine leq_b ?_ | refine eql_a ?_ | refine eql_b ?_ | refine neq_a ?_ | refine neq_b ?_ | refine add_a ?_ | refine sub_a ?_ | refine ld_a ?_ | refine ldA_a ?_ | refine ldS_a ?_ | refine ldNS_a ?_ | refine rdA_s ?_ | refine rd1_s ?_ | refine drew_a fun w1 H1 => ?_ | refine st_a fun w1 H1 => ?_ | refine stA_a fun w1 H1 => ?_ | refine lenT_a ?_ | refine lenO_a ?_ | refine ixT_a ?_ | refine ixO_a ?_ | fail)
  refine pv_of (bld2 q1 q2) ?_
  refine cal_h (Check_spec hb.tr h2 (by assumption) csub csub) ?_
  rintro _ w ⟨rfl, H⟩
  by_cases hc : chk base es = 0
  rotate_left
  · repeat (first | simp only [cI_enc, cE_enc, cN_enc, W0] | refine lss_a ?_ | refine lss_b ?_ | refine gtr_a ?_ | refine gtr_b ?_ | refine geq_a ?_ | refine geq_b ?_ | refine leq_a ?_ | refine leq_b ?_ | refine eql_a ?_ | refine eql_b ?_ | refine neq_a ?_ | refine neq_b ?_ | refine add_a ?_ | refine sub_a ?_ | refine ld_a ?_ | refine ldA_a ?_ | refine ldS_a ?_ | refine ldNS_a ?_ | refine rdA_s ?_ | refine rd1_s ?_ | refine drew_a fun w1 H1 => ?_ | refine st_a fun w1 H1 => ?_ | refine stA_a fun w1 H1 => ?_ | refine lenT_a ?_ | refine lenO_a ?_ | refine ixT_a ?_ | refine ixO_a ?_ | fail)
    exact .inl ⟨hc, rfl, _, hT0, Hp.re (by assumption)⟩
  obtain ⟨c1, c2, c3, c4, c5, c6⟩ := chk_ok hc
  repeat (first | simp only [cI_enc, cE_enc, cN_enc, W0] | refine lss_a ?_ | refine lss_b ?_ | refine gtr_a ?_ | refine gtr_b ?_ | refine geq_a ?_ | refine geq_b ?_ | refine leq_a ?_ | refine leq_b ?_ | refine eql_a ?_ | refine eql_b ?_ | refine neq_a ?_ | refine neq_b ?_ | refine add_a ?_ | refine sub_a ?_ | refine ld_a ?_ | refine ldA_a ?_ | refine ldS_a ?_ | refine ldNS_a ?_ | refine rdA_s ?_ | refine rd1_s ?_ | refine drew_a fun w1 H1 => ?_ | refine st_a fun w1 H1 => ?_ | refine stA_a fun w1 H1 => ?_ | refine lenT_a ?_ | refine lenO_a ?_ | refine ixT_a ?_ | refine ixO_a ?_ | fail)
  try unfold F30_j2
  repeat (first | simp only [cI_enc, cE_enc, cN_enc, W0] | refine lss_a ?_ | refine lss_b ?_ | refine gtr_a ?_ | refine gtr_b ?_ | refine geq_a ?_ | refine geq_b ?_ | refine leq_a ?_ | refine leq_b ?_ | refine eql_a ?_ | refine eql_b ?_ | refine neq_a ?_ | refine neq_b ?_ | refine add_a ?_ | refine sub_a ?_ | refine ld_a ?_ | refine ldA_a ?_ | refine ldS_a ?_ | refine ldNS_a ?_ | refine rdA_s ?_ | refine rd1_s ?_ | refine drew_a fun w1 H1 => ?_ | refine st_a fun w1 H1 => ?_ | refine stA_a fun w1 H1 => ?_ | refine lenT_a ?_ | refine lenO_a ?_ | refine ixT_a ?_ | refine ixO_a ?_ | fail)
  refine clear_m mapE (by assumption) updd fun w H => ?_
  repeat (first | simp only [cI_enc, cE_enc, cN_enc, W0] | refine lss_a ?_ | refine lss_b ?_ | refine gtr_a ?_ | refine gtr_b ?_ | refine geq_a ?_ | refine geq_b ?_ | refine leq_a ?_ | refine leq_b ?_ | refine eql_a ?_ | refine eql_b ?_ | refine neq_a ?_ | refine neq_b ?_ | refine add_a ?_ | refine sub_a ?_ | refine ld_a ?_ | refine ldA_a ?_ | refine ldS_a ?_ | refine ldNS_a ?_ | refine rdA_s ?_ | refine rd1_s ?_ | refine drew_a fun w1 H1 => ?_ | refine st_a fun w1 H1 => ?_ | refine stA_a fun w1 H1 => ?_ | refine lenT_a ?_ | refine lenO_a ?_ | refine ixT_a ?_ | refine ixO_a ?_ | fail)
  try unfold F30_j4
  repeat (first | simp only [cI_enc, cE_enc, cN_enc, W0] | refine lss_a ?_ | refine lss_b ?_ | refine gtr_a ?_ | refine gtr_b ?_ | refine geq_a ?_ | refine geq_b ?_ | refine leq_a ?_ | refine leq_b ?_ | refine eql_a ?_ | refine eql_b ?_ | refine neq_a ?_ | refine neq_b ?_ | refine add_a ?_ | refine sub_a ?_ | refine ld_a ?_ | refine ldA_a ?_ | refine ldS_a ?_ | refine ldNS_a ?_ | refine rdA_s ?_ | refine rd1_s ?_ | refine drew_a fun w1 H1 => ?_ | refine st_a fun w1 H1 => ?_ | refine stA_a fun w1 H1 => ?_ | refine lenT_a ?_ | refine lenO_a ?_ | refine ixT_a ?_ | refine ixO_a ?_ | fail)
  try unfold F30_j5
  refine loop4 (F30_l1_succ _) (fun m x0 x25 x26 x27 w => ∃ i ents clock, x0 = ptr bt 0 ∧ x25 = s2 ∧ x26 = I (es.length : Int) ∧ x27 = I (i : Nat) ∧ m + i = es.length ∧ mkeys ents = es.take i ∧ (∀ e ∈ ents, e.2.1 = true) ∧ MW ents clock ∧
      Hp w0 w (⟨bt, 88, [sb, .map (some bm), se]⟩ :: ⟨bm, .o (mobj kE Value.bool ents clock), []⟩ :: (cb ++ (ce ++ L)))) ?_ (m := es.length)
    ⟨0, [], clock, rfl, rfl, rfl, rfl, by omega, by simp [mkeys], by simp, MW.nil, Hp.re (by assumption)⟩
  clear H hw hk ht hT0
  rintro m k x0 x25 x26 x27 w ⟨i, ents, clock, rfl, rfl, rfl, rfl, hm, hk, ht, hw, H⟩ hk'
  unfold F30_b1
  by_cases hi : i < es.length
  rotate_left
  · repeat (first | simp only [cI_enc, cE_enc, cN_enc, W0] | refine lss_a ?_ | refine lss_b ?_ | refine gtr_a ?_ | refine gtr_b ?_ | refine geq_a ?_ | refine geq_b ?_ | refine leq_a ?_ | refine leq_b ?_ | refine eql_a ?_ | refine eql_b ?_ | refine neq_a ?_ | refine neq_b ?_ | refine add_a ?_ | refine sub_a ?_ | refine ld_a ?_ | refine ldA_a ?_ | refine ldS_a ?_ | refine ldNS_a ?_ | refine rdA_s ?_ | refine rd1_s ?_ | refine drew_a fun w1 H1 => ?_ | refine st_a fun w1 H1 => ?_ | refine stA_a fun w1 H1 => ?_ | refine lenT_a ?_ | refine lenO_a ?_ | refine ixT_a ?_ | refine ixO_a ?_ | fail)
    try unfold F30_j3
    rw [List.take_of_length_le (by omega)] at hk
    have hS' := St.of hc
    have hk2 : mkeys ents = (es.map toN).map ofN := by rw [hk]; exact c4
    refine cal_h (update_spec (bm := bm) (F := L) hb he hel hw hk2 hS'.nd hS'.el hS'.len hS'.rg hS'.va (Hp.re (by assumption))) ?_
    rintro _ w ⟨s, cs, se', ce', now, rfl, H, hse, hio, hcs⟩
    simp only [ret_k]
    exact .inr ⟨hc, s, cs, now, ⟨bt, 88, [sb, .map (some bm), se']⟩ :: ⟨bm, .o (mobj kE Value.bool ents clock), []⟩ :: (cb ++ ce'), rfl, hio, hcs, ⟨bm, sb, se', cb, ce', _, _, rfl, hb, hse, hw, hk2, ht⟩, Hp.re (by assumption)⟩
  have hx : es[i]? = some es[i] := List.getElem?_eq_getElem hi
  have hnew : es[i] ∉ mkeys ents := by
    have hnd : es.Nodup := by rw [c4]; exact c6.map ofN fun a b h e => h (ofN_inj e)
    rw [hk]
    intro h
    obtain ⟨j, hj, e⟩ := List.getElem_of_mem h
    have hj' : j < i := by simp at hj; omega
    rw [List.getElem_take] at e
    have := (List.pairwise_iff_getElem.1 (List.nodup_iff_pairwise_ne.1 hnd)) j i (by omega) hi hj'
    exact this e
  have htk : es.take (i + 1) = es.take i ++ [es[i]] := by rw [List.take_add_one, hx]; rfl
  generalize es[i] = e at hx hnew htk
  repeat (first | simp only [cI_enc, cE_enc, cN_enc, W0] | refine lss_a ?_ | refine lss_b ?_ | refine gtr_a ?_ | refine gtr_b ?_ | refine geq_a ?_ | refine geq_b ?_ | refine leq_a ?_ | refine leq_b ?_ | refine eql_a ?_ | refine eql_b ?_ | refine neq_a ?_ | refine neq_b ?_ | refine add_a ?_ | refine sub_a ?_ | refine ld_a ?_ | refine ldA_a ?_ | refine ldS_a ?_ | refine ldNS_a ?_ | refine rdA_s ?_ | refine rd1_s ?_ | refine drew_a fun w1 H1 => ?_ | refine st_a fun w1 H1 => ?_ | refine stA_a fun w1 H1 => ?_ | refine lenT_a ?_ | refine lenO_a ?_ | refine ixT_a ?_ | refine ixO_a ?_ | fail)
  try unfold F30_j6
  refine ixN_t (C := cE) h2 (by assumption) csub hx (by decide) ?_
  refine al_m (ys := [I 0, I 0]) (by assumption) (by kernel_rfl) fun w b4 H => ?_
  rw [show cE.enc e = [I e.1, I e.2] from rfl]
  repeat (first | simp only [cI_enc, cE_enc, cN_enc, W0] | refine lss_a ?_ | refine lss_b ?_ | refine gtr_a ?_ | refine gtr_b ?_ | refine geq_a ?_ | refine geq_b ?_ | refine leq_a ?_ | refine leq_b ?_ | refine eql_a ?_ | refine eql_b ?_ | refine neq_a ?_ | refine neq_b ?_ | refine add_a ?_ | refine sub_a ?_ | refine ld_a ?_ | refine ldA_a ?_ | refine ldS_a ?_ | refine ldNS_a ?_ | refine rdA_s ?_ | refine rd1_s ?_ | refine drew_a fun w1 H1 => ?_ | refine st_a fun w1 H1 => ?_ | refine stA_a fun w1 H1 => ?_ | refine lenT_a ?_ | refine lenO_a ?_ | refine ixT_a ?_ | refine ixO_a ?_ | fail)
  refine put_h mapE e true (by assumption) updd fun w H => ?_
  obtain ⟨p1, p2⟩ := mput_new (v := true) (clock := clock) hnew
  rw [p1, p2] at H
  repeat (first | simp only [cI_enc, cE_enc, cN_enc, W0] | refine lss_a ?_ | refine lss_b ?_ | refine gtr_a ?_ | refine gtr_b ?_ | refine geq_a ?_ | refine geq_b ?_ | refine leq_a ?_ | refine leq_b ?_ | refine eql_a ?_ | refine eql_b ?_ | refine neq_a ?_ | refine neq_b ?_ | refine add_a ?_ | refine sub_a ?_ | refine ld_a ?_ | refine ldA_a ?_ | refine ldS_a ?_ | refine ldNS_a ?_ | refine rdA_s ?_ | refine rd1_s ?_ | refine drew_a fun w1 H1 => ?_ | refine st_a fun w1 H1 => ?_ | refine stA_a fun w1 H1 => ?_ | refine lenT_a ?_ | refine lenO_a ?_ | refine ixT_a ?_ | refine ixO_a ?_ | fail)
  refine hk' (m - 1) _ _ _ _ _ (by omega) ⟨i + 1, ents ++ [(e, true, clock)], clock + 1, rfl, rfl, rfl, rfl, by omega, by rw [htk, ← hk]; simp [mkeys], by intro x hx; rcases List.mem_append.1 hx with h | h; exact ht x h; simp at h; subst h; rfl, MW.put_new hnew hw, Hp.re (by assumption)⟩
theorem effC_spec {t : Int} (hel : eff.length = base.length) (hT : PTr bt base E eff C) (H : Hp w0 w (C ++ L)) :
    Calls Pg 32 ⟨[ptr bt 0, I t]⟩ w fun x w' => x = .returned (.tuple ⟨if inR base.length t then [I (gt eff t.toNat), I 0] else [I 0, I 34]⟩) ∧ Hp w0 w' (C ++ L) := by
  obtain ⟨bm, sb, se, cb, ce, ents, clock, rfl, hb, he, hw, hk, ht⟩ := hT
  apply F32_calls
  unfold F32
  repeat (first | simp only [cI_enc, cE_enc, cN_enc, W0] | refine lss_a ?_ | refine lss_b ?_ | refine gtr_a ?_ | refine gtr_b ?_ | refine geq_a ?_ | refine geq_b ?_ | refine leq_a ?_ | refine leq_b ?_ | refine eql_a ?_ | refine eql_b ?_ | refine neq_a ?_ | refine neq_b ?_ | refine add_a ?_ | refine sub_a ?_ | refine ld_a ?_ | refine ldA_a ?_ | refine ldS_a ?_ | refine ldNS_a ?_ | refine rdA_s ?_ | refine rd1_s ?_ | refine drew_a fun w1 H1 => ?_ | refine st_a fun w1 H1 => ?_ | refine stA_a fun w1 H1 => ?_ | refine lenT_a ?_ | refine lenO_a ?_ | refine ixT_a ?_ | refine ixO_a ?_ | fail)
  refine cal_h (has57 (s := .map (some bm)) (se := se) hb (L := ⟨bm, .o (mobj kE Value.bool ents clock), []⟩ :: (cb ++ (ce ++ L))) (Hp.re (by assumption))) ?_
  rintro _ w ⟨rfl, H⟩
  cases g1 : inR base.length t with
  | false =>
    repeat (first | simp only [cI_enc, cE_enc, cN_enc, W0] | refine lss_a ?_ | refine lss_b ?_ | refine gtr_a ?_ | refine gtr_b ?_ | refine geq_a ?_ | refine geq_b ?_ | refine leq_a ?_ | refine leq_b ?_ | refine eql_a ?_ | refine eql_b ?_ | refine neq_a ?_ | refine neq_b ?_ | refine add_a ?_ | refine sub_a ?_ | refine ld_a ?_ | refine ldA_a ?_ | refine ldS_a ?_ | refine ldNS_a ?_ | refine rdA_s ?_ | refine rd1_s ?_ | refine drew_a fun w1 H1 => ?_ | refine st_a fun w1 H1 => ?_ | refine stA_a fun w1 H1 => ?_ | refine lenT_a ?_ | refine lenO_a ?_ | refine ixT_a ?_ | refine ixO_a ?_ | fail)
    exact ⟨(by first | rfl | trivial), Hp.re (by assumption)⟩
  | true =>
    have hin := g1
    rw [inR, decide_eq_true_eq] at hin
    obtain ⟨i, rfl⟩ : ∃ i : Nat, t = i := ⟨t.toNat, by omega⟩
    have hx : eff[i]? = some (gt eff i) := gt_some (by omega)
    repeat (first | simp only [cI_enc, cE_enc, cN_enc, W0] | refine lss_a ?_ | refine lss_b ?_ | refine gtr_a ?_ | refine gtr_b ?_ | refine geq_a ?_ | refine geq_b ?_ | refine leq_a ?_ | refine leq_b ?_ | refine eql_a ?_ | refine eql_b ?_ | refine neq_a ?_ | refine neq_b ?_ | refine add_a ?_ | refine sub_a ?_ | refine ld_a ?_ | refine ldA_a ?_ | refine ldS_a ?_ | refine ldNS_a ?_ | refine rdA_s ?_ | refine rd1_s ?_ | refine drew_a fun w1 H1 => ?_ | refine st_a fun w1 H1 => ?_ | refine stA_a fun w1 H1 => ?_ | refine lenT_a ?_ | refine lenO_a ?_ | refine ixT_a ?_ | refine ixO_a ?_ | fail)
    exact ⟨(by first | rfl | trivial), Hp.re (by assumption)⟩
end
end Go.Proofs.Ytagcifbfokneoaa.Den
end

section
set_option linter.unusedVariables false
set_option linter.unusedSimpArgs false
set_option maxRecDepth 8000
set_option maxHeartbeats 1000000
namespace Go.Proofs.Ytagcifbfokneoaa.Den
open Go Go.RowKit
section
variable {w w' w0 : World} {L L' F cs cs2 cs3 cb ce C : List Chunk} {s s2 sb se sd : Value} {K : VK} {R : ER} {base eff : List Int} {E E' : List (Nat × Nat)} {es : List (Int × Int)} {bt bm clock : Nat} {ents : List ((Int × Int) × Bool × Nat)}
theorem Graph_spec (hS : St base E) (hT : PTr bt base E eff C) (H : Hp w0 w (C ++ L)) :
    Calls Pg 23 ⟨[ptr bt 0]⟩ w fun x w' => ∃ sb' s' cb' c' E', x = .returned (.agg ⟨[sb', s']⟩) ∧ TS cI 3 sb' base cb' ∧ TS cN 39 s' E' c' ∧ E'.Perm E ∧ Inc E' ∧ Hp w0 w' (C ++ (cb' ++ (c' ++ L))) := by
  obtain ⟨bm, sb, se, cb, ce, ents, clock, rfl, hb, he, hw, hk, ht⟩ := hT
  have H : Hp w0 w (⟨bt, 88, [sb, .map (some bm), se]⟩ :: ⟨bm, .o (mobj kE Value.bool ents clock), []⟩ :: (cb ++ (ce ++ L))) := H.re
  have q1 := hb.sc
  apply F23_calls
  unfold F23
  refine al_m (ys := [.slice none 0 0, .slice none 0 0]) (by assumption) (by kernel_rfl) fun w b9 H => ?_
  repeat (first | simp only [cI_enc, cE_enc, cN_enc, W0] | refine lss_a ?_ | refine lss_b ?_ | refine gtr_a ?_ | refine gtr_b ?_ | refine geq_a ?_ | refine geq_b ?_ | refine leq_a ?_ | refine leq_b ?_ | refine eql_a ?_ | refine eql_b ?_ | refine neq_a ?_ | refine neq_b ?_ | refine add_a ?_ | refine sub_a ?_ | refine ld_a ?_ | refine ldA_a ?_ | refine ldS_a ?_ | refine ldNS_a ?_ | refine rdA_s ?_ | refine rd1_s ?_ | refine drew_a fun w1 H1 => ?_ | refine st_a fun w1 H1 => ?_ | refine stA_a fun w1 H1 => ?_ | refine lenT_a ?_ | refine lenO_a ?_ | refine ixT_a ?_ | refine ixO_a ?_ | fail)
  try unfold F23_j1
  refine cal_h (graph_spec (bm := bm) (se := se) (F := ⟨b9, 25, [.slice none 0 0, .slice none 0 0]⟩ :: (cb ++ (ce ++ L))) q1 hw hk hS.nd hS.el (Hp.re (by assumption))) ?_
  rintro _ w ⟨s', E', c', rfl, H, hs', hp, hinc⟩
  have q2 := hs'.sc
  simp only [ret_k]
  refine al_m (ys := [.slice none 0 0, .slice none 0 0]) (by assumption) (by kernel_rfl) fun w b8 H => ?_
  repeat (first | simp only [cI_enc, cE_enc, cN_enc, W0] | refine lss_a ?_ | refine lss_b ?_ | refine gtr_a ?_ | refine gtr_b ?_ | refine geq_a ?_ | refine geq_b ?_ | refine leq_a ?_ | refine leq_b ?_ | refine eql_a ?_ | refine eql_b ?_ | refine neq_a ?_ | refine neq_b ?_ | refine add_a ?_ | refine sub_a ?_ | refine ld_a ?_ | refine ldA_a ?_ | refine ldS_a ?_ | refine ldNS_a ?_ | refine rdA_s ?_ | refine rd1_s ?_ | refine drew_a fun w1 H1 => ?_ | refine st_a fun w1 H1 => ?_ | refine stA_a fun w1 H1 => ?_ | refine lenT_a ?_ | refine lenO_a ?_ | refine ixT_a ?_ | refine ixO_a ?_ | fail)
  have hlen := hS.len
  refine cal_h (Clone_spec hb.tr (by assumption) csub (by omega)) ?_
  rintro _ w ⟨sb', cb', rfl, H, hb'⟩
  have q3 := hb'.sc
  simp only [W0]
  refine st_a (l := [sb, s']) (l' := [sb', s']) (fun w H => ?_)
  repeat (first | simp only [cI_enc, cE_enc, cN_enc, W0] | refine lss_a ?_ | refine lss_b ?_ | refine gtr_a ?_ | refine gtr_b ?_ | refine geq_a ?_ | refine geq_b ?_ | refine leq_a ?_ | refine leq_b ?_ | refine eql_a ?_ | refine eql_b ?_ | refine neq_a ?_ | refine neq_b ?_ | refine add_a ?_ | refine sub_a ?_ | refine ld_a ?_ | refine ldA_a ?_ | refine ldS_a ?_ | refine ldNS_a ?_ | refine rdA_s ?_ | refine rd1_s ?_ | refine drew_a fun w1 H1 => ?_ | refine st_a fun w1 H1 => ?_ | refine stA_a fun w1 H1 => ?_ | refine lenT_a ?_ | refine lenO_a ?_ | refine ixT_a ?_ | refine ixO_a ?_ | fail)
  exact ⟨sb', s', cb', c', E', (by first | rfl | trivial), hb', hs', hp, hinc, Hp.re (by assumption)⟩
theorem bld3 {s1 s2 : Value} {b : Nat} (h1 : scalar s1 = true) (h2 : scalar s2 = true) : bldO [.slice none 0 0, .map none, .slice none 0 0] [(0, 1, s1), (1, 1, .map (some b)), (2, 1, s2)] = some (.agg ⟨[s1, .map (some b), s2]⟩) := by
  cases s1 <;> first | (simp [scalar] at h1; done) | (cases s2 <;> first | (simp [scalar] at h2; done) | rfl)
theorem New_spec (h1 : TR cI w0 cs s base) (H : Hp w0 w L) (m1 : ∀ c ∈ cs, c ∈ L) :
    Calls Pg 25 ⟨[s]⟩ w fun x w' => (chk base [] ≠ 0 ∧ x = .returned (.tuple ⟨[.pointer none, I (chk base [])]⟩) ∧ Hp w0 w' L) ∨
      (chk base [] = 0 ∧ ∃ bt C, x = .returned (.tuple ⟨[ptr bt 0, I 0]⟩) ∧ PTr bt base [] base C ∧ Hp w0 w' (C ++ L)) := by
  have q1 := h1.sc
  apply F25_calls
  unfold F25
  refine pv_of (bld1 q1) ?_
  refine cal_h (Check_spec (es := []) (cs2 := []) h1 TR.nil (by assumption) csub (by simp)) ?_
  rintro _ w ⟨rfl, H⟩
  by_cases hc : chk base [] = 0
  rotate_left
  · repeat (first | simp only [cI_enc, cE_enc, cN_enc, W0] | refine lss_a ?_ | refine lss_b ?_ | refine gtr_a ?_ | refine gtr_b ?_ | refine geq_a ?_ | refine geq_b ?_ | refine leq_a ?_ | refine leq_b ?_ | refine eql_a ?_ | refine eql_b ?_ | refine neq_a ?_ | refine neq_b ?_ | refine add_a ?_ | refine sub_a ?_ | refine ld_a ?_ | refine ldA_a ?_ | refine ldS_a ?_ | refine ldNS_a ?_ | refine rdA_s ?_ | refine rd1_s ?_ | refine drew_a fun w1 H1 => ?_ | refine st_a fun w1 H1 => ?_ | refine stA_a fun w1 H1 => ?_ | refine lenT_a ?_ | refine lenO_a ?_ | refine ixT_a ?_ | refine ixO_a ?_ | fail)
    exact .inl ⟨hc, (by first | rfl | trivial), by assumption⟩
  obtain ⟨c1, _⟩ := chk_ok hc
  repeat (first | simp only [cI_enc, cE_enc, cN_enc, W0] | refine lss_a ?_ | refine lss_b ?_ | refine gtr_a ?_ | refine gtr_b ?_ | refine geq_a ?_ | refine geq_b ?_ | refine leq_a ?_ | refine leq_b ?_ | refine eql_a ?_ | refine eql_b ?_ | refine neq_a ?_ | refine neq_b ?_ | refine add_a ?_ | refine sub_a ?_ | refine ld_a ?_ | refine ldA_a ?_ | refine ldS_a ?_ | refine ldNS_a ?_ | refine rdA_s ?_ | refine rd1_s ?_ | refine drew_a fun w1 H1 => ?_ | refine st_a fun w1 H1 => ?_ | refine stA_a fun w1 H1 => ?_ | refine lenT_a ?_ | refine lenO_a ?_ | refine ixT_a ?_ | refine ixO_a ?_ | fail)
  refine cal_h (Clone_spec h1 (by assumption) csub (by omega)) ?_
  rintro _ w ⟨sb, cb, rfl, H, hb⟩
  simp only [ret_k]
  refine make_m (key := kE) (val := Value.bool) (by assumption) fun w bm H => ?_
  refine cal_h (Clone_spec h1 (by assumption) csub (by omega)) ?_
  rintro _ w ⟨se, ce, rfl, H, he⟩
  have q2 := hb.sc
  have q3 := he.sc
  simp only [ret_k]
  refine pv_of (bld3 q2 q3) ?_
  refine bx_m H fun w bt H => ?_
  exact .inr ⟨hc, bt, ⟨bt, 88, [sb, .map (some bm), se]⟩ :: ⟨bm, .o (mobj kE Value.bool [] 0), []⟩ :: (cb ++ ce), rfl, ⟨bm, sb, se, cb, ce, [], 0, rfl, hb, he, MW.nil, rfl, by simp⟩, Hp.re (by assumption)⟩
end
end Go.Proofs.Ytagcifbfokneoaa.Den
end

section
set_option linter.unusedVariables false
set_option linter.unusedSimpArgs false
set_option maxRecDepth 8000
set_option maxHeartbeats 1000000
namespace Go.Proofs.Ytagcifbfokneoaa.Den
open Go Go.RowKit
section
variable {w w' w0 : World} {L L' F cs cs2 cs3 cb ce C : List Chunk} {s s2 sb se sd : Value} {K : VK} {R : ER} {base eff : List Int} {E E' : List (Nat × Nat)} {es : List (Int × Int)} {br : Nat}
theorem inR_of {n : Nat} {a b : Int} (g1 : inR n a = true) (g2 : inR n b = true) : ∃ y : Nat × Nat, (a, b) = ofN y := by
  rw [inR, decide_eq_true_eq] at g1 g2
  exact ⟨(a.toNat, b.toNat), Prod.ext (by simp [ofN]; omega) (by simp [ofN]; omega)⟩
/-- The graph replaced. -/
theorem put_fin {sb' se' : Value} {base' : List Int} {cb' ce' : List Chunk} {X : ER} (hb : TS cI 3 sb base cb) (he : TS cN 39 se E ce) (hb' : TS cI 3 sb' base' cb') (he' : TS cN 39 se' E' ce')
    (mb : ∀ c ∈ cb, c ∈ L') (me : ∀ c ∈ ce, c ∈ L') (mb' : ∀ c ∈ cb', c ∈ L') (me' : ∀ c ∈ ce', c ∈ L') (hS : St base E) (hS' : St base' E') (hio : IsEff base E eff) (hll : base.length = base'.length)
    (H : Hp w0 w (⟨br, 90, [sb, se]⟩ :: L')) (hd : ∀ f : Chunk → Nat, (cb'.map f).sum + (ce'.map f).sum + (L.map f).sum ≤ (L'.map f).sum) :
    cal Pg X 66 ⟨[ptr br 0, .agg ⟨[sb', se']⟩]⟩ (fun v => OpQ 104 (RTr br) 0 base E eff base' E' w0 L (.returned (.tuple ⟨[v, I 0]⟩))) w := by
  have a1 := hS.el
  have a2 := hS'.el
  refine cal_h (put_spec hb.tr he.tr hb'.tr he'.tr mb me mb' me' hio hll (by omega) hS.rg hS.va (by omega) hS'.len hS'.rg hS'.va H) ?_
  rintro _ w ⟨s, cs, now, rfl, H, hs, hin⟩
  simp only [ret_k]
  exact .inr ⟨rfl, s, cs, now, ⟨br, 90, [sb', se']⟩ :: (cb' ++ ce'), rfl, hin, hs, ⟨sb', se', cb', ce', rfl, hb', he'⟩, H.to fun f => by have := hd f; simp only [List.map_append, List.map_cons, List.sum_append, List.sum_cons]; omega⟩
theorem radd_spec {e : Int × Int} (hS : St base E) (hio : IsEff base E eff) (hT : RTr br base E eff C) (H : Hp w0 w (C ++ L)) :
    Calls Pg 56 ⟨[ptr br 0, .agg ⟨[I e.1, I e.2]⟩]⟩ w (OpQ 104 (RTr br) (addC base E e) base E eff base (E ++ [toN e]) w0 L) := by
  have hT0 := hT
  obtain ⟨sb, se, cb, ce, rfl, hb, he⟩ := hT
  have H : Hp w0 w (⟨br, 90, [sb, se]⟩ :: (cb ++ (ce ++ L))) := H.re
  have q1 := hb.sc
  have q2 := he.sc
  have hel := hS.el
  have bad : ∀ {w : World} {c : Int} {b : Nat}, addC base E e = c → c ≠ 0 → Hp w0 w (⟨b, 39, [I e.1, I e.2]⟩ :: ⟨br, 90, [sb, se]⟩ :: (cb ++ (ce ++ L))) →
      OpQ 104 (RTr br) (addC base E e) base E eff base (E ++ [toN e]) w0 L (.returned (.tuple ⟨[.slice none 0 0, I c]⟩)) w := by
    intro w c b hc h0 H
    exact .inl ⟨by omega, by rw [hc], _, hT0, Hp.re (by assumption)⟩
  apply F56_calls
  unfold F56
  refine bx_m H fun w b H => ?_
  repeat (first | simp only [cI_enc, cE_enc, cN_enc, W0] | refine lss_a ?_ | refine lss_b ?_ | refine gtr_a ?_ | refine gtr_b ?_ | refine geq_a ?_ | refine geq_b ?_ | refine leq_a ?_ | refine leq_b ?_ | refine eql_a ?_ | refine eql_b ?_ | refine neq_a ?_ | refine neq_b ?_ | refine add_a ?_ | refine sub_a ?_ | refine ld_a ?_ | refine ldA_a ?_ | refine ldS_a ?_ | refine ldNS_a ?_ | refine rdA_s ?_ | refine rd1_s ?_ | refine drew_a fun w1 H1 => ?_ | refine st_a fun w1 H1 => ?_ | refine stA_a fun w1 H1 => ?_ | refine lenT_a ?_ | refine lenO_a ?_ | refine ixT_a ?_ | refine ixO_a ?_ | fail)
  try unfold F56_j1 F56_j5
  repeat (first | simp only [cI_enc, cE_enc, cN_enc, W0] | refine lss_a ?_ | refine lss_b ?_ | refine gtr_a ?_ | refine gtr_b ?_ | refine geq_a ?_ | refine geq_b ?_ | refine leq_a ?_ | refine leq_b ?_ | refine eql_a ?_ | refine eql_b ?_ | refine neq_a ?_ | refine neq_b ?_ | refine add_a ?_ | refine sub_a ?_ | refine ld_a ?_ | refine ldA_a ?_ | refine ldS_a ?_ | refine ldNS_a ?_ | refine rdA_s ?_ | refine rd1_s ?_ | refine drew_a fun w1 H1 => ?_ | refine st_a fun w1 H1 => ?_ | refine stA_a fun w1 H1 => ?_ | refine lenT_a ?_ | refine lenO_a ?_ | refine ixT_a ?_ | refine ixO_a ?_ | fail)
  refine cal_h (thread_spec hb.tr q2 (by assumption)) ?_
  rintro _ w ⟨rfl, H⟩
  cases g1 : inR base.length e.1 with
  | false =>
    repeat (first | simp only [cI_enc, cE_enc, cN_enc, W0] | refine lss_a ?_ | refine lss_b ?_ | refine gtr_a ?_ | refine gtr_b ?_ | refine geq_a ?_ | refine geq_b ?_ | refine leq_a ?_ | refine leq_b ?_ | refine eql_a ?_ | refine eql_b ?_ | refine neq_a ?_ | refine neq_b ?_ | refine add_a ?_ | refine sub_a ?_ | refine ld_a ?_ | refine ldA_a ?_ | refine ldS_a ?_ | refine ldNS_a ?_ | refine rdA_s ?_ | refine rd1_s ?_ | refine drew_a fun w1 H1 => ?_ | refine st_a fun w1 H1 => ?_ | refine stA_a fun w1 H1 => ?_ | refine lenT_a ?_ | refine lenO_a ?_ | refine ixT_a ?_ | refine ixO_a ?_ | fail)
    exact bad (by unfold addC; rw [if_pos (by simp [g1])]) (by decide) (by assumption)
  | true =>
    repeat (first | simp only [cI_enc, cE_enc, cN_enc, W0] | refine lss_a ?_ | refine lss_b ?_ | refine gtr_a ?_ | refine gtr_b ?_ | refine geq_a ?_ | refine geq_b ?_ | refine leq_a ?_ | refine leq_b ?_ | refine eql_a ?_ | refine eql_b ?_ | refine neq_a ?_ | refine neq_b ?_ | refine add_a ?_ | refine sub_a ?_ | refine ld_a ?_ | refine ldA_a ?_ | refine ldS_a ?_ | refine ldNS_a ?_ | refine rdA_s ?_ | refine rd1_s ?_ | refine drew_a fun w1 H1 => ?_ | refine st_a fun w1 H1 => ?_ | refine stA_a fun w1 H1 => ?_ | refine lenT_a ?_ | refine lenO_a ?_ | refine ixT_a ?_ | refine ixO_a ?_ | fail)
    refine cal_h (thread_spec hb.tr q2 (by assumption)) ?_
    rintro _ w ⟨rfl, H⟩
    cases g2 : inR base.length e.2 with
    | false =>
      repeat (first | simp only [cI_enc, cE_enc, cN_enc, W0] | refine lss_a ?_ | refine lss_b ?_ | refine gtr_a ?_ | refine gtr_b ?_ | refine geq_a ?_ | refine geq_b ?_ | refine leq_a ?_ | refine leq_b ?_ | refine eql_a ?_ | refine eql_b ?_ | refine neq_a ?_ | refine neq_b ?_ | refine add_a ?_ | refine sub_a ?_ | refine ld_a ?_ | refine ldA_a ?_ | refine ldS_a ?_ | refine ldNS_a ?_ | refine rdA_s ?_ | refine rd1_s ?_ | refine drew_a fun w1 H1 => ?_ | refine st_a fun w1 H1 => ?_ | refine stA_a fun w1 H1 => ?_ | refine lenT_a ?_ | refine lenO_a ?_ | refine ixT_a ?_ | refine ixO_a ?_ | fail)
      exact bad (by unfold addC; rw [if_pos (by simp [g2])]) (by decide) (by assumption)
    | true =>
      have c0 : addC base E e = if e ∈ E.map ofN then 10 else if 2000 ≤ E.length then 18 else 0 := by unfold addC; rw [if_neg (by simp [g1, g2])]
      repeat (first | simp only [cI_enc, cE_enc, cN_enc, W0] | refine lss_a ?_ | refine lss_b ?_ | refine gtr_a ?_ | refine gtr_b ?_ | refine geq_a ?_ | refine geq_b ?_ | refine leq_a ?_ | refine leq_b ?_ | refine eql_a ?_ | refine eql_b ?_ | refine neq_a ?_ | refine neq_b ?_ | refine add_a ?_ | refine sub_a ?_ | refine ld_a ?_ | refine ldA_a ?_ | refine ldS_a ?_ | refine ldNS_a ?_ | refine rdA_s ?_ | refine rd1_s ?_ | refine drew_a fun w1 H1 => ?_ | refine st_a fun w1 H1 => ?_ | refine stA_a fun w1 H1 => ?_ | refine lenT_a ?_ | refine lenO_a ?_ | refine ixT_a ?_ | refine ixO_a ?_ | fail)
      try unfold F56_j2
      repeat (first | simp only [cI_enc, cE_enc, cN_enc, W0] | refine lss_a ?_ | refine lss_b ?_ | refine gtr_a ?_ | refine gtr_b ?_ | refine geq_a ?_ | refine geq_b ?_ | refine leq_a ?_ | refine leq_b ?_ | refine eql_a ?_ | refine eql_b ?_ | refine neq_a ?_ | refine neq_b ?_ | refine add_a ?_ | refine sub_a ?_ | refine ld_a ?_ | refine ldA_a ?_ | refine ldS_a ?_ | refine ldNS_a ?_ | refine rdA_s ?_ | refine rd1_s ?_ | refine drew_a fun w1 H1 => ?_ | refine st_a fun w1 H1 => ?_ | refine stA_a fun w1 H1 => ?_ | refine lenT_a ?_ | refine lenO_a ?_ | refine ixT_a ?_ | refine ixO_a ?_ | fail)
      refine cal_h (has_spec (e := e) (ofCN he.tr) (by assumption) csub (by simp; omega)) ?_
      rintro _ w ⟨rfl, H⟩
      by_cases hm : e ∈ E.map ofN
      · rw [decide_eq_true hm]
        rw [if_pos hm] at c0
        repeat (first | simp only [cI_enc, cE_enc, cN_enc, W0] | refine lss_a ?_ | refine lss_b ?_ | refine gtr_a ?_ | refine gtr_b ?_ | refine geq_a ?_ | refine geq_b ?_ | refine leq_a ?_ | refine leq_b ?_ | refine eql_a ?_ | refine eql_b ?_ | refine neq_a ?_ | refine neq_b ?_ | refine add_a ?_ | refine sub_a ?_ | refine ld_a ?_ | refine ldA_a ?_ | refine ldS_a ?_ | refine ldNS_a ?_ | refine rdA_s ?_ | refine rd1_s ?_ | refine drew_a fun w1 H1 => ?_ | refine st_a fun w1 H1 => ?_ | refine stA_a fun w1 H1 => ?_ | refine lenT_a ?_ | refine lenO_a ?_ | refine ixT_a ?_ | refine ixO_a ?_ | fail)
        exact bad c0 (by decide) (by assumption)
      rw [decide_eq_false hm]
      rw [if_neg hm] at c0
      repeat (first | simp only [cI_enc, cE_enc, cN_enc, W0] | refine lss_a ?_ | refine lss_b ?_ | refine gtr_a ?_ | refine gtr_b ?_ | refine geq_a ?_ | refine geq_b ?_ | refine leq_a ?_ | refine leq_b ?_ | refine eql_a ?_ | refine eql_b ?_ | refine neq_a ?_ | refine neq_b ?_ | refine add_a ?_ | refine sub_a ?_ | refine ld_a ?_ | refine ldA_a ?_ | refine ldS_a ?_ | refine ldNS_a ?_ | refine rdA_s ?_ | refine rd1_s ?_ | refine drew_a fun w1 H1 => ?_ | refine st_a fun w1 H1 => ?_ | refine stA_a fun w1 H1 => ?_ | refine lenT_a ?_ | refine lenO_a ?_ | refine ixT_a ?_ | refine ixO_a ?_ | fail)
      try unfold F56_j3
      by_cases hl : 2000 ≤ E.length
      · rw [if_pos hl] at c0
        repeat (first | simp only [cI_enc, cE_enc, cN_enc, W0] | refine lss_a ?_ | refine lss_b ?_ | refine gtr_a ?_ | refine gtr_b ?_ | refine geq_a ?_ | refine geq_b ?_ | refine leq_a ?_ | refine leq_b ?_ | refine eql_a ?_ | refine eql_b ?_ | refine neq_a ?_ | refine neq_b ?_ | refine add_a ?_ | refine sub_a ?_ | refine ld_a ?_ | refine ldA_a ?_ | refine ldS_a ?_ | refine ldNS_a ?_ | refine rdA_s ?_ | refine rd1_s ?_ | refine drew_a fun w1 H1 => ?_ | refine st_a fun w1 H1 => ?_ | refine stA_a fun w1 H1 => ?_ | refine lenT_a ?_ | refine lenO_a ?_ | refine ixT_a ?_ | refine ixO_a ?_ | fail)
        exact bad c0 (by decide) (by assumption)
      rw [if_neg hl] at c0
      repeat (first | simp only [cI_enc, cE_enc, cN_enc, W0] | refine lss_a ?_ | refine lss_b ?_ | refine gtr_a ?_ | refine gtr_b ?_ | refine geq_a ?_ | refine geq_b ?_ | refine leq_a ?_ | refine leq_b ?_ | refine eql_a ?_ | refine eql_b ?_ | refine neq_a ?_ | refine neq_b ?_ | refine add_a ?_ | refine sub_a ?_ | refine ld_a ?_ | refine ldA_a ?_ | refine ldS_a ?_ | refine ldNS_a ?_ | refine rdA_s ?_ | refine rd1_s ?_ | refine drew_a fun w1 H1 => ?_ | refine st_a fun w1 H1 => ?_ | refine stA_a fun w1 H1 => ?_ | refine lenT_a ?_ | refine lenO_a ?_ | refine ixT_a ?_ | refine ixO_a ?_ | fail)
      have hS' := hS.add g1 g2 hm (by omega)
      obtain ⟨y, hy⟩ := inR_of g1 g2
      obtain rfl : e = ofN y := hy
      rw [c0]
      have ey : toN (ofN y) = y := by simp [ofN, toN]
      rw [ey] at hS' ⊢
      have fin : ∀ {w : World} {s' : Value} {c' : List Chunk} {X : ER}, TS cN 39 s' (E ++ [y]) c' → Hp w0 w (⟨br, 90, [sb, se]⟩ :: (c' ++ (cb ++ (ce ++ L)))) →
          cal Pg X 66 ⟨[ptr br 0, .agg ⟨[sb, s']⟩]⟩ (fun v => OpQ 104 (RTr br) 0 base E eff base (E ++ [y]) w0 L (.returned (.tuple ⟨[v, I 0]⟩))) w := by
        intro w s' c' X h' H
        exact put_fin (L' := c' ++ (cb ++ (ce ++ L))) hb he hb h' (by intro c hc; simp [hc]) (by intro c hc; simp [hc]) (by intro c hc; simp [hc]) (by intro c hc; simp [hc]) hS hS' hio rfl H (fun f => by simp only [List.map_append, List.sum_append]; omega)
      have hv : Value.cells (.agg ⟨[I (ofN y).1, I (ofN y).2]⟩) = ⟨cN.enc y⟩ := rfl
      try unfold F56_j4
      repeat (first | simp only [cI_enc, cE_enc, cN_enc, W0] | refine lss_a ?_ | refine lss_b ?_ | refine gtr_a ?_ | refine gtr_b ?_ | refine geq_a ?_ | refine geq_b ?_ | refine leq_a ?_ | refine leq_b ?_ | refine eql_a ?_ | refine eql_b ?_ | refine neq_a ?_ | refine neq_b ?_ | refine add_a ?_ | refine sub_a ?_ | refine ld_a ?_ | refine ldA_a ?_ | refine ldS_a ?_ | refine ldNS_a ?_ | refine rdA_s ?_ | refine rd1_s ?_ | refine drew_a fun w1 H1 => ?_ | refine st_a fun w1 H1 => ?_ | refine stA_a fun w1 H1 => ?_ | refine lenT_a ?_ | refine lenO_a ?_ | refine ixT_a ?_ | refine ixO_a ?_ | fail)
      refine allW2 ?_ ?_
      · refine lit0_t (C := cN) elN (by assumption) fun w s H h10 => ?_
        repeat (first | simp only [cI_enc, cE_enc, cN_enc, W0] | refine lss_a ?_ | refine lss_b ?_ | refine gtr_a ?_ | refine gtr_b ?_ | refine geq_a ?_ | refine geq_b ?_ | refine leq_a ?_ | refine leq_b ?_ | refine eql_a ?_ | refine eql_b ?_ | refine neq_a ?_ | refine neq_b ?_ | refine add_a ?_ | refine sub_a ?_ | refine ld_a ?_ | refine ldA_a ?_ | refine ldS_a ?_ | refine ldNS_a ?_ | refine rdA_s ?_ | refine rd1_s ?_ | refine drew_a fun w1 H1 => ?_ | refine st_a fun w1 H1 => ?_ | refine stA_a fun w1 H1 => ?_ | refine lenT_a ?_ | refine lenO_a ?_ | refine ixT_a ?_ | refine ixO_a ?_ | fail)
        refine allW2 ?_ ?_
        · refine append_t (C := cN) elN (by assumption) h10 Split.nil he.tr csub (by simp; omega) (by simp; omega) fun w s cs H h12 => ?_
          repeat (first | simp only [cI_enc, cE_enc, cN_enc, W0] | refine lss_a ?_ | refine lss_b ?_ | refine gtr_a ?_ | refine gtr_b ?_ | refine geq_a ?_ | refine geq_b ?_ | refine leq_a ?_ | refine leq_b ?_ | refine eql_a ?_ | refine eql_b ?_ | refine neq_a ?_ | refine neq_b ?_ | refine add_a ?_ | refine sub_a ?_ | refine ld_a ?_ | refine ldA_a ?_ | refine ldS_a ?_ | refine ldNS_a ?_ | refine rdA_s ?_ | refine rd1_s ?_ | refine drew_a fun w1 H1 => ?_ | refine st_a fun w1 H1 => ?_ | refine stA_a fun w1 H1 => ?_ | refine lenT_a ?_ | refine lenO_a ?_ | refine ixT_a ?_ | refine ixO_a ?_ | fail)
          refine lit1_t (C := cN) (x := y) elN (by assumption) hv (by decide) fun w s cs H h14 => ?_
          repeat (first | simp only [cI_enc, cE_enc, cN_enc, W0] | refine lss_a ?_ | refine lss_b ?_ | refine gtr_a ?_ | refine gtr_b ?_ | refine geq_a ?_ | refine geq_b ?_ | refine leq_a ?_ | refine leq_b ?_ | refine eql_a ?_ | refine eql_b ?_ | refine neq_a ?_ | refine neq_b ?_ | refine add_a ?_ | refine sub_a ?_ | refine ld_a ?_ | refine ldA_a ?_ | refine ldS_a ?_ | refine ldNS_a ?_ | refine rdA_s ?_ | refine rd1_s ?_ | refine drew_a fun w1 H1 => ?_ | refine st_a fun w1 H1 => ?_ | refine stA_a fun w1 H1 => ?_ | refine lenT_a ?_ | refine lenO_a ?_ | refine ixT_a ?_ | refine ixO_a ?_ | fail)
          refine append_t (C := cN) elN (by assumption) h12 spl (TS.tr h14) csub (by simp; omega) (by simp; omega) fun w s cs H h16 => ?_
          have q16 := h16.sc
          repeat (first | simp only [cI_enc, cE_enc, cN_enc, W0] | refine lss_a ?_ | refine lss_b ?_ | refine gtr_a ?_ | refine gtr_b ?_ | refine geq_a ?_ | refine geq_b ?_ | refine leq_a ?_ | refine leq_b ?_ | refine eql_a ?_ | refine eql_b ?_ | refine neq_a ?_ | refine neq_b ?_ | refine add_a ?_ | refine sub_a ?_ | refine ld_a ?_ | refine ldA_a ?_ | refine ldS_a ?_ | refine ldNS_a ?_ | refine rdA_s ?_ | refine rd1_s ?_ | refine drew_a fun w1 H1 => ?_ | refine st_a fun w1 H1 => ?_ | refine stA_a fun w1 H1 => ?_ | refine lenT_a ?_ | refine lenO_a ?_ | refine ixT_a ?_ | refine ixO_a ?_ | fail)
          refine pv_of (bld2 q1 q16) ?_
          exact fin h16 (Hp.re (by assumption))
        · refine lit1_t (C := cN) (x := y) elN (by assumption) hv (by decide) fun w s cs H h14 => ?_
          repeat (first | simp only [cI_enc, cE_enc, cN_enc, W0] | refine lss_a ?_ | refine lss_b ?_ | refine gtr_a ?_ | refine gtr_b ?_ | refine geq_a ?_ | refine geq_b ?_ | refine leq_a ?_ | refine leq_b ?_ | refine eql_a ?_ | refine eql_b ?_ | refine neq_a ?_ | refine neq_b ?_ | refine add_a ?_ | refine sub_a ?_ | refine ld_a ?_ | refine ldA_a ?_ | refine ldS_a ?_ | refine ldNS_a ?_ | refine rdA_s ?_ | refine rd1_s ?_ | refine drew_a fun w1 H1 => ?_ | refine st_a fun w1 H1 => ?_ | refine stA_a fun w1 H1 => ?_ | refine lenT_a ?_ | refine lenO_a ?_ | refine ixT_a ?_ | refine ixO_a ?_ | fail)
          refine append_t (C := cN) elN (by assumption) h10 Split.nil he.tr csub (by simp; omega) (by simp; omega) fun w s cs H h12 => ?_
          repeat (first | simp only [cI_enc, cE_enc, cN_enc, W0] | refine lss_a ?_ | refine lss_b ?_ | refine gtr_a ?_ | refine gtr_b ?_ | refine geq_a ?_ | refine geq_b ?_ | refine leq_a ?_ | refine leq_b ?_ | refine eql_a ?_ | refine eql_b ?_ | refine neq_a ?_ | refine neq_b ?_ | refine add_a ?_ | refine sub_a ?_ | refine ld_a ?_ | refine ldA_a ?_ | refine ldS_a ?_ | refine ldNS_a ?_ | refine rdA_s ?_ | refine rd1_s ?_ | refine drew_a fun w1 H1 => ?_ | refine st_a fun w1 H1 => ?_ | refine stA_a fun w1 H1 => ?_ | refine lenT_a ?_ | refine lenO_a ?_ | refine ixT_a ?_ | refine ixO_a ?_ | fail)
          refine append_t (C := cN) elN (by assumption) h12 spl (TS.tr h14) csub (by simp; omega) (by simp; omega) fun w s cs H h16 => ?_
          have q16 := h16.sc
          repeat (first | simp only [cI_enc, cE_enc, cN_enc, W0] | refine lss_a ?_ | refine lss_b ?_ | refine gtr_a ?_ | refine gtr_b ?_ | refine geq_a ?_ | refine geq_b ?_ | refine leq_a ?_ | refine leq_b ?_ | refine eql_a ?_ | refine eql_b ?_ | refine neq_a ?_ | refine neq_b ?_ | refine add_a ?_ | refine sub_a ?_ | refine ld_a ?_ | refine ldA_a ?_ | refine ldS_a ?_ | refine ldNS_a ?_ | refine rdA_s ?_ | refine rd1_s ?_ | refine drew_a fun w1 H1 => ?_ | refine st_a fun w1 H1 => ?_ | refine stA_a fun w1 H1 => ?_ | refine lenT_a ?_ | refine lenO_a ?_ | refine ixT_a ?_ | refine ixO_a ?_ | fail)
          refine pv_of (bld2 q1 q16) ?_
          exact fin h16 (Hp.re (by assumption))
      · refine lit1_t (C := cN) (x := y) elN (by assumption) hv (by decide) fun w s cs H h14 => ?_
        repeat (first | simp only [cI_enc, cE_enc, cN_enc, W0] | refine lss_a ?_ | refine lss_b ?_ | refine gtr_a ?_ | refine gtr_b ?_ | refine geq_a ?_ | refine geq_b ?_ | refine leq_a ?_ | refine leq_b ?_ | refine eql_a ?_ | refine eql_b ?_ | refine neq_a ?_ | refine neq_b ?_ | refine add_a ?_ | refine sub_a ?_ | refine ld_a ?_ | refine ldA_a ?_ | refine ldS_a ?_ | refine ldNS_a ?_ | refine rdA_s ?_ | refine rd1_s ?_ | refine drew_a fun w1 H1 => ?_ | refine st_a fun w1 H1 => ?_ | refine stA_a fun w1 H1 => ?_ | refine lenT_a ?_ | refine lenO_a ?_ | refine ixT_a ?_ | refine ixO_a ?_ | fail)
        refine lit0_t (C := cN) elN (by assumption) fun w s H h10 => ?_
        repeat (first | simp only [cI_enc, cE_enc, cN_enc, W0] | refine lss_a ?_ | refine lss_b ?_ | refine gtr_a ?_ | refine gtr_b ?_ | refine geq_a ?_ | refine geq_b ?_ | refine leq_a ?_ | refine leq_b ?_ | refine eql_a ?_ | refine eql_b ?_ | refine neq_a ?_ | refine neq_b ?_ | refine add_a ?_ | refine sub_a ?_ | refine ld_a ?_ | refine ldA_a ?_ | refine ldS_a ?_ | refine ldNS_a ?_ | refine rdA_s ?_ | refine rd1_s ?_ | refine drew_a fun w1 H1 => ?_ | refine st_a fun w1 H1 => ?_ | refine stA_a fun w1 H1 => ?_ | refine lenT_a ?_ | refine lenO_a ?_ | refine ixT_a ?_ | refine ixO_a ?_ | fail)
        refine append_t (C := cN) elN (by assumption) h10 Split.nil he.tr csub (by simp; omega) (by simp; omega) fun w s cs H h12 => ?_
        repeat (first | simp only [cI_enc, cE_enc, cN_enc, W0] | refine lss_a ?_ | refine lss_b ?_ | refine gtr_a ?_ | refine gtr_b ?_ | refine geq_a ?_ | refine geq_b ?_ | refine leq_a ?_ | refine leq_b ?_ | refine eql_a ?_ | refine eql_b ?_ | refine neq_a ?_ | refine neq_b ?_ | refine add_a ?_ | refine sub_a ?_ | refine ld_a ?_ | refine ldA_a ?_ | refine ldS_a ?_ | refine ldNS_a ?_ | refine rdA_s ?_ | refine rd1_s ?_ | refine drew_a fun w1 H1 => ?_ | refine st_a fun w1 H1 => ?_ | refine stA_a fun w1 H1 => ?_ | refine lenT_a ?_ | refine lenO_a ?_ | refine ixT_a ?_ | refine ixO_a ?_ | fail)
        refine append_t (C := cN) elN (by assumption) h12 spl (TS.tr h14) csub (by simp; omega) (by simp; omega) fun w s cs H h16 => ?_
        have q16 := h16.sc
        repeat (first | simp only [cI_enc, cE_enc, cN_enc, W0] | refine lss_a ?_ | refine lss_b ?_ | refine gtr_a ?_ | refine gtr_b ?_ | refine geq_a ?_ | refine geq_b ?_ | refine leq_a ?_ | refine leq_b ?_ | refine eql_a ?_ | refine eql_b ?_ | refine neq_a ?_ | refine neq_b ?_ | refine add_a ?_ | refine sub_a ?_ | refine ld_a ?_ | refine ldA_a ?_ | refine ldS_a ?_ | refine ldNS_a ?_ | refine rdA_s ?_ | refine rd1_s ?_ | refine drew_a fun w1 H1 => ?_ | refine st_a fun w1 H1 => ?_ | refine stA_a fun w1 H1 => ?_ | refine lenT_a ?_ | refine lenO_a ?_ | refine ixT_a ?_ | refine ixO_a ?_ | fail)
        refine pv_of (bld2 q1 q16) ?_
        exact fin h16 (Hp.re (by assumption))
end
end Go.Proofs.Ytagcifbfokneoaa.Den
end

section
set_option linter.unusedVariables false
set_option linter.unusedSimpArgs false
set_option maxRecDepth 8000
set_option maxHeartbeats 1000000
namespace Go.Proofs.Ytagcifbfokneoaa.Den
open Go Go.RowKit
theorem neE (a b c d : Int) : neAgg [0,0] (.agg ⟨[I a, I b]⟩) (.agg ⟨[I c, I d]⟩) = some (.bool (decide ((a, b) ≠ (c, d)))) := by
  unfold neAgg
  simp only [eqCells, eqLeaf]
  by_cases h1 : a = c <;> by_cases h2 : b = d <;> simp [h1, h2]
section
variable {w w' w0 : World} {L L' F cs cs2 cs3 cb ce C : List Chunk} {s s2 sb se sd : Value} {K : VK} {R : ER} {base eff : List Int} {E E' : List (Nat × Nat)} {es : List (Int × Int)} {br : Nat}
theorem toCNs {el : Nat} (h : TS cE el s es cs) (h2 : es = (es.map toN).map ofN) : TS cN el s (es.map toN) cs := by
  have e1 : cN.all (es.map toN) = cE.all es := by
    conv => rhs; rw [h2]
    simp [Cod.all, List.map_map]; rfl
  have h' : Sl el 2 s es.length (cE.all es) cs := h
  show Sl el 2 s (es.map toN).length (cN.all (es.map toN)) cs
  rw [e1, List.length_map]; exact h'
theorem rrem_spec {e : Int × Int} (hS : St base E) (hio : IsEff base E eff) (hT : RTr br base E eff C) (H : Hp w0 w (C ++ L)) :
    Calls Pg 51 ⟨[ptr br 0, .agg ⟨[I e.1, I e.2]⟩]⟩ w (OpQ 104 (RTr br) (remC base E e) base E eff base (remE E e) w0 L) := by
  have hT0 := hT
  obtain ⟨sb, se, cb, ce, rfl, hb, he⟩ := hT
  have H : Hp w0 w (⟨br, 90, [sb, se]⟩ :: (cb ++ (ce ++ L))) := H.re
  have q1 := hb.sc
  have q2 := he.sc
  have hel := hS.el
  have bad : ∀ {w : World} {c : Int} {b : Nat}, remC base E e = c → c ≠ 0 → Hp w0 w (⟨b, 39, [I e.1, I e.2]⟩ :: ⟨br, 90, [sb, se]⟩ :: (cb ++ (ce ++ L))) →
      OpQ 104 (RTr br) (remC base E e) base E eff base (remE E e) w0 L (.returned (.tuple ⟨[.slice none 0 0, I c]⟩)) w := by
    intro w c b hc h0 H
    exact .inl ⟨by omega, by rw [hc], _, hT0, Hp.re (by assumption)⟩
  apply F51_calls
  unfold F51
  refine bx_m H fun w b H => ?_
  repeat (first | simp only [cI_enc, cE_enc, cN_enc, W0] | refine lss_a ?_ | refine lss_b ?_ | refine gtr_a ?_ | refine gtr_b ?_ | refine geq_a ?_ | refine geq_b ?_ | refine leq_a ?_ | refine leq_b ?_ | refine eql_a ?_ | refine eql_b ?_ | refine neq_a ?_ | refine neq_b ?_ | refine add_a ?_ | refine sub_a ?_ | refine ld_a ?_ | refine ldA_a ?_ | refine ldS_a ?_ | refine ldNS_a ?_ | refine rdA_s ?_ | refine rd1_s ?_ | refine drew_a fun w1 H1 => ?_ | refine st_a fun w1 H1 => ?_ | refine stA_a fun w1 H1 => ?_ | refine lenT_a ?_ | refine lenO_a ?_ | refine ixT_a ?_ | refine ixO_a ?_ | fail)
  try unfold F51_j1 F51_j10
  repeat (first | simp only [cI_enc, cE_enc, cN_enc, W0] | refine lss_a ?_ | refine lss_b ?_ | refine gtr_a ?_ | refine gtr_b ?_ | refine geq_a ?_ | refine geq_b ?_ | refine leq_a ?_ | refine leq_b ?_ | refine eql_a ?_ | refine eql_b ?_ | refine neq_a ?_ | refine neq_b ?_ | refine add_a ?_ | refine sub_a ?_ | refine ld_a ?_ | refine ldA_a ?_ | refine ldS_a ?_ | refine ldNS_a ?_ | refine rdA_s ?_ | refine rd1_s ?_ | refine drew_a fun w1 H1 => ?_ | refine st_a fun w1 H1 => ?_ | refine stA_a fun w1 H1 => ?_ | refine lenT_a ?_ | refine lenO_a ?_ | refine ixT_a ?_ | refine ixO_a ?_ | fail)
  refine cal_h (thread_spec hb.tr q2 (by assumption)) ?_
  rintro _ w ⟨rfl, H⟩
  cases g1 : inR base.length e.1 with
  | false =>
    repeat (first | simp only [cI_enc, cE_enc, cN_enc, W0] | refine lss_a ?_ | refine lss_b ?_ | refine gtr_a ?_ | refine gtr_b ?_ | refine geq_a ?_ | refine geq_b ?_ | refine leq_a ?_ | refine leq_b ?_ | refine eql_a ?_ | refine eql_b ?_ | refine neq_a ?_ | refine neq_b ?_ | refine add_a ?_ | refine sub_a ?_ | refine ld_a ?_ | refine ldA_a ?_ | refine ldS_a ?_ | refine ldNS_a ?_ | refine rdA_s ?_ | refine rd1_s ?_ | refine drew_a fun w1 H1 => ?_ | refine st_a fun w1 H1 => ?_ | refine stA_a fun w1 H1 => ?_ | refine lenT_a ?_ | refine lenO_a ?_ | refine ixT_a ?_ | refine ixO_a ?_ | fail)
    exact bad (by unfold remC; rw [if_pos (by simp [g1])]) (by decide) (by assumption)
  | true =>
    repeat (first | simp only [cI_enc, cE_enc, cN_enc, W0] | refine lss_a ?_ | refine lss_b ?_ | refine gtr_a ?_ | refine gtr_b ?_ | refine geq_a ?_ | refine geq_b ?_ | refine leq_a ?_ | refine leq_b ?_ | refine eql_a ?_ | refine eql_b ?_ | refine neq_a ?_ | refine neq_b ?_ | refine add_a ?_ | refine sub_a ?_ | refine ld_a ?_ | refine ldA_a ?_ | refine ldS_a ?_ | refine ldNS_a ?_ | refine rdA_s ?_ | refine rd1_s ?_ | refine drew_a fun w1 H1 => ?_ | refine st_a fun w1 H1 => ?_ | refine stA_a fun w1 H1 => ?_ | refine lenT_a ?_ | refine lenO_a ?_ | refine ixT_a ?_ | refine ixO_a ?_ | fail)
    refine cal_h (thread_spec hb.tr q2 (by assumption)) ?_
    rintro _ w ⟨rfl, H⟩
    cases g2 : inR base.length e.2 with
    | false =>
      repeat (first | simp only [cI_enc, cE_enc, cN_enc, W0] | refine lss_a ?_ | refine lss_b ?_ | refine gtr_a ?_ | refine gtr_b ?_ | refine geq_a ?_ | refine geq_b ?_ | refine leq_a ?_ | refine leq_b ?_ | refine eql_a ?_ | refine eql_b ?_ | refine neq_a ?_ | refine neq_b ?_ | refine add_a ?_ | refine sub_a ?_ | refine ld_a ?_ | refine ldA_a ?_ | refine ldS_a ?_ | refine ldNS_a ?_ | refine rdA_s ?_ | refine rd1_s ?_ | refine drew_a fun w1 H1 => ?_ | refine st_a fun w1 H1 => ?_ | refine stA_a fun w1 H1 => ?_ | refine lenT_a ?_ | refine lenO_a ?_ | refine ixT_a ?_ | refine ixO_a ?_ | fail)
      exact bad (by unfold remC; rw [if_pos (by simp [g2])]) (by decide) (by assumption)
    | true =>
      have c0 : remC base E e = if e ∉ E.map ofN then 22 else 0 := by unfold remC; rw [if_neg (by simp [g1, g2])]
      repeat (first | simp only [cI_enc, cE_enc, cN_enc, W0] | refine lss_a ?_ | refine lss_b ?_ | refine gtr_a ?_ | refine gtr_b ?_ | refine geq_a ?_ | refine geq_b ?_ | refine leq_a ?_ | refine leq_b ?_ | refine eql_a ?_ | refine eql_b ?_ | refine neq_a ?_ | refine neq_b ?_ | refine add_a ?_ | refine sub_a ?_ | refine ld_a ?_ | refine ldA_a ?_ | refine ldS_a ?_ | refine ldNS_a ?_ | refine rdA_s ?_ | refine rd1_s ?_ | refine drew_a fun w1 H1 => ?_ | refine st_a fun w1 H1 => ?_ | refine stA_a fun w1 H1 => ?_ | refine lenT_a ?_ | refine lenO_a ?_ | refine ixT_a ?_ | refine ixO_a ?_ | fail)
      try unfold F51_j2
      repeat (first | simp only [cI_enc, cE_enc, cN_enc, W0] | refine lss_a ?_ | refine lss_b ?_ | refine gtr_a ?_ | refine gtr_b ?_ | refine geq_a ?_ | refine geq_b ?_ | refine leq_a ?_ | refine leq_b ?_ | refine eql_a ?_ | refine eql_b ?_ | refine neq_a ?_ | refine neq_b ?_ | refine add_a ?_ | refine sub_a ?_ | refine ld_a ?_ | refine ldA_a ?_ | refine ldS_a ?_ | refine ldNS_a ?_ | refine rdA_s ?_ | refine rd1_s ?_ | refine drew_a fun w1 H1 => ?_ | refine st_a fun w1 H1 => ?_ | refine stA_a fun w1 H1 => ?_ | refine lenT_a ?_ | refine lenO_a ?_ | refine ixT_a ?_ | refine ixO_a ?_ | fail)
      refine cal_h (has_spec (e := e) (ofCN he.tr) (by assumption) csub (by simp; omega)) ?_
      rintro _ w ⟨rfl, H⟩
      by_cases hm : e ∈ E.map ofN
      rotate_left
      · rw [decide_eq_false hm]
        rw [if_pos hm] at c0
        repeat (first | simp only [cI_enc, cE_enc, cN_enc, W0] | refine lss_a ?_ | refine lss_b ?_ | refine gtr_a ?_ | refine gtr_b ?_ | refine geq_a ?_ | refine geq_b ?_ | refine leq_a ?_ | refine leq_b ?_ | refine eql_a ?_ | refine eql_b ?_ | refine neq_a ?_ | refine neq_b ?_ | refine add_a ?_ | refine sub_a ?_ | refine ld_a ?_ | refine ldA_a ?_ | refine ldS_a ?_ | refine ldNS_a ?_ | refine rdA_s ?_ | refine rd1_s ?_ | refine drew_a fun w1 H1 => ?_ | refine st_a fun w1 H1 => ?_ | refine stA_a fun w1 H1 => ?_ | refine lenT_a ?_ | refine lenO_a ?_ | refine ixT_a ?_ | refine ixO_a ?_ | fail)
        exact bad c0 (by decide) (by assumption)
      rw [decide_eq_true hm]
      rw [if_neg (not_not_intro hm)] at c0
      repeat (first | simp only [cI_enc, cE_enc, cN_enc, W0] | refine lss_a ?_ | refine lss_b ?_ | refine gtr_a ?_ | refine gtr_b ?_ | refine geq_a ?_ | refine geq_b ?_ | refine leq_a ?_ | refine leq_b ?_ | refine eql_a ?_ | refine eql_b ?_ | refine neq_a ?_ | refine neq_b ?_ | refine add_a ?_ | refine sub_a ?_ | refine ld_a ?_ | refine ldA_a ?_ | refine ldS_a ?_ | refine ldNS_a ?_ | refine rdA_s ?_ | refine rd1_s ?_ | refine drew_a fun w1 H1 => ?_ | refine st_a fun w1 H1 => ?_ | refine stA_a fun w1 H1 => ?_ | refine lenT_a ?_ | refine lenO_a ?_ | refine ixT_a ?_ | refine ixO_a ?_ | fail)
      try unfold F51_j3 F51_j5 F51_j6
      refine loop4 (F51_l1_succ _) (fun m x0 x3 x6 x7 w => ∃ (i : Nat) (s : Value) (cs : List Chunk), x0 = ptr br 0 ∧ x3 = ptr b 0 ∧ x6 = s ∧ x7 = I i ∧ m + i = E.length ∧ TS cN 39 s (remE (E.take i) e) cs ∧
          Hp w0 w (⟨b, 39, [I e.1, I e.2]⟩ :: ⟨br, 90, [sb, se]⟩ :: (cb ++ (ce ++ (cs ++ L))))) ?_ (m := E.length)
        ⟨0, .slice none 0 0, [], rfl, rfl, rfl, rfl, by omega, TS.nil, Hp.re (by assumption)⟩
      clear H
      rintro m k x0 x3 x6 x7 w ⟨i, s, cs, rfl, rfl, rfl, rfl, hm', hs, H⟩ hk
      unfold F51_b1
      by_cases hi : i < E.length
      rotate_left
      · obtain rfl : i = E.length := by omega
        rw [List.take_length] at hs
        have q3 := hs.sc
        have hS' := hS.rem (e := e)
        rw [c0]
        repeat (first | simp only [cI_enc, cE_enc, cN_enc, W0] | refine lss_a ?_ | refine lss_b ?_ | refine gtr_a ?_ | refine gtr_b ?_ | refine geq_a ?_ | refine geq_b ?_ | refine leq_a ?_ | refine leq_b ?_ | refine eql_a ?_ | refine eql_b ?_ | refine neq_a ?_ | refine neq_b ?_ | refine add_a ?_ | refine sub_a ?_ | refine ld_a ?_ | refine ldA_a ?_ | refine ldS_a ?_ | refine ldNS_a ?_ | refine rdA_s ?_ | refine rd1_s ?_ | refine drew_a fun w1 H1 => ?_ | refine st_a fun w1 H1 => ?_ | refine stA_a fun w1 H1 => ?_ | refine lenT_a ?_ | refine lenO_a ?_ | refine ixT_a ?_ | refine ixO_a ?_ | fail)
        try unfold F51_j4
        repeat (first | simp only [cI_enc, cE_enc, cN_enc, W0] | refine lss_a ?_ | refine lss_b ?_ | refine gtr_a ?_ | refine gtr_b ?_ | refine geq_a ?_ | refine geq_b ?_ | refine leq_a ?_ | refine leq_b ?_ | refine eql_a ?_ | refine eql_b ?_ | refine neq_a ?_ | refine neq_b ?_ | refine add_a ?_ | refine sub_a ?_ | refine ld_a ?_ | refine ldA_a ?_ | refine ldS_a ?_ | refine ldNS_a ?_ | refine rdA_s ?_ | refine rd1_s ?_ | refine drew_a fun w1 H1 => ?_ | refine st_a fun w1 H1 => ?_ | refine stA_a fun w1 H1 => ?_ | refine lenT_a ?_ | refine lenO_a ?_ | refine ixT_a ?_ | refine ixO_a ?_ | fail)
        refine pv_of (bld2 q1 q3) ?_
        exact put_fin (L' := ⟨b, 39, [I e.1, I e.2]⟩ :: (cb ++ (ce ++ (cs ++ L)))) hb he hb hs csub csub csub csub hS hS' hio rfl (Hp.re (by assumption)) (fun f => by simp only [List.map_append, List.map_cons, List.sum_append, List.sum_cons]; omega)
      have hx : E[i]? = some E[i] := List.getElem?_eq_getElem hi
      have htk : E.take (i + 1) = E.take i ++ [E[i]] := by rw [List.take_add_one, hx]; rfl
      have hlen : (remE (E.take i) e).length ≤ i := Nat.le_trans (List.length_filter_le _ _) (by simp; omega)
      generalize E[i] = y at hx htk
      have hy : remE (E.take (i + 1)) e = remE (E.take i) e ++ (if ofN y = e then [] else [y]) := by
        rw [htk, remE, List.filter_append, remE]; congr 1
        by_cases h : ofN y = e <;> simp [h]
      have hv : cN.enc y = [I (ofN y).1, I (ofN y).2] := rfl
      repeat (first | simp only [cI_enc, cE_enc, cN_enc, W0] | refine lss_a ?_ | refine lss_b ?_ | refine gtr_a ?_ | refine gtr_b ?_ | refine geq_a ?_ | refine geq_b ?_ | refine leq_a ?_ | refine leq_b ?_ | refine eql_a ?_ | refine eql_b ?_ | refine neq_a ?_ | refine neq_b ?_ | refine add_a ?_ | refine sub_a ?_ | refine ld_a ?_ | refine ldA_a ?_ | refine ldS_a ?_ | refine ldNS_a ?_ | refine rdA_s ?_ | refine rd1_s ?_ | refine drew_a fun w1 H1 => ?_ | refine st_a fun w1 H1 => ?_ | refine stA_a fun w1 H1 => ?_ | refine lenT_a ?_ | refine lenO_a ?_ | refine ixT_a ?_ | refine ixO_a ?_ | fail)
      try unfold F51_j7 F51_j9
      repeat (first | simp only [cI_enc, cE_enc, cN_enc, W0] | refine lss_a ?_ | refine lss_b ?_ | refine gtr_a ?_ | refine gtr_b ?_ | refine geq_a ?_ | refine geq_b ?_ | refine leq_a ?_ | refine leq_b ?_ | refine eql_a ?_ | refine eql_b ?_ | refine neq_a ?_ | refine neq_b ?_ | refine add_a ?_ | refine sub_a ?_ | refine ld_a ?_ | refine ldA_a ?_ | refine ldS_a ?_ | refine ldNS_a ?_ | refine rdA_s ?_ | refine rd1_s ?_ | refine drew_a fun w1 H1 => ?_ | refine st_a fun w1 H1 => ?_ | refine stA_a fun w1 H1 => ?_ | refine lenT_a ?_ | refine lenO_a ?_ | refine ixT_a ?_ | refine ixO_a ?_ | fail)
      refine ixN_t (C := cN) he.tr (by assumption) csub hx (by decide) ?_
      rw [hv]
      repeat (first | simp only [cI_enc, cE_enc, cN_enc, W0] | refine lss_a ?_ | refine lss_b ?_ | refine gtr_a ?_ | refine gtr_b ?_ | refine geq_a ?_ | refine geq_b ?_ | refine leq_a ?_ | refine leq_b ?_ | refine eql_a ?_ | refine eql_b ?_ | refine neq_a ?_ | refine neq_b ?_ | refine add_a ?_ | refine sub_a ?_ | refine ld_a ?_ | refine ldA_a ?_ | refine ldS_a ?_ | refine ldNS_a ?_ | refine rdA_s ?_ | refine rd1_s ?_ | refine drew_a fun w1 H1 => ?_ | refine st_a fun w1 H1 => ?_ | refine stA_a fun w1 H1 => ?_ | refine lenT_a ?_ | refine lenO_a ?_ | refine ixT_a ?_ | refine ixO_a ?_ | fail)
      refine pv_of (neE _ _ _ _) ?_
      by_cases hc : ofN y = e
      · rw [if_pos hc, List.append_nil] at hy
        rw [decide_eq_false (by rw [← hc]; simp)]
        repeat (first | simp only [cI_enc, cE_enc, cN_enc, W0] | refine lss_a ?_ | refine lss_b ?_ | refine gtr_a ?_ | refine gtr_b ?_ | refine geq_a ?_ | refine geq_b ?_ | refine leq_a ?_ | refine leq_b ?_ | refine eql_a ?_ | refine eql_b ?_ | refine neq_a ?_ | refine neq_b ?_ | refine add_a ?_ | refine sub_a ?_ | refine ld_a ?_ | refine ldA_a ?_ | refine ldS_a ?_ | refine ldNS_a ?_ | refine rdA_s ?_ | refine rd1_s ?_ | refine drew_a fun w1 H1 => ?_ | refine st_a fun w1 H1 => ?_ | refine stA_a fun w1 H1 => ?_ | refine lenT_a ?_ | refine lenO_a ?_ | refine ixT_a ?_ | refine ixO_a ?_ | fail)
        try unfold F51_j8
        repeat (first | simp only [cI_enc, cE_enc, cN_enc, W0] | refine lss_a ?_ | refine lss_b ?_ | refine gtr_a ?_ | refine gtr_b ?_ | refine geq_a ?_ | refine geq_b ?_ | refine leq_a ?_ | refine leq_b ?_ | refine eql_a ?_ | refine eql_b ?_ | refine neq_a ?_ | refine neq_b ?_ | refine add_a ?_ | refine sub_a ?_ | refine ld_a ?_ | refine ldA_a ?_ | refine ldS_a ?_ | refine ldNS_a ?_ | refine rdA_s ?_ | refine rd1_s ?_ | refine drew_a fun w1 H1 => ?_ | refine st_a fun w1 H1 => ?_ | refine stA_a fun w1 H1 => ?_ | refine lenT_a ?_ | refine lenO_a ?_ | refine ixT_a ?_ | refine ixO_a ?_ | fail)
        exact hk (m - 1) _ _ _ _ _ (by omega) ⟨i + 1, _, cs, rfl, rfl, rfl, rfl, by omega, by rw [hy]; exact hs, Hp.re (by assumption)⟩
      · rw [if_neg hc] at hy
        rw [decide_eq_true (by rw [Prod.eta, Prod.eta]; exact hc)]
        repeat (first | simp only [cI_enc, cE_enc, cN_enc, W0] | refine lss_a ?_ | refine lss_b ?_ | refine gtr_a ?_ | refine gtr_b ?_ | refine geq_a ?_ | refine geq_b ?_ | refine leq_a ?_ | refine leq_b ?_ | refine eql_a ?_ | refine eql_b ?_ | refine neq_a ?_ | refine neq_b ?_ | refine add_a ?_ | refine sub_a ?_ | refine ld_a ?_ | refine ldA_a ?_ | refine ldS_a ?_ | refine ldNS_a ?_ | refine rdA_s ?_ | refine rd1_s ?_ | refine drew_a fun w1 H1 => ?_ | refine st_a fun w1 H1 => ?_ | refine stA_a fun w1 H1 => ?_ | refine lenT_a ?_ | refine lenO_a ?_ | refine ixT_a ?_ | refine ixO_a ?_ | fail)
        refine ixN_t (C := cN) he.tr (by assumption) csub hx (by decide) ?_
        refine app1_t (C := cN) (x := y) elN (by assumption) hs spl rfl (by decide) (by omega) (by omega) fun w s' cs' H hs' => ?_
        rw [← hy] at hs'
        try unfold F51_j8
        repeat (first | simp only [cI_enc, cE_enc, cN_enc, W0] | refine lss_a ?_ | refine lss_b ?_ | refine gtr_a ?_ | refine gtr_b ?_ | refine geq_a ?_ | refine geq_b ?_ | refine leq_a ?_ | refine leq_b ?_ | refine eql_a ?_ | refine eql_b ?_ | refine neq_a ?_ | refine neq_b ?_ | refine add_a ?_ | refine sub_a ?_ | refine ld_a ?_ | refine ldA_a ?_ | refine ldS_a ?_ | refine ldNS_a ?_ | refine rdA_s ?_ | refine rd1_s ?_ | refine drew_a fun w1 H1 => ?_ | refine st_a fun w1 H1 => ?_ | refine stA_a fun w1 H1 => ?_ | refine lenT_a ?_ | refine lenO_a ?_ | refine ixT_a ?_ | refine ixO_a ?_ | fail)
        exact hk (m - 1) _ _ _ _ _ (by omega) ⟨i + 1, s', cs', rfl, rfl, rfl, rfl, by omega, hs', Hp.re (by assumption)⟩
theorem rset_spec {t p : Int} (hS : St base E) (hio : IsEff base E eff) (hT : RTr br base E eff C) (H : Hp w0 w (C ++ L)) :
    Calls Pg 53 ⟨[ptr br 0, I t, I p]⟩ w (OpQ 104 (RTr br) (setC base t p) base E eff (base.set t.toNat p) E w0 L) := by
  have hT0 := hT
  obtain ⟨sb, se, cb, ce, rfl, hb, he⟩ := hT
  have H : Hp w0 w (⟨br, 90, [sb, se]⟩ :: (cb ++ (ce ++ L))) := H.re
  have q1 := hb.sc
  have q2 := he.sc
  have hel := hS.el
  have hbl := hS.len
  have bad : ∀ {w : World} {c : Int}, setC base t p = c → c ≠ 0 → Hp w0 w (⟨br, 90, [sb, se]⟩ :: (cb ++ (ce ++ L))) →
      OpQ 104 (RTr br) (setC base t p) base E eff (base.set t.toNat p) E w0 L (.returned (.tuple ⟨[.slice none 0 0, I c]⟩)) w := by
    intro w c hc h0 H
    exact .inl ⟨by omega, by rw [hc], _, hT0, Hp.re (by assumption)⟩
  apply F53_calls
  unfold F53
  repeat (first | simp only [cI_enc, cE_enc, cN_enc, W0] | refine lss_a ?_ | refine lss_b ?_ | refine gtr_a ?_ | refine gtr_b ?_ | refine geq_a ?_ | refine geq_b ?_ | refine leq_a ?_ | refine leq_b ?_ | refine eql_a ?_ | refine eql_b ?_ | refine neq_a ?_ | refine neq_b ?_ | refine add_a ?_ | refine sub_a ?_ | refine ld_a ?_ | refine ldA_a ?_ | refine ldS_a ?_ | refine ldNS_a ?_ | refine rdA_s ?_ | refine rd1_s ?_ | refine drew_a fun w1 H1 => ?_ | refine st_a fun w1 H1 => ?_ | refine stA_a fun w1 H1 => ?_ | refine lenT_a ?_ | refine lenO_a ?_ | refine ixT_a ?_ | refine ixO_a ?_ | fail)
  try unfold F53_j1 F53_j3
  repeat (first | simp only [cI_enc, cE_enc, cN_enc, W0] | refine lss_a ?_ | refine lss_b ?_ | refine gtr_a ?_ | refine gtr_b ?_ | refine geq_a ?_ | refine geq_b ?_ | refine leq_a ?_ | refine leq_b ?_ | refine eql_a ?_ | refine eql_b ?_ | refine neq_a ?_ | refine neq_b ?_ | refine add_a ?_ | refine sub_a ?_ | refine ld_a ?_ | refine ldA_a ?_ | refine ldS_a ?_ | refine ldNS_a ?_ | refine rdA_s ?_ | refine rd1_s ?_ | refine drew_a fun w1 H1 => ?_ | refine st_a fun w1 H1 => ?_ | refine stA_a fun w1 H1 => ?_ | refine lenT_a ?_ | refine lenO_a ?_ | refine ixT_a ?_ | refine ixO_a ?_ | fail)
  refine cal_h (thread_spec hb.tr q2 (by assumption)) ?_
  rintro _ w ⟨rfl, H⟩
  cases g1 : inR base.length t with
  | false =>
    repeat (first | simp only [cI_enc, cE_enc, cN_enc, W0] | refine lss_a ?_ | refine lss_b ?_ | refine gtr_a ?_ | refine gtr_b ?_ | refine geq_a ?_ | refine geq_b ?_ | refine leq_a ?_ | refine leq_b ?_ | refine eql_a ?_ | refine eql_b ?_ | refine neq_a ?_ | refine neq_b ?_ | refine add_a ?_ | refine sub_a ?_ | refine ld_a ?_ | refine ldA_a ?_ | refine ldS_a ?_ | refine ldNS_a ?_ | refine rdA_s ?_ | refine rd1_s ?_ | refine drew_a fun w1 H1 => ?_ | refine st_a fun w1 H1 => ?_ | refine stA_a fun w1 H1 => ?_ | refine lenT_a ?_ | refine lenO_a ?_ | refine ixT_a ?_ | refine ixO_a ?_ | fail)
    exact bad (by unfold setC; rw [if_neg (by simp [g1])]) (by decide) (by assumption)
  | true =>
    by_cases g2 : 0 ≤ p
    rotate_left
    · repeat (first | simp only [cI_enc, cE_enc, cN_enc, W0] | refine lss_a ?_ | refine lss_b ?_ | refine gtr_a ?_ | refine gtr_b ?_ | refine geq_a ?_ | refine geq_b ?_ | refine leq_a ?_ | refine leq_b ?_ | refine eql_a ?_ | refine eql_b ?_ | refine neq_a ?_ | refine neq_b ?_ | refine add_a ?_ | refine sub_a ?_ | refine ld_a ?_ | refine ldA_a ?_ | refine ldS_a ?_ | refine ldNS_a ?_ | refine rdA_s ?_ | refine rd1_s ?_ | refine drew_a fun w1 H1 => ?_ | refine st_a fun w1 H1 => ?_ | refine stA_a fun w1 H1 => ?_ | refine lenT_a ?_ | refine lenO_a ?_ | refine ixT_a ?_ | refine ixO_a ?_ | fail)
      exact bad (by unfold setC; rw [if_neg (fun h => g2 h.2.1)]) (by decide) (by assumption)
    by_cases g3 : p ≤ 255
    rotate_left
    · repeat (first | simp only [cI_enc, cE_enc, cN_enc, W0] | refine lss_a ?_ | refine lss_b ?_ | refine gtr_a ?_ | refine gtr_b ?_ | refine geq_a ?_ | refine geq_b ?_ | refine leq_a ?_ | refine leq_b ?_ | refine eql_a ?_ | refine eql_b ?_ | refine neq_a ?_ | refine neq_b ?_ | refine add_a ?_ | refine sub_a ?_ | refine ld_a ?_ | refine ldA_a ?_ | refine ldS_a ?_ | refine ldNS_a ?_ | refine rdA_s ?_ | refine rd1_s ?_ | refine drew_a fun w1 H1 => ?_ | refine st_a fun w1 H1 => ?_ | refine stA_a fun w1 H1 => ?_ | refine lenT_a ?_ | refine lenO_a ?_ | refine ixT_a ?_ | refine ixO_a ?_ | fail)
      exact bad (by unfold setC; rw [if_neg (fun h => g3 h.2.2)]) (by decide) (by assumption)
    have c0 : setC base t p = 0 := by unfold setC; rw [if_pos ⟨g1, g2, g3⟩]
    have hin := g1
    rw [inR, decide_eq_true_eq] at hin
    obtain ⟨i, rfl⟩ : ∃ i : Nat, t = i := ⟨t.toNat, by omega⟩
    rw [c0]
    simp only [Int.toNat_natCast]
    have hS' := hS.set (i := i) ⟨g2, g3⟩
    repeat (first | simp only [cI_enc, cE_enc, cN_enc, W0] | refine lss_a ?_ | refine lss_b ?_ | refine gtr_a ?_ | refine gtr_b ?_ | refine geq_a ?_ | refine geq_b ?_ | refine leq_a ?_ | refine leq_b ?_ | refine eql_a ?_ | refine eql_b ?_ | refine neq_a ?_ | refine neq_b ?_ | refine add_a ?_ | refine sub_a ?_ | refine ld_a ?_ | refine ldA_a ?_ | refine ldS_a ?_ | refine ldNS_a ?_ | refine rdA_s ?_ | refine rd1_s ?_ | refine drew_a fun w1 H1 => ?_ | refine st_a fun w1 H1 => ?_ | refine stA_a fun w1 H1 => ?_ | refine lenT_a ?_ | refine lenO_a ?_ | refine ixT_a ?_ | refine ixO_a ?_ | fail)
    try unfold F53_j2
    refine lit0_t (C := cI) elI (by assumption) fun w s H h10 => ?_
    repeat (first | simp only [cI_enc, cE_enc, cN_enc, W0] | refine lss_a ?_ | refine lss_b ?_ | refine gtr_a ?_ | refine gtr_b ?_ | refine geq_a ?_ | refine geq_b ?_ | refine leq_a ?_ | refine leq_b ?_ | refine eql_a ?_ | refine eql_b ?_ | refine neq_a ?_ | refine neq_b ?_ | refine add_a ?_ | refine sub_a ?_ | refine ld_a ?_ | refine ldA_a ?_ | refine ldS_a ?_ | refine ldNS_a ?_ | refine rdA_s ?_ | refine rd1_s ?_ | refine drew_a fun w1 H1 => ?_ | refine st_a fun w1 H1 => ?_ | refine stA_a fun w1 H1 => ?_ | refine lenT_a ?_ | refine lenO_a ?_ | refine ixT_a ?_ | refine ixO_a ?_ | fail)
    refine append_t (C := cI) elI (by assumption) h10 Split.nil hb.tr csub (by simp; omega) (by simp; omega) fun w s1 c1 H h1 => ?_
    rw [List.nil_append] at h1
    refine ist1_t (C := cI) (x := p) h1 (by assumption) spl (by omega) rfl rfl fun w c2 H h2 => ?_
    have q3 := h2.sc
    repeat (first | simp only [cI_enc, cE_enc, cN_enc, W0] | refine lss_a ?_ | refine lss_b ?_ | refine gtr_a ?_ | refine gtr_b ?_ | refine geq_a ?_ | refine geq_b ?_ | refine leq_a ?_ | refine leq_b ?_ | refine eql_a ?_ | refine eql_b ?_ | refine neq_a ?_ | refine neq_b ?_ | refine add_a ?_ | refine sub_a ?_ | refine ld_a ?_ | refine ldA_a ?_ | refine ldS_a ?_ | refine ldNS_a ?_ | refine rdA_s ?_ | refine rd1_s ?_ | refine drew_a fun w1 H1 => ?_ | refine st_a fun w1 H1 => ?_ | refine stA_a fun w1 H1 => ?_ | refine lenT_a ?_ | refine lenO_a ?_ | refine ixT_a ?_ | refine ixO_a ?_ | fail)
    refine pv_of (bld2 q3 q2) ?_
    exact put_fin (L' := c2 ++ (cb ++ (ce ++ L))) hb he h2 he csub csub csub csub hS hS' hio (by simp) (Hp.re (by assumption)) (fun f => by simp only [List.map_append, List.map_cons, List.sum_append, List.sum_cons]; omega)
end
end Go.Proofs.Ytagcifbfokneoaa.Den
end
