/- Inherit: the law Agrees. Conditions: none. -/
import Derived.Test.YtagcifbfokneoaaIhAa
set_option linter.unusedVariables false
set_option linter.unusedSimpArgs false
set_option maxRecDepth 8000
set_option maxHeartbeats 1000000
namespace Go.Proofs.Ytagcifbfokneoaa.Den
open Go Go.RowKit
theorem rem6' (n : Nat) : bin .rem (.int .u8 (n : Int)) (.int .u8 6) = some (.int .u8 ((n % 6 : Nat) : Int)) := by
  rw [bin_rem (by decide)]; rfl
section
variable {w w' w0 : World} {L L' F cs cs2 cs3 cb ce C : List Chunk} {s s2 sb se sd : Value} {K : VK} {R : ER} {base base' eff : List Int} {E E' : List (Nat × Nat)} {es : List (Int × Int)} {bt el : Nat} {code : Int} {acts : List AV} {a : AV}
theorem agr_j8 {k1 : V4} {x1 : Value} {base0 : List Int} {i : Nat} (h0 : TR cI w0 cs s base0) (m1 : ∀ c ∈ cs, c ∈ L) (ha : TR cA w0 cs2 x1 acts) (m2 : ∀ c ∈ cs2, c ∈ L) (hx : acts[i]? = some a) (he : TR cE w0 cs3 a.s es) (m3 : ∀ c ∈ cs3, c ∈ L)
    (hS : St base E) (hio : IsEff base E eff) (hlen : base.length = base0.length) (hT : PTr bt base E eff C) (H : Hp w0 w (C ++ L)) (hil : i < 1000)
    (hk : ∀ base2 E2 eff2 C2 w, St base2 E2 → IsEff base2 E2 eff2 → base2.length = base0.length → PTr bt base2 E2 eff2 C2 → Hp w0 w (C2 ++ L) → k1 s x1 (ptr bt 0) (I ((i : Int) + 1)) w) :
    F10_j8 (fun x w' => x = .returned (.bool true) ∧ Hp w0 w' L) k1 s x1 (ptr bt 0) (I i) w := by
  have hel := hio.len
  have nx : ∀ {w : World} {b : Nat} {e : Ending} {code : Int} {base' : List Int} {E' : List (Nat × Nat)}, OpQ 103 (PTr bt) code base E eff base' E' w0 (⟨b, 46, [.int .u8 (a.d : Int), I a.t, I a.p, a.s]⟩ :: L) e w → (code = 0 → St base' E') → base'.length = base.length →
      retK (fun x w' => x = .returned (.bool true) ∧ Hp w0 w' L) (fun _ => F10_j9 (fun x w' => x = .returned (.bool true) ∧ Hp w0 w' L) k1 s x1 (ptr bt 0) (I i)) e w := by
    intro w b e code base' E' h g1 g2
    obtain ⟨v, base2, E2, eff2, C2, rfl, hS2, hio2, hl2, hT2, H⟩ := h.some hio hS g1 g2
    rw [ret_k]
    exact agr_j9 h0 m1 hS2 hio2 (by omega) hT2 (Hp.to H (by intro f; simp only [tag_lit, I, U8, U64, ptr, List.set_cons_zero, List.set_cons_succ, List.eraseIdx_cons_zero, List.eraseIdx_cons_succ, List.map_append, List.map_cons, List.map_nil, List.sum_append, List.sum_cons, List.sum_nil]; omega)) hil fun w H => hk _ _ _ _ w hS2 hio2 (by omega) hT2 H
  unfold F10_j8
  refine ixN_t (C := cA) ha H csub hx (by decide) ?_
  refine al_m (ys := [.int .u8 0, I 0, I 0, .slice none 0 0]) (by assumption) (by kernel_rfl) fun w b H => ?_
  have q := a.ok
  rw [show cA.enc a = [.int .u8 (a.d : Int), I a.t, I a.p, a.s] from rfl]
  repeat (first | simp only [cI_enc, cE_enc, cN_enc, W0] | refine lss_a ?_ | refine lss_b ?_ | refine gtr_a ?_ | refine gtr_b ?_ | refine geq_a ?_ | refine geq_b ?_ | refine leq_a ?_ | refine leq_b ?_ | refine eql_a ?_ | refine eql_b ?_ | refine neq_a ?_ | refine neq_b ?_ | refine add_a ?_ | refine sub_a ?_ | refine ld_a ?_ | refine ldA_a ?_ | refine ldS_a ?_ | refine ldNS_a ?_ | refine rdA_s ?_ | refine rd1_s ?_ | refine drew_a fun w1 H1 => ?_ | refine st_a fun w1 H1 => ?_ | refine stA_a fun w1 H1 => ?_ | refine lenT_a ?_ | refine lenO_a ?_ | refine ixT_a ?_ | refine ixO_a ?_ | fail)
  try unfold F10_j13
  repeat (first | simp only [cI_enc, cE_enc, cN_enc, W0] | refine lss_a ?_ | refine lss_b ?_ | refine gtr_a ?_ | refine gtr_b ?_ | refine geq_a ?_ | refine geq_b ?_ | refine leq_a ?_ | refine leq_b ?_ | refine eql_a ?_ | refine eql_b ?_ | refine neq_a ?_ | refine neq_b ?_ | refine add_a ?_ | refine sub_a ?_ | refine ld_a ?_ | refine ldA_a ?_ | refine ldS_a ?_ | refine ldNS_a ?_ | refine rdA_s ?_ | refine rd1_s ?_ | refine drew_a fun w1 H1 => ?_ | refine st_a fun w1 H1 => ?_ | refine stA_a fun w1 H1 => ?_ | refine lenT_a ?_ | refine lenO_a ?_ | refine ixT_a ?_ | refine ixO_a ?_ | fail)
  refine pv_of (rem6' a.d) ?_
  have r6 : a.d % 6 < 6 := Nat.mod_lt _ (by omega)
  generalize a.d % 6 = r at r6
  try unfold F10_j14
  by_cases e2 : r = 2
  · repeat (first | simp only [cI_enc, cE_enc, cN_enc, W0] | refine lss_a ?_ | refine lss_b ?_ | refine gtr_a ?_ | refine gtr_b ?_ | refine geq_a ?_ | refine geq_b ?_ | refine leq_a ?_ | refine leq_b ?_ | refine eql_a ?_ | refine eql_b ?_ | refine neq_a ?_ | refine neq_b ?_ | refine add_a ?_ | refine sub_a ?_ | refine ld_a ?_ | refine ldA_a ?_ | refine ldS_a ?_ | refine ldNS_a ?_ | refine rdA_s ?_ | refine rd1_s ?_ | refine drew_a fun w1 H1 => ?_ | refine st_a fun w1 H1 => ?_ | refine stA_a fun w1 H1 => ?_ | refine lenT_a ?_ | refine lenO_a ?_ | refine ixT_a ?_ | refine ixO_a ?_ | fail)
    try unfold F10_j15
    repeat (first | simp only [cI_enc, cE_enc, cN_enc, W0] | refine lss_a ?_ | refine lss_b ?_ | refine gtr_a ?_ | refine gtr_b ?_ | refine geq_a ?_ | refine geq_b ?_ | refine leq_a ?_ | refine leq_b ?_ | refine eql_a ?_ | refine eql_b ?_ | refine neq_a ?_ | refine neq_b ?_ | refine add_a ?_ | refine sub_a ?_ | refine ld_a ?_ | refine ldA_a ?_ | refine ldS_a ?_ | refine ldNS_a ?_ | refine rdA_s ?_ | refine rd1_s ?_ | refine drew_a fun w1 H1 => ?_ | refine st_a fun w1 H1 => ?_ | refine stA_a fun w1 H1 => ?_ | refine lenT_a ?_ | refine lenO_a ?_ | refine ixT_a ?_ | refine ixO_a ?_ | fail)
    refine pv_of bld2v ?_
    refine cal_h (rem_spec (e := (a.t, a.p)) (L := ⟨b, 46, [.int .u8 (a.d : Int), I a.t, I a.p, a.s]⟩ :: L) hS hel hT (Hp.re (by assumption))) ?_
    intro e w h
    exact nx h (fun _ => hS.rem) rfl
  repeat (first | simp only [cI_enc, cE_enc, cN_enc, W0] | refine lss_a ?_ | refine lss_b ?_ | refine gtr_a ?_ | refine gtr_b ?_ | refine geq_a ?_ | refine geq_b ?_ | refine leq_a ?_ | refine leq_b ?_ | refine eql_a ?_ | refine eql_b ?_ | refine neq_a ?_ | refine neq_b ?_ | refine add_a ?_ | refine sub_a ?_ | refine ld_a ?_ | refine ldA_a ?_ | refine ldS_a ?_ | refine ldNS_a ?_ | refine rdA_s ?_ | refine rd1_s ?_ | refine drew_a fun w1 H1 => ?_ | refine st_a fun w1 H1 => ?_ | refine stA_a fun w1 H1 => ?_ | refine lenT_a ?_ | refine lenO_a ?_ | refine ixT_a ?_ | refine ixO_a ?_ | fail)
  try unfold F10_j15
  repeat (first | simp only [cI_enc, cE_enc, cN_enc, W0] | refine lss_a ?_ | refine lss_b ?_ | refine gtr_a ?_ | refine gtr_b ?_ | refine geq_a ?_ | refine geq_b ?_ | refine leq_a ?_ | refine leq_b ?_ | refine eql_a ?_ | refine eql_b ?_ | refine neq_a ?_ | refine neq_b ?_ | refine add_a ?_ | refine sub_a ?_ | refine ld_a ?_ | refine ldA_a ?_ | refine ldS_a ?_ | refine ldNS_a ?_ | refine rdA_s ?_ | refine rd1_s ?_ | refine drew_a fun w1 H1 => ?_ | refine st_a fun w1 H1 => ?_ | refine stA_a fun w1 H1 => ?_ | refine lenT_a ?_ | refine lenO_a ?_ | refine ixT_a ?_ | refine ixO_a ?_ | fail)
  try unfold F10_j16
  by_cases e3 : r = 3
  · repeat (first | simp only [cI_enc, cE_enc, cN_enc, W0] | refine lss_a ?_ | refine lss_b ?_ | refine gtr_a ?_ | refine gtr_b ?_ | refine geq_a ?_ | refine geq_b ?_ | refine leq_a ?_ | refine leq_b ?_ | refine eql_a ?_ | refine eql_b ?_ | refine neq_a ?_ | refine neq_b ?_ | refine add_a ?_ | refine sub_a ?_ | refine ld_a ?_ | refine ldA_a ?_ | refine ldS_a ?_ | refine ldNS_a ?_ | refine rdA_s ?_ | refine rd1_s ?_ | refine drew_a fun w1 H1 => ?_ | refine st_a fun w1 H1 => ?_ | refine stA_a fun w1 H1 => ?_ | refine lenT_a ?_ | refine lenO_a ?_ | refine ixT_a ?_ | refine ixO_a ?_ | fail)
    try unfold F10_j17
    repeat (first | simp only [cI_enc, cE_enc, cN_enc, W0] | refine lss_a ?_ | refine lss_b ?_ | refine gtr_a ?_ | refine gtr_b ?_ | refine geq_a ?_ | refine geq_b ?_ | refine leq_a ?_ | refine leq_b ?_ | refine eql_a ?_ | refine eql_b ?_ | refine neq_a ?_ | refine neq_b ?_ | refine add_a ?_ | refine sub_a ?_ | refine ld_a ?_ | refine ldA_a ?_ | refine ldS_a ?_ | refine ldNS_a ?_ | refine rdA_s ?_ | refine rd1_s ?_ | refine drew_a fun w1 H1 => ?_ | refine st_a fun w1 H1 => ?_ | refine stA_a fun w1 H1 => ?_ | refine lenT_a ?_ | refine lenO_a ?_ | refine ixT_a ?_ | refine ixO_a ?_ | fail)
    refine cal_h (set_spec (t := a.t) (p := a.p) (L := ⟨b, 46, [.int .u8 (a.d : Int), I a.t, I a.p, a.s]⟩ :: L) hS hel hT (Hp.re (by assumption))) ?_
    intro e w h
    refine nx h (fun h0 => hS.set ?_) (by rw [List.length_set])
    unfold setC at h0
    split at h0
    · rename_i g; exact g.2
    · omega
  repeat (first | simp only [cI_enc, cE_enc, cN_enc, W0] | refine lss_a ?_ | refine lss_b ?_ | refine gtr_a ?_ | refine gtr_b ?_ | refine geq_a ?_ | refine geq_b ?_ | refine leq_a ?_ | refine leq_b ?_ | refine eql_a ?_ | refine eql_b ?_ | refine neq_a ?_ | refine neq_b ?_ | refine add_a ?_ | refine sub_a ?_ | refine ld_a ?_ | refine ldA_a ?_ | refine ldS_a ?_ | refine ldNS_a ?_ | refine rdA_s ?_ | refine rd1_s ?_ | refine drew_a fun w1 H1 => ?_ | refine st_a fun w1 H1 => ?_ | refine stA_a fun w1 H1 => ?_ | refine lenT_a ?_ | refine lenO_a ?_ | refine ixT_a ?_ | refine ixO_a ?_ | fail)
  try unfold F10_j17
  repeat (first | simp only [cI_enc, cE_enc, cN_enc, W0] | refine lss_a ?_ | refine lss_b ?_ | refine gtr_a ?_ | refine gtr_b ?_ | refine geq_a ?_ | refine geq_b ?_ | refine leq_a ?_ | refine leq_b ?_ | refine eql_a ?_ | refine eql_b ?_ | refine neq_a ?_ | refine neq_b ?_ | refine add_a ?_ | refine sub_a ?_ | refine ld_a ?_ | refine ldA_a ?_ | refine ldS_a ?_ | refine ldNS_a ?_ | refine rdA_s ?_ | refine rd1_s ?_ | refine drew_a fun w1 H1 => ?_ | refine st_a fun w1 H1 => ?_ | refine stA_a fun w1 H1 => ?_ | refine lenT_a ?_ | refine lenO_a ?_ | refine ixT_a ?_ | refine ixO_a ?_ | fail)
  try unfold F10_j18
  by_cases e4 : r = 4
  · repeat (first | simp only [cI_enc, cE_enc, cN_enc, W0] | refine lss_a ?_ | refine lss_b ?_ | refine gtr_a ?_ | refine gtr_b ?_ | refine geq_a ?_ | refine geq_b ?_ | refine leq_a ?_ | refine leq_b ?_ | refine eql_a ?_ | refine eql_b ?_ | refine neq_a ?_ | refine neq_b ?_ | refine add_a ?_ | refine sub_a ?_ | refine ld_a ?_ | refine ldA_a ?_ | refine ldS_a ?_ | refine ldNS_a ?_ | refine rdA_s ?_ | refine rd1_s ?_ | refine drew_a fun w1 H1 => ?_ | refine st_a fun w1 H1 => ?_ | refine stA_a fun w1 H1 => ?_ | refine lenT_a ?_ | refine lenO_a ?_ | refine ixT_a ?_ | refine ixO_a ?_ | fail)
    refine cal_h (rpl_spec (L := ⟨b, 46, [.int .u8 (a.d : Int), I a.t, I a.p, a.s]⟩ :: L) hS he (by intro c hc; simp [m3 c hc]) hel hT (Hp.re (by assumption))) ?_
    intro e w h
    exact nx h (fun h0 => St.of h0) rfl
  repeat (first | simp only [cI_enc, cE_enc, cN_enc, W0] | refine lss_a ?_ | refine lss_b ?_ | refine gtr_a ?_ | refine gtr_b ?_ | refine geq_a ?_ | refine geq_b ?_ | refine leq_a ?_ | refine leq_b ?_ | refine eql_a ?_ | refine eql_b ?_ | refine neq_a ?_ | refine neq_b ?_ | refine add_a ?_ | refine sub_a ?_ | refine ld_a ?_ | refine ldA_a ?_ | refine ldS_a ?_ | refine ldNS_a ?_ | refine rdA_s ?_ | refine rd1_s ?_ | refine drew_a fun w1 H1 => ?_ | refine st_a fun w1 H1 => ?_ | refine stA_a fun w1 H1 => ?_ | refine lenT_a ?_ | refine lenO_a ?_ | refine ixT_a ?_ | refine ixO_a ?_ | fail)
  refine pv_of bld2v ?_
  refine cal_h (add_spec (e := (a.t, a.p)) (L := ⟨b, 46, [.int .u8 (a.d : Int), I a.t, I a.p, a.s]⟩ :: L) hS hel hT (Hp.re (by assumption))) ?_
  intro e w h
  refine nx h (fun h0 => ?_) rfl
  unfold addC at h0
  split at h0
  · omega
  · rename_i g1
    split at h0
    · omega
    · rename_i g2
      split at h0
      · omega
      · rename_i g3
        have g1 := Classical.not_not.1 g1
        exact hS.add g1.1 g1.2 g2 (by omega)
theorem Agrees_law {x1 : Value} {base0 : List Int} (h0 : TR cI w0 cs s base0) (m1 : ∀ c ∈ cs, c ∈ L) (ha : TR cA w0 cs2 x1 acts) (m2 : ∀ c ∈ cs2, c ∈ L) (hes : ∀ a ∈ acts, ∃ es, TR cE w0 [] a.s es) (H : Hp w0 w L) :
    Calls Pg 10 ⟨[s, x1]⟩ w fun x w' => x = .returned (.bool true) ∧ Hp w0 w' L := by
  apply F10_calls
  unfold F10
  refine cal_h (New_spec h0 H m1) ?_
  rintro _ w (⟨hc, rfl, H⟩ | ⟨hc, bt, C, rfl, hT, H⟩)
  · by_cases g1 : 30 < base0.length
    · repeat (first | simp only [cI_enc, cE_enc, cN_enc, W0] | refine lss_a ?_ | refine lss_b ?_ | refine gtr_a ?_ | refine gtr_b ?_ | refine geq_a ?_ | refine geq_b ?_ | refine leq_a ?_ | refine leq_b ?_ | refine eql_a ?_ | refine eql_b ?_ | refine neq_a ?_ | refine neq_b ?_ | refine add_a ?_ | refine sub_a ?_ | refine ld_a ?_ | refine ldA_a ?_ | refine ldS_a ?_ | refine ldNS_a ?_ | refine rdA_s ?_ | refine rd1_s ?_ | refine drew_a fun w1 H1 => ?_ | refine st_a fun w1 H1 => ?_ | refine stA_a fun w1 H1 => ?_ | refine lenT_a ?_ | refine lenO_a ?_ | refine ixT_a ?_ | refine ixO_a ?_ | fail)
      refine cal_h (awake_spec (by assumption)) ?_
      rintro _ w ⟨rfl, H⟩
      exact ⟨rfl, H⟩
    · by_cases g2 : 40 < acts.length
      · repeat (first | simp only [cI_enc, cE_enc, cN_enc, W0] | refine lss_a ?_ | refine lss_b ?_ | refine gtr_a ?_ | refine gtr_b ?_ | refine geq_a ?_ | refine geq_b ?_ | refine leq_a ?_ | refine leq_b ?_ | refine eql_a ?_ | refine eql_b ?_ | refine neq_a ?_ | refine neq_b ?_ | refine add_a ?_ | refine sub_a ?_ | refine ld_a ?_ | refine ldA_a ?_ | refine ldS_a ?_ | refine ldNS_a ?_ | refine rdA_s ?_ | refine rd1_s ?_ | refine drew_a fun w1 H1 => ?_ | refine st_a fun w1 H1 => ?_ | refine stA_a fun w1 H1 => ?_ | refine lenT_a ?_ | refine lenO_a ?_ | refine ixT_a ?_ | refine ixO_a ?_ | fail)
        refine cal_h (awake_spec (by assumption)) ?_
        rintro _ w ⟨rfl, H⟩
        exact ⟨rfl, H⟩
      · repeat (first | simp only [cI_enc, cE_enc, cN_enc, W0] | refine lss_a ?_ | refine lss_b ?_ | refine gtr_a ?_ | refine gtr_b ?_ | refine geq_a ?_ | refine geq_b ?_ | refine leq_a ?_ | refine leq_b ?_ | refine eql_a ?_ | refine eql_b ?_ | refine neq_a ?_ | refine neq_b ?_ | refine add_a ?_ | refine sub_a ?_ | refine ld_a ?_ | refine ldA_a ?_ | refine ldS_a ?_ | refine ldNS_a ?_ | refine rdA_s ?_ | refine rd1_s ?_ | refine drew_a fun w1 H1 => ?_ | refine st_a fun w1 H1 => ?_ | refine stA_a fun w1 H1 => ?_ | refine lenT_a ?_ | refine lenO_a ?_ | refine ixT_a ?_ | refine ixO_a ?_ | fail)
        refine cal_h (awake_spec (by assumption)) ?_
        rintro _ w ⟨rfl, H⟩
        exact ⟨rfl, H⟩
  have aw : ∀ {w : World}, Hp w0 w (C ++ L) → cal Pg (fun x w' => x = .returned (.bool true) ∧ Hp w0 w' L) 12 ⟨[]⟩ (fun v82 => fun w' => Ending.returned v82 = .returned (.bool true) ∧ Hp w0 w' L) w := by
    intro w H
    refine cal_h (awake_spec H) ?_
    rintro _ w ⟨rfl, H⟩
    exact ⟨rfl, Hp.to H (by intro f; simp only [tag_lit, I, U8, U64, ptr, List.set_cons_zero, List.set_cons_succ, List.eraseIdx_cons_zero, List.eraseIdx_cons_succ, List.map_append, List.map_cons, List.map_nil, List.sum_append, List.sum_cons, List.sum_nil]; omega)⟩
  by_cases g1 : 30 < base0.length
  · repeat (first | simp only [cI_enc, cE_enc, cN_enc, W0] | refine lss_a ?_ | refine lss_b ?_ | refine gtr_a ?_ | refine gtr_b ?_ | refine geq_a ?_ | refine geq_b ?_ | refine leq_a ?_ | refine leq_b ?_ | refine eql_a ?_ | refine eql_b ?_ | refine neq_a ?_ | refine neq_b ?_ | refine add_a ?_ | refine sub_a ?_ | refine ld_a ?_ | refine ldA_a ?_ | refine ldS_a ?_ | refine ldNS_a ?_ | refine rdA_s ?_ | refine rd1_s ?_ | refine drew_a fun w1 H1 => ?_ | refine st_a fun w1 H1 => ?_ | refine stA_a fun w1 H1 => ?_ | refine lenT_a ?_ | refine lenO_a ?_ | refine ixT_a ?_ | refine ixO_a ?_ | fail)
    exact aw (by assumption)
  by_cases g2 : 40 < acts.length
  · repeat (first | simp only [cI_enc, cE_enc, cN_enc, W0] | refine lss_a ?_ | refine lss_b ?_ | refine gtr_a ?_ | refine gtr_b ?_ | refine geq_a ?_ | refine geq_b ?_ | refine leq_a ?_ | refine leq_b ?_ | refine eql_a ?_ | refine eql_b ?_ | refine neq_a ?_ | refine neq_b ?_ | refine add_a ?_ | refine sub_a ?_ | refine ld_a ?_ | refine ldA_a ?_ | refine ldS_a ?_ | refine ldNS_a ?_ | refine rdA_s ?_ | refine rd1_s ?_ | refine drew_a fun w1 H1 => ?_ | refine st_a fun w1 H1 => ?_ | refine stA_a fun w1 H1 => ?_ | refine lenT_a ?_ | refine lenO_a ?_ | refine ixT_a ?_ | refine ixO_a ?_ | fail)
    exact aw (by assumption)
  repeat (first | simp only [cI_enc, cE_enc, cN_enc, W0] | refine lss_a ?_ | refine lss_b ?_ | refine gtr_a ?_ | refine gtr_b ?_ | refine geq_a ?_ | refine geq_b ?_ | refine leq_a ?_ | refine leq_b ?_ | refine eql_a ?_ | refine eql_b ?_ | refine neq_a ?_ | refine neq_b ?_ | refine add_a ?_ | refine sub_a ?_ | refine ld_a ?_ | refine ldA_a ?_ | refine ldS_a ?_ | refine ldNS_a ?_ | refine rdA_s ?_ | refine rd1_s ?_ | refine drew_a fun w1 H1 => ?_ | refine st_a fun w1 H1 => ?_ | refine stA_a fun w1 H1 => ?_ | refine lenT_a ?_ | refine lenO_a ?_ | refine ixT_a ?_ | refine ixO_a ?_ | fail)
  try unfold F10_j1 F10_j3 F10_j4
  have hS0 : St base0 [] := St.of (es := []) hc
  refine loop4 (F10_l2_succ _) (fun m x0 x1' x5 x7 w => ∃ (i : Nat) (base : List Int) (E : List (Nat × Nat)) (eff : List Int) (C : List Chunk), x0 = s ∧ x1' = x1 ∧ x5 = ptr bt 0 ∧ x7 = I i ∧ m + i = acts.length ∧ St base E ∧ IsEff base E eff ∧ base.length = base0.length ∧ PTr bt base E eff C ∧ Hp w0 w (C ++ L)) ?_ (m := acts.length)
    ⟨0, base0, [], base0, C, rfl, rfl, rfl, rfl, by omega, hS0, ⟨rfl, fun _ _ => Int.le_refl _, by simp, fun i hi => ⟨i, hi, .refl _, rfl⟩⟩, rfl, hT, by assumption⟩
  clear hT H aw
  rintro m k x0 x1' x5 x7 w ⟨i, base, E, eff, C, rfl, rfl, rfl, rfl, hm, hS, hio, hlen, hT, H⟩ hk
  unfold F10_b1
  by_cases hi : i < acts.length
  rotate_left
  · repeat (first | simp only [cI_enc, cE_enc, cN_enc, W0] | refine lss_a ?_ | refine lss_b ?_ | refine gtr_a ?_ | refine gtr_b ?_ | refine geq_a ?_ | refine geq_b ?_ | refine leq_a ?_ | refine leq_b ?_ | refine eql_a ?_ | refine eql_b ?_ | refine neq_a ?_ | refine neq_b ?_ | refine add_a ?_ | refine sub_a ?_ | refine ld_a ?_ | refine ldA_a ?_ | refine ldS_a ?_ | refine ldNS_a ?_ | refine rdA_s ?_ | refine rd1_s ?_ | refine drew_a fun w1 H1 => ?_ | refine st_a fun w1 H1 => ?_ | refine stA_a fun w1 H1 => ?_ | refine lenT_a ?_ | refine lenO_a ?_ | refine ixT_a ?_ | refine ixO_a ?_ | fail)
    try unfold F10_j2
    refine cal_h (awake_spec (by assumption)) ?_
    rintro _ w ⟨rfl, H⟩
    exact ⟨rfl, Hp.re (by assumption)⟩
  have hx : acts[i]? = some acts[i] := List.getElem?_eq_getElem hi
  obtain ⟨es, he⟩ := hes acts[i] (List.getElem_mem hi)
  generalize acts[i] = a at hx he
  repeat (first | simp only [cI_enc, cE_enc, cN_enc, W0] | refine lss_a ?_ | refine lss_b ?_ | refine gtr_a ?_ | refine gtr_b ?_ | refine geq_a ?_ | refine geq_b ?_ | refine leq_a ?_ | refine leq_b ?_ | refine eql_a ?_ | refine eql_b ?_ | refine neq_a ?_ | refine neq_b ?_ | refine add_a ?_ | refine sub_a ?_ | refine ld_a ?_ | refine ldA_a ?_ | refine ldS_a ?_ | refine ldNS_a ?_ | refine rdA_s ?_ | refine rd1_s ?_ | refine drew_a fun w1 H1 => ?_ | refine st_a fun w1 H1 => ?_ | refine stA_a fun w1 H1 => ?_ | refine lenT_a ?_ | refine lenO_a ?_ | refine ixT_a ?_ | refine ixO_a ?_ | fail)
  try unfold F10_j5 F10_j7
  refine ixF_t (C := cA) (f := 3) (v := a.s) ha (by assumption) csub hx rfl ?_
  by_cases g3 : 60 < es.length
  · repeat (first | simp only [cI_enc, cE_enc, cN_enc, W0] | refine lss_a ?_ | refine lss_b ?_ | refine gtr_a ?_ | refine gtr_b ?_ | refine geq_a ?_ | refine geq_b ?_ | refine leq_a ?_ | refine leq_b ?_ | refine eql_a ?_ | refine eql_b ?_ | refine neq_a ?_ | refine neq_b ?_ | refine add_a ?_ | refine sub_a ?_ | refine ld_a ?_ | refine ldA_a ?_ | refine ldS_a ?_ | refine ldNS_a ?_ | refine rdA_s ?_ | refine rd1_s ?_ | refine drew_a fun w1 H1 => ?_ | refine st_a fun w1 H1 => ?_ | refine stA_a fun w1 H1 => ?_ | refine lenT_a ?_ | refine lenO_a ?_ | refine ixT_a ?_ | refine ixO_a ?_ | fail)
    refine cal_h (awake_spec (by assumption)) ?_
    rintro _ w ⟨rfl, H⟩
    exact ⟨rfl, Hp.re (by assumption)⟩
  repeat (first | simp only [cI_enc, cE_enc, cN_enc, W0] | refine lss_a ?_ | refine lss_b ?_ | refine gtr_a ?_ | refine gtr_b ?_ | refine geq_a ?_ | refine geq_b ?_ | refine leq_a ?_ | refine leq_b ?_ | refine eql_a ?_ | refine eql_b ?_ | refine neq_a ?_ | refine neq_b ?_ | refine add_a ?_ | refine sub_a ?_ | refine ld_a ?_ | refine ldA_a ?_ | refine ldS_a ?_ | refine ldNS_a ?_ | refine rdA_s ?_ | refine rd1_s ?_ | refine drew_a fun w1 H1 => ?_ | refine st_a fun w1 H1 => ?_ | refine stA_a fun w1 H1 => ?_ | refine lenT_a ?_ | refine lenO_a ?_ | refine ixT_a ?_ | refine ixO_a ?_ | fail)
  refine agr_j8 h0 m1 ha m2 hx he (by simp) hS hio hlen hT (by assumption) (by omega) ?_
  intro base2 E2 eff2 C2 w g1 g2 g3 g4 H
  exact hk (m - 1) _ _ _ _ _ (by omega) ⟨i + 1, base2, E2, eff2, C2, rfl, rfl, rfl, rfl, by omega, g1, g2, g3, g4, H⟩
end
end Go.Proofs.Ytagcifbfokneoaa.Den
