/- Inherit: the law Monotone, walked. Conditions: none. -/
import Derived.Test.YtagcifbfokneoaaIhU
set_option linter.unusedVariables false
set_option linter.unusedSimpArgs false
set_option maxRecDepth 8000
set_option maxHeartbeats 2000000
namespace Go.Proofs.Ytagcifbfokneoaa.Den
open Go Go.RowKit
section
variable {w w' w0 : World} {L L' F cs cs2 cs3 ca : List Chunk} {s s2 sb se sd sa : Value} {K : VK} {R : ER} {base d out a : List Int} {E E' : List (Nat × Nat)} {es : List (Int × Int)} {n to i u x b : Nat}
abbrev RT (w0 : World) (L : List Chunk) : ER := fun x w' => x = .returned (.bool true) ∧ Hp w0 w' L
theorem Mono_j4 (h1 : TR cI w0 cs sb base) (h2 : TR cE w0 cs2 se es) (hc : chk base es = 0) (ha : TS cI 3 sa a ca) (hia : IsEff base (es.map toN) a) (m1 : ∀ c ∈ cs, c ∈ L) (m2 : ∀ c ∈ cs2, c ∈ L)
    (H : Hp w0 w (ca ++ (⟨b, 25, [sb, se]⟩ :: L))) : F7_j4 (RT w0 L) (ptr b 0) sa w := by
  have c1 := chk_ok hc
  have hal := hia.len
  unfold F7_j4 F7_j6 F7_j7
  refine loop3 (F7_l2_succ _) (fun m x2 x5 x14 w => ∃ t : Nat, x2 = ptr b 0 ∧ x5 = sa ∧ x14 = I t ∧ m + t = base.length ∧ Hp w0 w (ca ++ (⟨b, 25, [sb, se]⟩ :: L))) ?_ (m := base.length) ⟨0, rfl, rfl, rfl, by omega, H⟩
  rintro m k x2 x5 x14 w ⟨t, rfl, rfl, rfl, hm, H⟩ hk
  unfold F7_b1
  by_cases ht : t < base.length
  rotate_left
  · repeat (first | simp only [cI_enc, cE_enc, cN_enc, W0] | refine lss_a ?_ | refine lss_b ?_ | refine gtr_a ?_ | refine gtr_b ?_ | refine geq_a ?_ | refine geq_b ?_ | refine leq_a ?_ | refine leq_b ?_ | refine eql_a ?_ | refine eql_b ?_ | refine neq_a ?_ | refine neq_b ?_ | refine add_a ?_ | refine sub_a ?_ | refine ld_a ?_ | refine ldA_a ?_ | refine ldS_a ?_ | refine ldNS_a ?_ | refine rdA_s ?_ | refine rd1_s ?_ | refine drew_a fun w1 H1 => ?_ | refine st_a fun w1 H1 => ?_ | refine stA_a fun w1 H1 => ?_ | refine lenT_a ?_ | refine lenO_a ?_ | refine ixT_a ?_ | refine ixO_a ?_ | fail)
    unfold F7_j5
    refine cal_h (awake_spec (by assumption)) ?_
    rintro _ w ⟨rfl, H⟩
    exact ⟨rfl, Hp.re (by assumption)⟩
  repeat (first | simp only [cI_enc, cE_enc, cN_enc, W0] | refine lss_a ?_ | refine lss_b ?_ | refine gtr_a ?_ | refine gtr_b ?_ | refine geq_a ?_ | refine geq_b ?_ | refine leq_a ?_ | refine leq_b ?_ | refine eql_a ?_ | refine eql_b ?_ | refine neq_a ?_ | refine neq_b ?_ | refine add_a ?_ | refine sub_a ?_ | refine ld_a ?_ | refine ldA_a ?_ | refine ldS_a ?_ | refine ldNS_a ?_ | refine rdA_s ?_ | refine rd1_s ?_ | refine drew_a fun w1 H1 => ?_ | refine st_a fun w1 H1 => ?_ | refine stA_a fun w1 H1 => ?_ | refine lenT_a ?_ | refine lenO_a ?_ | refine ixT_a ?_ | refine ixO_a ?_ | fail)
  unfold F7_j8 F7_j10
  repeat (first | simp only [cI_enc, cE_enc, cN_enc, W0] | refine lss_a ?_ | refine lss_b ?_ | refine gtr_a ?_ | refine gtr_b ?_ | refine geq_a ?_ | refine geq_b ?_ | refine leq_a ?_ | refine leq_b ?_ | refine eql_a ?_ | refine eql_b ?_ | refine neq_a ?_ | refine neq_b ?_ | refine add_a ?_ | refine sub_a ?_ | refine ld_a ?_ | refine ldA_a ?_ | refine ldS_a ?_ | refine ldNS_a ?_ | refine rdA_s ?_ | refine rd1_s ?_ | refine drew_a fun w1 H1 => ?_ | refine st_a fun w1 H1 => ?_ | refine stA_a fun w1 H1 => ?_ | refine lenT_a ?_ | refine lenO_a ?_ | refine ixT_a ?_ | refine ixO_a ?_ | fail)
  refine cal_h (Reason_spec h1 h2 (by assumption) csub csub) ?_
  rintro _ w (⟨he, _⟩ | ⟨_, hin, _⟩ | ⟨_, n, hn, hnl, sr, cr, out, bb, rfl, H, hio, hD, hbb, hr⟩)
  · exact absurd hc he
  · rw [inR, decide_eq_false_iff_not] at hin; omega
  obtain rfl : t = n := by omega
  obtain rfl : a = out := hia.unique hio fun e => Iff.rfl
  have hV := c1.2.2.2.2.1
  have hb0 := hbb.nn
  have hle := hD.val_le hV hbb.lt
  have hlt := hbb.lt
  obtain ⟨kk, hkk⟩ : ∃ kk : Nat, dst (es.map toN) t bb = kk := ⟨(dst (es.map toN) t bb).toNat, by omega⟩
  rw [hkk] at hr
  simp only [Int.toNat_natCast] at hr
  have hmem := chain_mem hD hV kk bb hlt hkk
  have hlast := chain_last hD hV kk bb hlt hkk
  have hhead := chain_head (E := es.map toN) (n := base.length) (f := dst (es.map toN) t) kk bb
  have hcl := chainP_len (E := es.map toN) (n := base.length) (f := dst (es.map toN) t) kk bb
  generalize hch : chainP (es.map toN) base.length (dst (es.map toN) t) kk bb = ch at hr hmem hlast hhead hcl
  have hg : base[bb]? = some (gt base bb) := gt_some hlt
  have hga : a[t]? = some (gt a t) := gt_some (by omega)
  have hok : gt base bb = gt a t := hbb.ok
  repeat (first | simp only [cI_enc, cE_enc, cN_enc, W0] | refine lss_a ?_ | refine lss_b ?_ | refine gtr_a ?_ | refine gtr_b ?_ | refine geq_a ?_ | refine geq_b ?_ | refine leq_a ?_ | refine leq_b ?_ | refine eql_a ?_ | refine eql_b ?_ | refine neq_a ?_ | refine neq_b ?_ | refine add_a ?_ | refine sub_a ?_ | refine ld_a ?_ | refine ldA_a ?_ | refine ldS_a ?_ | refine ldNS_a ?_ | refine rdA_s ?_ | refine rd1_s ?_ | refine drew_a fun w1 H1 => ?_ | refine st_a fun w1 H1 => ?_ | refine stA_a fun w1 H1 => ?_ | refine lenT_a ?_ | refine lenO_a ?_ | refine ixT_a ?_ | refine ixO_a ?_ | fail)
  rw [show ((ch.length : Int) - 1) = ((kk : Nat) : Int) by omega]
  repeat (first | simp only [cI_enc, cE_enc, cN_enc, W0] | refine lss_a ?_ | refine lss_b ?_ | refine gtr_a ?_ | refine gtr_b ?_ | refine geq_a ?_ | refine geq_b ?_ | refine leq_a ?_ | refine leq_b ?_ | refine eql_a ?_ | refine eql_b ?_ | refine neq_a ?_ | refine neq_b ?_ | refine add_a ?_ | refine sub_a ?_ | refine ld_a ?_ | refine ldA_a ?_ | refine ldS_a ?_ | refine ldNS_a ?_ | refine rdA_s ?_ | refine rd1_s ?_ | refine drew_a fun w1 H1 => ?_ | refine st_a fun w1 H1 => ?_ | refine stA_a fun w1 H1 => ?_ | refine lenT_a ?_ | refine lenO_a ?_ | refine ixT_a ?_ | refine ixO_a ?_ | fail)
  unfold F7_j11 F7_j12
  refine loop5 (F7_l1_succ _ _) (fun m x2 x5' x14 x15 x17 w => ∃ j : Nat, x2 = ptr b 0 ∧ x5' = x5 ∧ x14 = I t ∧ x15 = sr ∧ x17 = I j ∧ m + j = ch.length ∧ Hp w0 w (cr ++ (ca ++ (⟨b, 25, [sb, se]⟩ :: L)))) ?_ (m := ch.length) ⟨0, rfl, rfl, rfl, rfl, rfl, by omega, Hp.re (by assumption)⟩
  rintro m' k' x2 x5' x14 x15 x17 w ⟨j, rfl, rfl, rfl, rfl, rfl, hm', H⟩ hk'
  unfold F7_b2
  by_cases hj : j < ch.length
  rotate_left
  · repeat (first | simp only [cI_enc, cE_enc, cN_enc, W0] | refine lss_a ?_ | refine lss_b ?_ | refine gtr_a ?_ | refine gtr_b ?_ | refine geq_a ?_ | refine geq_b ?_ | refine leq_a ?_ | refine leq_b ?_ | refine eql_a ?_ | refine eql_b ?_ | refine neq_a ?_ | refine neq_b ?_ | refine add_a ?_ | refine sub_a ?_ | refine ld_a ?_ | refine ldA_a ?_ | refine ldS_a ?_ | refine ldNS_a ?_ | refine rdA_s ?_ | refine rd1_s ?_ | refine drew_a fun w1 H1 => ?_ | refine st_a fun w1 H1 => ?_ | refine stA_a fun w1 H1 => ?_ | refine lenT_a ?_ | refine lenO_a ?_ | refine ixT_a ?_ | refine ixO_a ?_ | fail)
    exact hk (m - 1) _ _ _ _ (by omega) ⟨t + 1, rfl, rfl, rfl, by omega, Hp.re (by assumption)⟩
  obtain ⟨y, hy⟩ : ∃ y, ch[j]? = some y := ⟨_, List.getElem?_eq_getElem hj⟩
  obtain ⟨y1, y2, y3⟩ := hmem y (List.mem_of_getElem? hy)
  have hay : a[y]? = some (gt a y) := gt_some (by omega)
  have hle := Reach.le hia.cl y3
  repeat (first | simp only [cI_enc, cE_enc, cN_enc, W0] | refine lss_a ?_ | refine lss_b ?_ | refine gtr_a ?_ | refine gtr_b ?_ | refine geq_a ?_ | refine geq_b ?_ | refine leq_a ?_ | refine leq_b ?_ | refine eql_a ?_ | refine eql_b ?_ | refine neq_a ?_ | refine neq_b ?_ | refine add_a ?_ | refine sub_a ?_ | refine ld_a ?_ | refine ldA_a ?_ | refine ldS_a ?_ | refine ldNS_a ?_ | refine rdA_s ?_ | refine rd1_s ?_ | refine drew_a fun w1 H1 => ?_ | refine st_a fun w1 H1 => ?_ | refine stA_a fun w1 H1 => ?_ | refine lenT_a ?_ | refine lenO_a ?_ | refine ixT_a ?_ | refine ixO_a ?_ | fail)
  exact hk' (m' - 1) _ _ _ _ _ _ (by omega) ⟨j + 1, rfl, rfl, rfl, rfl, rfl, by omega, Hp.re (by assumption)⟩
theorem Mono_j3 (h1 : TR cI w0 cs sb base) (h2 : TR cE w0 cs2 se es) (hc : chk base es = 0) (ha : TS cI 3 sa a ca) (hia : IsEff base (es.map toN) a) (m1 : ∀ c ∈ cs, c ∈ L) (m2 : ∀ c ∈ cs2, c ∈ L)
    (H : Hp w0 w (ca ++ (⟨b, 25, [sb, se]⟩ :: L))) : cal Pg (RT w0 L) 21 ⟨[.agg ⟨[sb, se]⟩]⟩ (fun v109 => pv (extO 0 v109) fun v110 => pv (extO 1 v109) fun v111 => F7_j15 (RT w0 L) (ptr b 0) sa v110 v111) w := by
  have c1 := chk_ok hc
  have hal := hia.len
  refine cal_h (Cycle_spec h1 h2 (by assumption) csub csub) ?_
  rintro _ w (⟨he, _⟩ | ⟨_, _, rfl, H⟩ | ⟨_, sr, cr, t, l, rfl, H, hcy, hD, hr⟩)
  · exact absurd hc he
  · repeat (first | simp only [cI_enc, cE_enc, cN_enc, W0] | refine lss_a ?_ | refine lss_b ?_ | refine gtr_a ?_ | refine gtr_b ?_ | refine geq_a ?_ | refine geq_b ?_ | refine leq_a ?_ | refine leq_b ?_ | refine eql_a ?_ | refine eql_b ?_ | refine neq_a ?_ | refine neq_b ?_ | refine add_a ?_ | refine sub_a ?_ | refine ld_a ?_ | refine ldA_a ?_ | refine ldS_a ?_ | refine ldNS_a ?_ | refine rdA_s ?_ | refine rd1_s ?_ | refine drew_a fun w1 H1 => ?_ | refine st_a fun w1 H1 => ?_ | refine stA_a fun w1 H1 => ?_ | refine lenT_a ?_ | refine lenO_a ?_ | refine ixT_a ?_ | refine ixO_a ?_ | fail)
    unfold F7_j15 F7_j16
    refine loop5 (F7_l3_succ _) (fun m x2 x5 x11 x12 x13 w => x2 = ptr b 0 ∧ x5 = sa ∧ x12 = I 22 ∧ Hp w0 w (ca ++ (⟨b, 25, [sb, se]⟩ :: L))) ?_ (m := 0) ⟨rfl, rfl, rfl, Hp.re (by assumption)⟩
    rintro m k x2 x5 x11 x12 x13 w ⟨rfl, rfl, rfl, H⟩ hk
    unfold F7_b3
    repeat (first | simp only [cI_enc, cE_enc, cN_enc, W0] | refine lss_a ?_ | refine lss_b ?_ | refine gtr_a ?_ | refine gtr_b ?_ | refine geq_a ?_ | refine geq_b ?_ | refine leq_a ?_ | refine leq_b ?_ | refine eql_a ?_ | refine eql_b ?_ | refine neq_a ?_ | refine neq_b ?_ | refine add_a ?_ | refine sub_a ?_ | refine ld_a ?_ | refine ldA_a ?_ | refine ldS_a ?_ | refine ldNS_a ?_ | refine rdA_s ?_ | refine rd1_s ?_ | refine drew_a fun w1 H1 => ?_ | refine st_a fun w1 H1 => ?_ | refine stA_a fun w1 H1 => ?_ | refine lenT_a ?_ | refine lenO_a ?_ | refine ixT_a ?_ | refine ixO_a ?_ | fail)
    exact Mono_j4 h1 h2 hc ha hia m1 m2 (by assumption)
  have hV := c1.2.2.2.2.1
  have hmem := hcy.mem hD hV
  have hlt := hcy.lt
  have hll : (l : Int) ≤ 1000 := by
    obtain ⟨x, x1, x2, x3⟩ := hcy.ex
    have := hD.val_le (v := x) hV (hV _ x1).2
    omega
  have hhead := chain_head (E := es.map toN) (n := base.length) (f := dst (es.map toN) t) l t
  have hcl := chainP_len (E := es.map toN) (n := base.length) (f := dst (es.map toN) t) l t
  generalize hch : chainP (es.map toN) base.length (dst (es.map toN) t) l t = ch at hr hmem hhead hcl
  have hga : a[t]? = some (gt a t) := gt_some (by omega)
  repeat (first | simp only [cI_enc, cE_enc, cN_enc, W0] | refine lss_a ?_ | refine lss_b ?_ | refine gtr_a ?_ | refine gtr_b ?_ | refine geq_a ?_ | refine geq_b ?_ | refine leq_a ?_ | refine leq_b ?_ | refine eql_a ?_ | refine eql_b ?_ | refine neq_a ?_ | refine neq_b ?_ | refine add_a ?_ | refine sub_a ?_ | refine ld_a ?_ | refine ldA_a ?_ | refine ldS_a ?_ | refine ldNS_a ?_ | refine rdA_s ?_ | refine rd1_s ?_ | refine drew_a fun w1 H1 => ?_ | refine st_a fun w1 H1 => ?_ | refine stA_a fun w1 H1 => ?_ | refine lenT_a ?_ | refine lenO_a ?_ | refine ixT_a ?_ | refine ixO_a ?_ | fail)
  unfold F7_j15 F7_j16
  refine loop5 (F7_l3_succ _) (fun m x2 x5 x11 x12 x13 w => ∃ j : Nat, x2 = ptr b 0 ∧ x5 = sa ∧ x11 = sr ∧ x12 = I 0 ∧ x13 = I j ∧ m + j = ch.length ∧ Hp w0 w (cr ++ (ca ++ (⟨b, 25, [sb, se]⟩ :: L)))) ?_ (m := ch.length) ⟨0, rfl, rfl, rfl, rfl, rfl, by omega, Hp.re (by assumption)⟩
  rintro m k x2 x5 x11 x12 x13 w ⟨j, rfl, rfl, rfl, rfl, rfl, hm, H⟩ hk
  unfold F7_b3
  by_cases hj : j < ch.length
  rotate_left
  · repeat (first | simp only [cI_enc, cE_enc, cN_enc, W0] | refine lss_a ?_ | refine lss_b ?_ | refine gtr_a ?_ | refine gtr_b ?_ | refine geq_a ?_ | refine geq_b ?_ | refine leq_a ?_ | refine leq_b ?_ | refine eql_a ?_ | refine eql_b ?_ | refine neq_a ?_ | refine neq_b ?_ | refine add_a ?_ | refine sub_a ?_ | refine ld_a ?_ | refine ldA_a ?_ | refine ldS_a ?_ | refine ldNS_a ?_ | refine rdA_s ?_ | refine rd1_s ?_ | refine drew_a fun w1 H1 => ?_ | refine st_a fun w1 H1 => ?_ | refine stA_a fun w1 H1 => ?_ | refine lenT_a ?_ | refine lenO_a ?_ | refine ixT_a ?_ | refine ixO_a ?_ | fail)
    exact Mono_j4 h1 h2 hc ha hia m1 m2 (Hp.re (by assumption))
  obtain ⟨y, hy⟩ : ∃ y, ch[j]? = some y := ⟨_, List.getElem?_eq_getElem hj⟩
  obtain ⟨y1, y2, y3⟩ := hmem y (List.mem_of_getElem? hy)
  have hay : a[y]? = some (gt a y) := gt_some (by omega)
  have hle := Reach.le hia.cl y2
  have hge := Reach.le hia.cl y3
  repeat (first | simp only [cI_enc, cE_enc, cN_enc, W0] | refine lss_a ?_ | refine lss_b ?_ | refine gtr_a ?_ | refine gtr_b ?_ | refine geq_a ?_ | refine geq_b ?_ | refine leq_a ?_ | refine leq_b ?_ | refine eql_a ?_ | refine eql_b ?_ | refine neq_a ?_ | refine neq_b ?_ | refine add_a ?_ | refine sub_a ?_ | refine ld_a ?_ | refine ldA_a ?_ | refine ldS_a ?_ | refine ldNS_a ?_ | refine rdA_s ?_ | refine rd1_s ?_ | refine drew_a fun w1 H1 => ?_ | refine st_a fun w1 H1 => ?_ | refine stA_a fun w1 H1 => ?_ | refine lenT_a ?_ | refine lenO_a ?_ | refine ixT_a ?_ | refine ixO_a ?_ | fail)
  exact hk (m - 1) _ _ _ _ _ _ (by omega) ⟨j + 1, rfl, rfl, rfl, rfl, rfl, by omega, Hp.re (by assumption)⟩
theorem Mono_j2 {e : Int × Int} {s' : Value} {c' : List Chunk} {b7 : Nat} (h1 : TR cI w0 cs sb base) (h2 : TR cE w0 cs2 se es) (hc : chk base es = 0) (ha : TS cI 3 sa a ca) (hia : IsEff base (es.map toN) a) (m1 : ∀ c ∈ cs, c ∈ L) (m2 : ∀ c ∈ cs2, c ∈ L)
    (h' : TS cE 39 s' (es ++ [e]) c') (H : Hp w0 w (⟨b7, 25, [sb, s']⟩ :: (c' ++ (ca ++ (⟨b, 25, [sb, se]⟩ :: L))))) : cal Pg (RT w0 L) 16 ⟨[.agg ⟨[sb, s']⟩]⟩ (fun v132 => pv (bin .eql v132 (.int .i64 0)) fun v133 => F7_j19 (RT w0 L) (ptr b 0) sa (ptr b7 0) v133) w := by
  have hal := hia.len
  have c1 := chk_ok hc
  refine cal_h (Check_spec h1 h'.tr (by assumption) csub csub) ?_
  rintro _ w ⟨rfl, H⟩
  by_cases hc' : chk base (es ++ [e]) = 0
  rotate_left
  · repeat (first | simp only [cI_enc, cE_enc, cN_enc, W0] | refine lss_a ?_ | refine lss_b ?_ | refine gtr_a ?_ | refine gtr_b ?_ | refine geq_a ?_ | refine geq_b ?_ | refine leq_a ?_ | refine leq_b ?_ | refine eql_a ?_ | refine eql_b ?_ | refine neq_a ?_ | refine neq_b ?_ | refine add_a ?_ | refine sub_a ?_ | refine ld_a ?_ | refine ldA_a ?_ | refine ldS_a ?_ | refine ldNS_a ?_ | refine rdA_s ?_ | refine rd1_s ?_ | refine drew_a fun w1 H1 => ?_ | refine st_a fun w1 H1 => ?_ | refine stA_a fun w1 H1 => ?_ | refine lenT_a ?_ | refine lenO_a ?_ | refine ixT_a ?_ | refine ixO_a ?_ | fail)
    unfold F7_j19
    repeat (first | simp only [cI_enc, cE_enc, cN_enc, W0] | refine lss_a ?_ | refine lss_b ?_ | refine gtr_a ?_ | refine gtr_b ?_ | refine geq_a ?_ | refine geq_b ?_ | refine leq_a ?_ | refine leq_b ?_ | refine eql_a ?_ | refine eql_b ?_ | refine neq_a ?_ | refine neq_b ?_ | refine add_a ?_ | refine sub_a ?_ | refine ld_a ?_ | refine ldA_a ?_ | refine ldS_a ?_ | refine ldNS_a ?_ | refine rdA_s ?_ | refine rd1_s ?_ | refine drew_a fun w1 H1 => ?_ | refine st_a fun w1 H1 => ?_ | refine stA_a fun w1 H1 => ?_ | refine lenT_a ?_ | refine lenO_a ?_ | refine ixT_a ?_ | refine ixO_a ?_ | fail)
    exact Mono_j3 (b := b) h1 h2 hc ha hia m1 m2 (Hp.re (by assumption))
  repeat (first | simp only [cI_enc, cE_enc, cN_enc, W0] | refine lss_a ?_ | refine lss_b ?_ | refine gtr_a ?_ | refine gtr_b ?_ | refine geq_a ?_ | refine geq_b ?_ | refine leq_a ?_ | refine leq_b ?_ | refine eql_a ?_ | refine eql_b ?_ | refine neq_a ?_ | refine neq_b ?_ | refine add_a ?_ | refine sub_a ?_ | refine ld_a ?_ | refine ldA_a ?_ | refine ldS_a ?_ | refine ldNS_a ?_ | refine rdA_s ?_ | refine rd1_s ?_ | refine drew_a fun w1 H1 => ?_ | refine st_a fun w1 H1 => ?_ | refine stA_a fun w1 H1 => ?_ | refine lenT_a ?_ | refine lenO_a ?_ | refine ixT_a ?_ | refine ixO_a ?_ | fail)
  unfold F7_j19
  repeat (first | simp only [cI_enc, cE_enc, cN_enc, W0] | refine lss_a ?_ | refine lss_b ?_ | refine gtr_a ?_ | refine gtr_b ?_ | refine geq_a ?_ | refine geq_b ?_ | refine leq_a ?_ | refine leq_b ?_ | refine eql_a ?_ | refine eql_b ?_ | refine neq_a ?_ | refine neq_b ?_ | refine add_a ?_ | refine sub_a ?_ | refine ld_a ?_ | refine ldA_a ?_ | refine ldS_a ?_ | refine ldNS_a ?_ | refine rdA_s ?_ | refine rd1_s ?_ | refine drew_a fun w1 H1 => ?_ | refine st_a fun w1 H1 => ?_ | refine stA_a fun w1 H1 => ?_ | refine lenT_a ?_ | refine lenO_a ?_ | refine ixT_a ?_ | refine ixO_a ?_ | fail)
  refine cal_h (Effective_spec h1 h'.tr (by assumption) csub csub) ?_
  rintro _ w (⟨he, _⟩ | ⟨_, sd, cd, d, rfl, H, hd, hid⟩)
  · exact absurd hc' he
  have hdl := hid.len
  repeat (first | simp only [cI_enc, cE_enc, cN_enc, W0] | refine lss_a ?_ | refine lss_b ?_ | refine gtr_a ?_ | refine gtr_b ?_ | refine geq_a ?_ | refine geq_b ?_ | refine leq_a ?_ | refine leq_b ?_ | refine eql_a ?_ | refine eql_b ?_ | refine neq_a ?_ | refine neq_b ?_ | refine add_a ?_ | refine sub_a ?_ | refine ld_a ?_ | refine ldA_a ?_ | refine ldS_a ?_ | refine ldNS_a ?_ | refine rdA_s ?_ | refine rd1_s ?_ | refine drew_a fun w1 H1 => ?_ | refine st_a fun w1 H1 => ?_ | refine stA_a fun w1 H1 => ?_ | refine lenT_a ?_ | refine lenO_a ?_ | refine ixT_a ?_ | refine ixO_a ?_ | fail)
  unfold F7_j21 F7_j22
  refine loop4 (F7_l4_succ _) (fun m x2 x5 x8 x10 w => ∃ j : Nat, x2 = ptr b 0 ∧ x5 = sa ∧ x8 = sd ∧ x10 = I j ∧ m + j = base.length ∧ Hp w0 w (cd ++ (ca ++ (⟨b, 25, [sb, se]⟩ :: L)))) ?_ (m := base.length) ⟨0, rfl, rfl, rfl, rfl, by omega, Hp.re (by assumption)⟩
  rintro m k x2 x5 x8 x10 w ⟨j, rfl, rfl, rfl, rfl, hm, H⟩ hk
  unfold F7_b4
  by_cases hj : j < base.length
  rotate_left
  · repeat (first | simp only [cI_enc, cE_enc, cN_enc, W0] | refine lss_a ?_ | refine lss_b ?_ | refine gtr_a ?_ | refine gtr_b ?_ | refine geq_a ?_ | refine geq_b ?_ | refine leq_a ?_ | refine leq_b ?_ | refine eql_a ?_ | refine eql_b ?_ | refine neq_a ?_ | refine neq_b ?_ | refine add_a ?_ | refine sub_a ?_ | refine ld_a ?_ | refine ldA_a ?_ | refine ldS_a ?_ | refine ldNS_a ?_ | refine rdA_s ?_ | refine rd1_s ?_ | refine drew_a fun w1 H1 => ?_ | refine st_a fun w1 H1 => ?_ | refine stA_a fun w1 H1 => ?_ | refine lenT_a ?_ | refine lenO_a ?_ | refine ixT_a ?_ | refine ixO_a ?_ | fail)
    exact Mono_j3 (b := b) h1 h2 hc ha hia m1 m2 (Hp.re (by assumption))
  have hay : a[j]? = some (gt a j) := gt_some (by omega)
  have hdy : d[j]? = some (gt d j) := gt_some (by omega)
  have hle : gt a j ≤ gt d j := hia.mono hid (fun x hx => by simp only [List.map_append]; exact List.mem_append_left _ hx) hj
  repeat (first | simp only [cI_enc, cE_enc, cN_enc, W0] | refine lss_a ?_ | refine lss_b ?_ | refine gtr_a ?_ | refine gtr_b ?_ | refine geq_a ?_ | refine geq_b ?_ | refine leq_a ?_ | refine leq_b ?_ | refine eql_a ?_ | refine eql_b ?_ | refine neq_a ?_ | refine neq_b ?_ | refine add_a ?_ | refine sub_a ?_ | refine ld_a ?_ | refine ldA_a ?_ | refine ldS_a ?_ | refine ldNS_a ?_ | refine rdA_s ?_ | refine rd1_s ?_ | refine drew_a fun w1 H1 => ?_ | refine st_a fun w1 H1 => ?_ | refine stA_a fun w1 H1 => ?_ | refine lenT_a ?_ | refine lenO_a ?_ | refine ixT_a ?_ | refine ixO_a ?_ | fail)
  exact hk (m - 1) _ _ _ _ _ (by omega) ⟨j + 1, rfl, rfl, rfl, rfl, by omega, Hp.re (by assumption)⟩
end
end Go.Proofs.Ytagcifbfokneoaa.Den
