/- Inherit: the law Agrees, one call. Conditions: none. -/
import Derived.Test.YtagcifbfokneoaaIhTy
set_option linter.unusedVariables false
set_option linter.unusedSimpArgs false
set_option maxRecDepth 8000
set_option maxHeartbeats 1000000
namespace Go.Proofs.Ytagcifbfokneoaa.Den
open Go Go.RowKit
/-- A call of a tracker as Lean data: number, thread, priority, the slice's value. -/
structure AV where
  d : Nat
  t : Int
  p : Int
  s : Value
  ok : scalar s = true
def cA : Cod AV := ⟨4, fun a => [.int .u8 (a.d : Int), I a.t, I a.p, a.s], fun _ => rfl, by intro a c hc; simp at hc; rcases hc with rfl | rfl | rfl | rfl <;> first | rfl | exact a.ok⟩
section
variable {w w' w0 : World} {L L' F cs cs2 cs3 cb ce C : List Chunk} {s s2 sb se sd : Value} {K : VK} {R : ER} {base base' eff : List Int} {E E' : List (Nat × Nat)} {es : List (Int × Int)} {bt el : Nat} {code : Int}
/-- After a call: some state, whose effective priorities the tracker keeps. -/
theorem OpQ.some {e : Ending} (h : OpQ el (PTr bt) code base E eff base' E' w0 L e w) (hio : IsEff base E eff) (hS : St base E) (hS' : code = 0 → St base' E') (hlen : base'.length = base.length) :
    ∃ v base2 E2 eff2 C2, e = .returned v ∧ St base2 E2 ∧ IsEff base2 E2 eff2 ∧ base2.length = base.length ∧ PTr bt base2 E2 eff2 C2 ∧ Hp w0 w (C2 ++ L) := by
  rcases h with ⟨h0, rfl, C, hC, H⟩ | ⟨h0, s, cs, now, C, rfl, hio', hcs, hC, H⟩
  · exact ⟨_, base, E, eff, C, rfl, hS, hio, rfl, hC, H⟩
  · exact ⟨_, base', E', now, C, rfl, hS' h0, hio', hlen, hC, H.re⟩
theorem toN_ofN (l : List (Nat × Nat)) : (l.map ofN).map toN = l := by
  rw [List.map_map]
  conv => rhs; rw [← List.map_id l]
  exact List.map_congr_left fun x _ => by simp [ofN, toN]
theorem chk_st (hS : St base E) : chk base (E.map ofN) = 0 := by
  have h1 := hS.len
  have h2 := hS.el
  have hnd : (E.map ofN).Nodup := hS.nd.map ofN fun a b h e => h (ofN_inj e)
  unfold chk
  rw [if_neg (by rw [List.length_map]; omega), if_neg, if_neg, if_neg (not_not_intro hnd)]
  · rintro ⟨e, he, h⟩
    obtain ⟨x, hx, rfl⟩ := List.mem_map.1 he
    have := hS.va x hx
    unfold inR at h
    rw [decide_eq_false_iff_not, decide_eq_false_iff_not] at h
    simp only [ofN] at h
    omega
  · rintro ⟨b, hb, h⟩
    have := hS.rg b hb
    omega
theorem St.perm (hS : St base E) (hp : E'.Perm E) : St base E' :=
  ⟨hS.len, hS.rg, fun e he => hS.va e (hp.mem_iff.1 he), hp.nodup_iff.2 hS.nd, by rw [hp.length_eq]; exact hS.el⟩
theorem agr_j9 {k1 : V4} {x1 : Value} {base0 : List Int} {i : Nat} (h0 : TR cI w0 cs s base0) (m1 : ∀ c ∈ cs, c ∈ L) (hS : St base E) (hio : IsEff base E eff) (hlen : base.length = base0.length) (hT : PTr bt base E eff C) (H : Hp w0 w (C ++ L)) (hil : i < 1000)
    (hk : ∀ w, Hp w0 w (C ++ L) → k1 s x1 (ptr bt 0) (I ((i : Int) + 1)) w) : F10_j9 (fun x w' => x = .returned (.bool true) ∧ Hp w0 w' L) k1 s x1 (ptr bt 0) (I i) w := by
  unfold F10_j9
  refine cal_h (Graph_spec hS hT H) ?_
  rintro _ w ⟨sb', s', cb', c', E', rfl, hb', hs', hp, hinc, H⟩
  have q1 := hb'.sc
  have q2 := hs'.sc
  have hbl := hS.len
  simp only [ret_k]
  refine al_m (ys := [.slice none 0 0, .slice none 0 0]) (by assumption) (by kernel_rfl) fun w b H => ?_
  repeat (first | simp only [cI_enc, cE_enc, cN_enc, W0] | refine lss_a ?_ | refine lss_b ?_ | refine gtr_a ?_ | refine gtr_b ?_ | refine geq_a ?_ | refine geq_b ?_ | refine leq_a ?_ | refine leq_b ?_ | refine eql_a ?_ | refine eql_b ?_ | refine neq_a ?_ | refine neq_b ?_ | refine add_a ?_ | refine sub_a ?_ | refine ld_a ?_ | refine ldA_a ?_ | refine ldS_a ?_ | refine ldNS_a ?_ | refine rdA_s ?_ | refine rd1_s ?_ | refine drew_a fun w1 H1 => ?_ | refine st_a fun w1 H1 => ?_ | refine stA_a fun w1 H1 => ?_ | refine lenT_a ?_ | refine lenO_a ?_ | refine ixT_a ?_ | refine ixO_a ?_ | fail)
  refine cal_h (Effective_spec hb'.tr (ofCN hs'.tr) (by assumption) csub csub) ?_
  have hc := chk_st (hS.perm hp)
  rintro _ w (⟨he, _⟩ | ⟨_, so, co, out, rfl, H, ho, hio2⟩)
  · exact absurd hc he
  rw [toN_ofN] at hio2
  obtain rfl : eff = out := hio.unique hio2 fun e => hp.mem_iff.symm
  have hel := hio.len
  repeat (first | simp only [cI_enc, cE_enc, cN_enc, W0] | refine lss_a ?_ | refine lss_b ?_ | refine gtr_a ?_ | refine gtr_b ?_ | refine geq_a ?_ | refine geq_b ?_ | refine leq_a ?_ | refine leq_b ?_ | refine eql_a ?_ | refine eql_b ?_ | refine neq_a ?_ | refine neq_b ?_ | refine add_a ?_ | refine sub_a ?_ | refine ld_a ?_ | refine ldA_a ?_ | refine ldS_a ?_ | refine ldNS_a ?_ | refine rdA_s ?_ | refine rd1_s ?_ | refine drew_a fun w1 H1 => ?_ | refine st_a fun w1 H1 => ?_ | refine stA_a fun w1 H1 => ?_ | refine lenT_a ?_ | refine lenO_a ?_ | refine ixT_a ?_ | refine ixO_a ?_ | fail)
  unfold F10_j10 F10_j11
  refine loop7 (F10_l1_succ _ _) (fun m x0 x1' x5 x7 x9 x10 x12 w => ∃ j : Nat, x0 = s ∧ x1' = x1 ∧ x5 = ptr bt 0 ∧ x7 = I i ∧ x9 = ptr b 0 ∧ x10 = so ∧ x12 = I j ∧ m + j = base.length ∧ Hp w0 w (C ++ (⟨b, 25, [sb', s']⟩ :: (co ++ (cb' ++ L))))) ?_ (m := base.length)
    ⟨0, rfl, rfl, rfl, rfl, rfl, rfl, rfl, by omega, Hp.re (by assumption)⟩
  clear H
  rintro m k x0 x1' x5 x7 x9 x10 x12 w ⟨j, rfl, rfl, rfl, rfl, rfl, rfl, rfl, hm, H⟩ hk'
  unfold F10_b2
  by_cases hj : j < base.length
  rotate_left
  · repeat (first | simp only [cI_enc, cE_enc, cN_enc, W0] | refine lss_a ?_ | refine lss_b ?_ | refine gtr_a ?_ | refine gtr_b ?_ | refine geq_a ?_ | refine geq_b ?_ | refine leq_a ?_ | refine leq_b ?_ | refine eql_a ?_ | refine eql_b ?_ | refine neq_a ?_ | refine neq_b ?_ | refine add_a ?_ | refine sub_a ?_ | refine ld_a ?_ | refine ldA_a ?_ | refine ldS_a ?_ | refine ldNS_a ?_ | refine rdA_s ?_ | refine rd1_s ?_ | refine drew_a fun w1 H1 => ?_ | refine st_a fun w1 H1 => ?_ | refine stA_a fun w1 H1 => ?_ | refine lenT_a ?_ | refine lenO_a ?_ | refine ixT_a ?_ | refine ixO_a ?_ | fail)
    exact hk _ (Hp.re (by assumption))
  have hx : eff[j]? = some (gt eff j) := gt_some (by omega)
  have hy : base[j]? = some (gt base j) := gt_some (by omega)
  have hge := hio.ge j hj
  repeat (first | simp only [cI_enc, cE_enc, cN_enc, W0] | refine lss_a ?_ | refine lss_b ?_ | refine gtr_a ?_ | refine gtr_b ?_ | refine geq_a ?_ | refine geq_b ?_ | refine leq_a ?_ | refine leq_b ?_ | refine eql_a ?_ | refine eql_b ?_ | refine neq_a ?_ | refine neq_b ?_ | refine add_a ?_ | refine sub_a ?_ | refine ld_a ?_ | refine ldA_a ?_ | refine ldS_a ?_ | refine ldNS_a ?_ | refine rdA_s ?_ | refine rd1_s ?_ | refine drew_a fun w1 H1 => ?_ | refine st_a fun w1 H1 => ?_ | refine stA_a fun w1 H1 => ?_ | refine lenT_a ?_ | refine lenO_a ?_ | refine ixT_a ?_ | refine ixO_a ?_ | fail)
  try unfold F10_j12
  refine cal_h (effC_spec (t := (j : Int)) hel hT (by assumption)) ?_
  rw [inR, decide_eq_true (by omega), if_pos rfl]
  rintro _ w ⟨rfl, H⟩
  simp only [Int.toNat_natCast]
  repeat (first | simp only [cI_enc, cE_enc, cN_enc, W0] | refine lss_a ?_ | refine lss_b ?_ | refine gtr_a ?_ | refine gtr_b ?_ | refine geq_a ?_ | refine geq_b ?_ | refine leq_a ?_ | refine leq_b ?_ | refine eql_a ?_ | refine eql_b ?_ | refine neq_a ?_ | refine neq_b ?_ | refine add_a ?_ | refine sub_a ?_ | refine ld_a ?_ | refine ldA_a ?_ | refine ldS_a ?_ | refine ldNS_a ?_ | refine rdA_s ?_ | refine rd1_s ?_ | refine drew_a fun w1 H1 => ?_ | refine st_a fun w1 H1 => ?_ | refine stA_a fun w1 H1 => ?_ | refine lenT_a ?_ | refine lenO_a ?_ | refine ixT_a ?_ | refine ixO_a ?_ | fail)
  exact hk' (m - 1) _ _ _ _ _ _ _ _ (by omega) ⟨j + 1, rfl, rfl, rfl, rfl, rfl, rfl, rfl, by omega, Hp.re (by assumption)⟩
end
end Go.Proofs.Ytagcifbfokneoaa.Den
