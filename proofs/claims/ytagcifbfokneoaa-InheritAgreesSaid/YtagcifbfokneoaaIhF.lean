/- Inherit: the reference's Reason, walked. Conditions: none. -/
import Derived.Test.YtagcifbfokneoaaIhE
set_option linter.unusedVariables false
set_option linter.unusedSimpArgs false
set_option maxRecDepth 8000
namespace Go.Proofs.Ytagcifbfokneoaa.Den
open Go Go.RowKit
/-- What Reason returns. -/
def ReasonQ (base : List Int) (es : List (Int × Int)) (t : Int) (w0 : World) (L : List Chunk) : ER := fun x w' =>
  (chk base es ≠ 0 ∧ x = .returned (.tuple ⟨[.slice none 0 0, I (chk base es)]⟩) ∧ Hp w0 w' L) ∨
  (chk base es = 0 ∧ inR base.length t = false ∧ x = .returned (.tuple ⟨[.slice none 0 0, I 34]⟩) ∧ Hp w0 w' L) ∨
  (chk base es = 0 ∧ ∃ n : Nat, t = n ∧ n < base.length ∧ ∃ s cs out b, x = .returned (.tuple ⟨[s, I 0]⟩) ∧ Hp w0 w' (cs ++ L) ∧ IsEff base (es.map toN) out ∧ IsD (es.map toN) base.length n (dst (es.map toN) n) ∧ Best (dst (es.map toN) n) (fun u => gt base u = gt out n) base.length b ∧
    TS cU 3 s (chainP (es.map toN) base.length (dst (es.map toN) n) (dst (es.map toN) n b).toNat b) cs)
section
variable {w w' w0 : World} {L L' F cs cs2 cs3 : List Chunk} {s s2 sb se sd : Value} {K : VK} {R : ER} {base d : List Int} {es : List (Int × Int)} {E : List (Nat × Nat)} {n : Nat}
theorem IsD.val_le {f : Nat → Int} {to v : Nat} (hf : IsD E n to f) (hV : Valid E n) (hv : v < n) : f v ≤ n := by
  by_cases h0 : 0 ≤ f v
  · have hs : ∀ v, v < n → 2 ≤ f v + 1 → ∃ u, u < n ∧ f u + 1 = f v + 1 - 1 := by
      intro v hv h
      obtain ⟨t, h1, h2, _⟩ := hf.least hV hv (k := (f v - 1).toNat) (by omega)
      exact ⟨t, h1, by omega⟩
    obtain ⟨l, h1, h2, h3, _⟩ := level_le (d := fun v => f v + 1) hs (f v).toNat v hv (by show f v + 1 = _; omega)
    have := nodup_lt n l h2 h3
    omega
  · omega
theorem rReason_spec {t : Int} (h1 : TR cI w0 cs sb base) (h2 : TR cE w0 cs2 se es) (H : Hp w0 w L) (m1 : ∀ c ∈ cs, c ∈ L) (m2 : ∀ c ∈ cs2, c ∈ L) :
    Calls Pg 20 ⟨[.agg ⟨[sb, se]⟩, I t]⟩ w (ReasonQ base es t w0 L) := by
  apply F20_calls
  unfold F20
  refine bx_m H fun w b H => ?_
  repeat (first | simp only [cI_enc, cE_enc, cN_enc, W0] | refine lss_a ?_ | refine lss_b ?_ | refine gtr_a ?_ | refine gtr_b ?_ | refine geq_a ?_ | refine geq_b ?_ | refine leq_a ?_ | refine leq_b ?_ | refine eql_a ?_ | refine eql_b ?_ | refine neq_a ?_ | refine neq_b ?_ | refine add_a ?_ | refine sub_a ?_ | refine ld_a ?_ | refine ldA_a ?_ | refine ldS_a ?_ | refine ldNS_a ?_ | refine rdA_s ?_ | refine rd1_s ?_ | refine drew_a fun w1 H1 => ?_ | refine st_a fun w1 H1 => ?_ | refine stA_a fun w1 H1 => ?_ | refine lenT_a ?_ | refine lenO_a ?_ | refine ixT_a ?_ | refine ixO_a ?_ | fail)
  refine cal_h (rCheck_spec h1 h2 H (by intro c hc; simp [m1 c hc]) (by intro c hc; simp [m2 c hc])) ?_
  rintro _ w ⟨rfl, H⟩
  simp only [ret_k]
  refine neq_k (fun h => ?_) (fun h => ?_)
  · repeat (first | simp only [cI_enc, cE_enc, cN_enc, W0] | refine lss_a ?_ | refine lss_b ?_ | refine gtr_a ?_ | refine gtr_b ?_ | refine geq_a ?_ | refine geq_b ?_ | refine leq_a ?_ | refine leq_b ?_ | refine eql_a ?_ | refine eql_b ?_ | refine neq_a ?_ | refine neq_b ?_ | refine add_a ?_ | refine sub_a ?_ | refine ld_a ?_ | refine ldA_a ?_ | refine ldS_a ?_ | refine ldNS_a ?_ | refine rdA_s ?_ | refine rd1_s ?_ | refine drew_a fun w1 H1 => ?_ | refine st_a fun w1 H1 => ?_ | refine stA_a fun w1 H1 => ?_ | refine lenT_a ?_ | refine lenO_a ?_ | refine ixT_a ?_ | refine ixO_a ?_ | fail)
    exact .inl ⟨h, (by first | rfl | trivial), H.tail⟩
  repeat (first | simp only [cI_enc, cE_enc, cN_enc, W0] | refine lss_a ?_ | refine lss_b ?_ | refine gtr_a ?_ | refine gtr_b ?_ | refine geq_a ?_ | refine geq_b ?_ | refine leq_a ?_ | refine leq_b ?_ | refine eql_a ?_ | refine eql_b ?_ | refine neq_a ?_ | refine neq_b ?_ | refine add_a ?_ | refine sub_a ?_ | refine ld_a ?_ | refine ldA_a ?_ | refine ldS_a ?_ | refine ldNS_a ?_ | refine rdA_s ?_ | refine rd1_s ?_ | refine drew_a fun w1 H1 => ?_ | refine st_a fun w1 H1 => ?_ | refine stA_a fun w1 H1 => ?_ | refine lenT_a ?_ | refine lenO_a ?_ | refine ixT_a ?_ | refine ixO_a ?_ | fail)
  obtain ⟨c1, c2, c3, c4, c5, c6⟩ := chk_ok h
  have h2' := h2
  rw [c4] at h2'
  have h2' := toCN h2'
  have hel : (es.map toN).length ≤ 4000 := by simp; omega
  refine cal_h (thread_spec h1 h2.sc H) ?_
  rintro _ w ⟨rfl, H⟩
  cases hin : inR base.length t with
  | false =>
    repeat (first | simp only [cI_enc, cE_enc, cN_enc, W0] | refine lss_a ?_ | refine lss_b ?_ | refine gtr_a ?_ | refine gtr_b ?_ | refine geq_a ?_ | refine geq_b ?_ | refine leq_a ?_ | refine leq_b ?_ | refine eql_a ?_ | refine eql_b ?_ | refine neq_a ?_ | refine neq_b ?_ | refine add_a ?_ | refine sub_a ?_ | refine ld_a ?_ | refine ldA_a ?_ | refine ldS_a ?_ | refine ldNS_a ?_ | refine rdA_s ?_ | refine rd1_s ?_ | refine drew_a fun w1 H1 => ?_ | refine st_a fun w1 H1 => ?_ | refine stA_a fun w1 H1 => ?_ | refine lenT_a ?_ | refine lenO_a ?_ | refine ixT_a ?_ | refine ixO_a ?_ | fail)
    exact .inr (.inl ⟨h, hin, (by first | rfl | trivial), H.tail⟩)
  | true =>
    have hin' := of_decide_eq_true hin
    obtain ⟨n, rfl⟩ : ∃ n : Nat, t = n := ⟨t.toNat, by omega⟩
    have hn : n < base.length := by omega
    repeat (first | simp only [cI_enc, cE_enc, cN_enc, W0] | refine lss_a ?_ | refine lss_b ?_ | refine gtr_a ?_ | refine gtr_b ?_ | refine geq_a ?_ | refine geq_b ?_ | refine leq_a ?_ | refine leq_b ?_ | refine eql_a ?_ | refine eql_b ?_ | refine neq_a ?_ | refine neq_b ?_ | refine add_a ?_ | refine sub_a ?_ | refine ld_a ?_ | refine ldA_a ?_ | refine ldS_a ?_ | refine ldNS_a ?_ | refine rdA_s ?_ | refine rd1_s ?_ | refine drew_a fun w1 H1 => ?_ | refine st_a fun w1 H1 => ?_ | refine stA_a fun w1 H1 => ?_ | refine lenT_a ?_ | refine lenO_a ?_ | refine ixT_a ?_ | refine ixO_a ?_ | fail)
    refine cal_h (Values_spec h1 h2' H (by intro c hc; simp [m1 c hc]) (by intro c hc; simp [m2 c hc]) c3 c5 c1 hel) ?_
    rintro _ w ⟨so, cso, out, rfl, H, hso, ho⟩
    have hxn : out[n]? = some (gt out n) := gt_some (by rw [ho.len]; exact hn)
    repeat (first | simp only [cI_enc, cE_enc, cN_enc, W0] | refine lss_a ?_ | refine lss_b ?_ | refine gtr_a ?_ | refine gtr_b ?_ | refine geq_a ?_ | refine geq_b ?_ | refine leq_a ?_ | refine leq_b ?_ | refine eql_a ?_ | refine eql_b ?_ | refine neq_a ?_ | refine neq_b ?_ | refine add_a ?_ | refine sub_a ?_ | refine ld_a ?_ | refine ldA_a ?_ | refine ldS_a ?_ | refine ldNS_a ?_ | refine rdA_s ?_ | refine rd1_s ?_ | refine drew_a fun w1 H1 => ?_ | refine st_a fun w1 H1 => ?_ | refine stA_a fun w1 H1 => ?_ | refine lenT_a ?_ | refine lenO_a ?_ | refine ixT_a ?_ | refine ixO_a ?_ | fail)
    refine cal_h (rdist_spec (to := n) h1 h2' (by assumption) (by intro c hc; simp [m1 c hc]) (by intro c hc; simp [m2 c hc]) c5 c1 hel hn) ?_
    rintro _ w ⟨sd, csd, d, rfl, H, hsd, hdl, hD⟩
    simp only [ret_k]
    have hE : ∀ u, u < base.length → gt d u - 1 = dst (es.map toN) n u := fun u hu => hD.eq hu
    unfold F20_j4 F20_j5
    refine loop5 (F20_l1_succ _) (fun m x2 x7 x8 x9 x10 w => ∃ i : Nat, x2 = ptr b 0 ∧ x7 = I (gt out n) ∧ x8 = sd ∧ x10 = I i ∧ m + i = base.length ∧ Hp w0 w (csd ++ (cso ++ (⟨b, 32, [sb, se]⟩ :: L))) ∧
        ((x9 = I (-1) ∧ ∀ u, u < i → 0 ≤ gt d u - 1 → ¬ gt base u = gt out n) ∨ ∃ bb : Nat, x9 = I bb ∧ Best (fun u => gt d u - 1) (fun u => gt base u = gt out n) i bb)) ?_ (m := base.length)
      ⟨0, rfl, rfl, rfl, rfl, rfl, H, .inl ⟨rfl, by intro u hu; omega⟩⟩
    clear H
    rintro m k _ _ sd x9 _ w ⟨i, rfl, rfl, rfl, rfl, hm, H, hb⟩ hk
    unfold F20_b1
    repeat (first | simp only [cI_enc, cE_enc, cN_enc, W0] | refine lss_a ?_ | refine lss_b ?_ | refine gtr_a ?_ | refine gtr_b ?_ | refine geq_a ?_ | refine geq_b ?_ | refine leq_a ?_ | refine leq_b ?_ | refine eql_a ?_ | refine eql_b ?_ | refine neq_a ?_ | refine neq_b ?_ | refine add_a ?_ | refine sub_a ?_ | refine ld_a ?_ | refine ldA_a ?_ | refine ldS_a ?_ | refine ldNS_a ?_ | refine rdA_s ?_ | refine rd1_s ?_ | refine drew_a fun w1 H1 => ?_ | refine st_a fun w1 H1 => ?_ | refine stA_a fun w1 H1 => ?_ | refine lenT_a ?_ | refine lenO_a ?_ | refine ixT_a ?_ | refine ixO_a ?_ | fail)
    refine lss_k (fun hi => ?_) (fun hi => ?_)
    · have hxd : d[i]? = some (gt d i) := gt_some (by omega)
      have hxb : base[i]? = some (gt base i) := gt_some (by omega)
      repeat (first | simp only [cI_enc, cE_enc, cN_enc, W0] | refine lss_a ?_ | refine lss_b ?_ | refine gtr_a ?_ | refine gtr_b ?_ | refine geq_a ?_ | refine geq_b ?_ | refine leq_a ?_ | refine leq_b ?_ | refine eql_a ?_ | refine eql_b ?_ | refine neq_a ?_ | refine neq_b ?_ | refine add_a ?_ | refine sub_a ?_ | refine ld_a ?_ | refine ldA_a ?_ | refine ldS_a ?_ | refine ldNS_a ?_ | refine rdA_s ?_ | refine rd1_s ?_ | refine drew_a fun w1 H1 => ?_ | refine st_a fun w1 H1 => ?_ | refine stA_a fun w1 H1 => ?_ | refine lenT_a ?_ | refine lenO_a ?_ | refine ixT_a ?_ | refine ixO_a ?_ | fail)
      have no : ∀ {w}, Hp w0 w (csd ++ (cso ++ (⟨b, 32, [sb, se]⟩ :: L))) → (0 ≤ gt d i - 1 → gt base i = gt out n → ∃ bb : Nat, x9 = I bb ∧ gt d bb ≤ gt d i) → k (ptr b 0) (I (gt out n)) sd x9 (I ((i : Int) + 1)) w := by
        intro w H hno
        refine hk (m - 1) _ _ _ _ _ _ (by omega) ⟨i + 1, rfl, rfl, rfl, rfl, by omega, H, ?_⟩
        rcases hb with ⟨rfl, hb⟩ | ⟨bb, rfl, hb⟩
        · refine .inl ⟨rfl, none_keep (f := fun u => gt d u - 1) hb fun g1 g2 => ?_⟩
          obtain ⟨bb, e, _⟩ := hno g1 g2
          have e : (-1 : Int) = bb := by injection e
          omega
        · refine .inr ⟨bb, rfl, hb.keep fun g1 g2 => ?_⟩
          obtain ⟨b', e, hle⟩ := hno g1 g2
          have e : (bb : Int) = b' := by injection e
          obtain rfl : bb = b' := by omega
          show gt d bb - 1 ≤ gt d i - 1
          omega
      have yes : ∀ {w}, Hp w0 w (csd ++ (cso ++ (⟨b, 32, [sb, se]⟩ :: L))) → Best (fun u => gt d u - 1) (fun u => gt base u = gt out n) (i + 1) i → k (ptr b 0) (I (gt out n)) sd (I i) (I ((i : Int) + 1)) w := by
        intro w H hy
        exact hk (m - 1) _ _ _ _ _ _ (by omega) ⟨i + 1, rfl, rfl, rfl, rfl, by omega, H, .inr ⟨i, rfl, hy⟩⟩
      refine gtr_k (fun hg => ?_) (fun hg => ?_)
      · repeat (first | simp only [cI_enc, cE_enc, cN_enc, W0] | refine lss_a ?_ | refine lss_b ?_ | refine gtr_a ?_ | refine gtr_b ?_ | refine geq_a ?_ | refine geq_b ?_ | refine leq_a ?_ | refine leq_b ?_ | refine eql_a ?_ | refine eql_b ?_ | refine neq_a ?_ | refine neq_b ?_ | refine add_a ?_ | refine sub_a ?_ | refine ld_a ?_ | refine ldA_a ?_ | refine ldS_a ?_ | refine ldNS_a ?_ | refine rdA_s ?_ | refine rd1_s ?_ | refine drew_a fun w1 H1 => ?_ | refine st_a fun w1 H1 => ?_ | refine stA_a fun w1 H1 => ?_ | refine lenT_a ?_ | refine lenO_a ?_ | refine ixT_a ?_ | refine ixO_a ?_ | fail)
        refine eql_k (fun he => ?_) (fun he => ?_)
        · rcases hb with ⟨rfl, hb⟩ | ⟨bb, rfl, hb⟩
          · repeat (first | simp only [cI_enc, cE_enc, cN_enc, W0] | refine lss_a ?_ | refine lss_b ?_ | refine gtr_a ?_ | refine gtr_b ?_ | refine geq_a ?_ | refine geq_b ?_ | refine leq_a ?_ | refine leq_b ?_ | refine eql_a ?_ | refine eql_b ?_ | refine neq_a ?_ | refine neq_b ?_ | refine add_a ?_ | refine sub_a ?_ | refine ld_a ?_ | refine ldA_a ?_ | refine ldS_a ?_ | refine ldNS_a ?_ | refine rdA_s ?_ | refine rd1_s ?_ | refine drew_a fun w1 H1 => ?_ | refine st_a fun w1 H1 => ?_ | refine stA_a fun w1 H1 => ?_ | refine lenT_a ?_ | refine lenO_a ?_ | refine ixT_a ?_ | refine ixO_a ?_ | fail)
            exact yes (by assumption) (Best.take (by show 0 ≤ gt d i - 1; omega) he fun u hu g1 g2 => absurd g2 (hb u hu g1))
          · have hxbb : d[bb]? = some (gt d bb) := gt_some (by have := hb.lt; omega)
            repeat (first | simp only [cI_enc, cE_enc, cN_enc, W0] | refine lss_a ?_ | refine lss_b ?_ | refine gtr_a ?_ | refine gtr_b ?_ | refine geq_a ?_ | refine geq_b ?_ | refine leq_a ?_ | refine leq_b ?_ | refine eql_a ?_ | refine eql_b ?_ | refine neq_a ?_ | refine neq_b ?_ | refine add_a ?_ | refine sub_a ?_ | refine ld_a ?_ | refine ldA_a ?_ | refine ldS_a ?_ | refine ldNS_a ?_ | refine rdA_s ?_ | refine rd1_s ?_ | refine drew_a fun w1 H1 => ?_ | refine st_a fun w1 H1 => ?_ | refine stA_a fun w1 H1 => ?_ | refine lenT_a ?_ | refine lenO_a ?_ | refine ixT_a ?_ | refine ixO_a ?_ | fail)
            refine lss_k (fun hl => ?_) (fun hl => ?_)
            · repeat (first | simp only [cI_enc, cE_enc, cN_enc, W0] | refine lss_a ?_ | refine lss_b ?_ | refine gtr_a ?_ | refine gtr_b ?_ | refine geq_a ?_ | refine geq_b ?_ | refine leq_a ?_ | refine leq_b ?_ | refine eql_a ?_ | refine eql_b ?_ | refine neq_a ?_ | refine neq_b ?_ | refine add_a ?_ | refine sub_a ?_ | refine ld_a ?_ | refine ldA_a ?_ | refine ldS_a ?_ | refine ldNS_a ?_ | refine rdA_s ?_ | refine rd1_s ?_ | refine drew_a fun w1 H1 => ?_ | refine st_a fun w1 H1 => ?_ | refine stA_a fun w1 H1 => ?_ | refine lenT_a ?_ | refine lenO_a ?_ | refine ixT_a ?_ | refine ixO_a ?_ | fail)
              exact yes (by assumption) (Best.take (by show 0 ≤ gt d i - 1; omega) he fun u hu g1 g2 => by have := hb.min u hu g1 g2; show gt d i - 1 < gt d u - 1; omega)
            · repeat (first | simp only [cI_enc, cE_enc, cN_enc, W0] | refine lss_a ?_ | refine lss_b ?_ | refine gtr_a ?_ | refine gtr_b ?_ | refine geq_a ?_ | refine geq_b ?_ | refine leq_a ?_ | refine leq_b ?_ | refine eql_a ?_ | refine eql_b ?_ | refine neq_a ?_ | refine neq_b ?_ | refine add_a ?_ | refine sub_a ?_ | refine ld_a ?_ | refine ldA_a ?_ | refine ldS_a ?_ | refine ldNS_a ?_ | refine rdA_s ?_ | refine rd1_s ?_ | refine drew_a fun w1 H1 => ?_ | refine st_a fun w1 H1 => ?_ | refine stA_a fun w1 H1 => ?_ | refine lenT_a ?_ | refine lenO_a ?_ | refine ixT_a ?_ | refine ixO_a ?_ | fail)
              exact no (by assumption) fun _ _ => ⟨bb, rfl, by omega⟩
        · repeat (first | simp only [cI_enc, cE_enc, cN_enc, W0] | refine lss_a ?_ | refine lss_b ?_ | refine gtr_a ?_ | refine gtr_b ?_ | refine geq_a ?_ | refine geq_b ?_ | refine leq_a ?_ | refine leq_b ?_ | refine eql_a ?_ | refine eql_b ?_ | refine neq_a ?_ | refine neq_b ?_ | refine add_a ?_ | refine sub_a ?_ | refine ld_a ?_ | refine ldA_a ?_ | refine ldS_a ?_ | refine ldNS_a ?_ | refine rdA_s ?_ | refine rd1_s ?_ | refine drew_a fun w1 H1 => ?_ | refine st_a fun w1 H1 => ?_ | refine stA_a fun w1 H1 => ?_ | refine lenT_a ?_ | refine lenO_a ?_ | refine ixT_a ?_ | refine ixO_a ?_ | fail)
          exact no (by assumption) fun _ h => absurd h he
      · repeat (first | simp only [cI_enc, cE_enc, cN_enc, W0] | refine lss_a ?_ | refine lss_b ?_ | refine gtr_a ?_ | refine gtr_b ?_ | refine geq_a ?_ | refine geq_b ?_ | refine leq_a ?_ | refine leq_b ?_ | refine eql_a ?_ | refine eql_b ?_ | refine neq_a ?_ | refine neq_b ?_ | refine add_a ?_ | refine sub_a ?_ | refine ld_a ?_ | refine ldA_a ?_ | refine ldS_a ?_ | refine ldNS_a ?_ | refine rdA_s ?_ | refine rd1_s ?_ | refine drew_a fun w1 H1 => ?_ | refine st_a fun w1 H1 => ?_ | refine stA_a fun w1 H1 => ?_ | refine lenT_a ?_ | refine lenO_a ?_ | refine ixT_a ?_ | refine ixO_a ?_ | fail)
        exact no (by assumption) fun h => by omega
    · repeat (first | simp only [cI_enc, cE_enc, cN_enc, W0] | refine lss_a ?_ | refine lss_b ?_ | refine gtr_a ?_ | refine gtr_b ?_ | refine geq_a ?_ | refine geq_b ?_ | refine leq_a ?_ | refine leq_b ?_ | refine eql_a ?_ | refine eql_b ?_ | refine neq_a ?_ | refine neq_b ?_ | refine add_a ?_ | refine sub_a ?_ | refine ld_a ?_ | refine ldA_a ?_ | refine ldS_a ?_ | refine ldNS_a ?_ | refine rdA_s ?_ | refine rd1_s ?_ | refine drew_a fun w1 H1 => ?_ | refine st_a fun w1 H1 => ?_ | refine stA_a fun w1 H1 => ?_ | refine lenT_a ?_ | refine lenO_a ?_ | refine ixT_a ?_ | refine ixO_a ?_ | fail)
      obtain rfl : i = base.length := by omega
      obtain ⟨j, hj, hr, ej⟩ := ho.why n hn
      obtain ⟨kk, pk⟩ := hr.path
      have hdj := (hD.le j hj kk pk).1
      rcases hb with ⟨rfl, hb⟩ | ⟨bb, rfl, hb⟩
      · exact absurd ej.symm (hb j hj hdj)
      · have hbl := hb.lt
        have hle : gt d bb - 1 ≤ base.length := hD.val_le c5 hbl
        have hnn : 0 ≤ gt d bb - 1 := hb.nn
        refine cal_h (chain_spec (from_ := bb) (to := n) (k0 := (gt d bb - 1).toNat) h1 h2' (TS.tr hsd) H (by intro c hc; simp [m1 c hc]) (by intro c hc; simp [m2 c hc]) (by intro c hc; simp [hc]) c5 c1 hel hbl hdl hD (by omega) (by omega)) ?_
        rintro _ w ⟨s, cs, rfl, H, hs⟩
        simp only [ret_k]
        refine .inr (.inr ⟨h, n, rfl, hn, s, cs, out, bb, (by first | rfl | trivial), H.re, ho, hD.dst, hb.congr fun u hu => hE u hu, ?_⟩)
        rw [← hE bb hbl, ← chainP_congr hE]
        exact hs
end
end Go.Proofs.Ytagcifbfokneoaa.Den
