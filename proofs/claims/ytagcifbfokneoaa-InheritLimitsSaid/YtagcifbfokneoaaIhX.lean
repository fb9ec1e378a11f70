/- Inherit: the law Limits. Conditions: none. -/
import Derived.Test.YtagcifbfokneoaaIhR
set_option linter.unusedVariables false
set_option linter.unusedSimpArgs false
set_option maxRecDepth 8000
set_option maxHeartbeats 1000000
namespace Go.Proofs.Ytagcifbfokneoaa.Den
open Go Go.RowKit
def bsN (p : Nat) : List Nat := (List.range p).map fun i => i % 256
def esN (q : Nat) : List (Nat × Nat) := (List.range q).map fun i => (i % 249, (i + i / 249 + 1) % 249)
theorem bsN_succ (p : Nat) : bsN (p + 1) = bsN p ++ [p % 256] := by simp [bsN, List.range_succ]
theorem esN_succ (q : Nat) : esN (q + 1) = esN q ++ [(q % 249, (q + q / 249 + 1) % 249)] := by simp [esN, List.range_succ]
theorem bsN_len (p : Nat) : (bsN p).length = p := by simp [bsN]
theorem esN_len (q : Nat) : (esN q).length = q := by simp [esN]
theorem nodup_map_range {α : Type} {f : Nat → α} {q : Nat} (h : ∀ i j, i < q → j < q → f i = f j → i = j) : ((List.range q).map f).Nodup := by
  rw [List.nodup_iff_pairwise_ne, List.pairwise_map]
  have hp : (List.range q).Pairwise fun a b => a < q ∧ b < q ∧ a < b := by
    rw [List.pairwise_iff_getElem]
    intro i j hi hj hij
    simp at hi hj ⊢
    omega
  exact hp.imp fun ⟨h1, h2, h3⟩ e => by have := h _ _ h1 h2 e; omega
theorem chk_lim {p q : Nat} (hp : 249 ≤ p) (hq : q ≤ 2005) : chk ((bsN p).map fun n : Nat => (n : Int)) ((esN q).map ofN) = if 256 < p ∨ 2000 < q then 18 else 0 := by
  have hnd : ((esN q).map ofN).Nodup := by
    unfold esN
    rw [List.map_map]
    refine nodup_map_range fun i j hi hj e => ?_
    simp [ofN] at e
    omega
  unfold chk
  rw [List.length_map, List.length_map, bsN_len, esN_len]
  by_cases h : 256 < p ∨ 2000 < q
  · rw [if_pos h, if_pos h]
  rw [if_neg h, if_neg h, if_neg, if_neg, if_neg (by simpa using hnd)]
  · rintro ⟨e, he, h⟩
    have hv : (0 ≤ e.1 ∧ e.1 < 249) ∧ (0 ≤ e.2 ∧ e.2 < 249) := by
      rw [esN, List.map_map] at he
      obtain ⟨i, _, rfl⟩ := List.mem_map.1 he
      show (0 ≤ ((i % 249 : Nat) : Int) ∧ ((i % 249 : Nat) : Int) < 249) ∧ (0 ≤ (((i + i / 249 + 1) % 249 : Nat) : Int) ∧ (((i + i / 249 + 1) % 249 : Nat) : Int) < 249)
      omega
    unfold inR at h
    rw [decide_eq_false_iff_not, decide_eq_false_iff_not] at h
    omega
  · rintro ⟨x, hx, h⟩
    rw [bsN, List.map_map] at hx
    obtain ⟨i, _, rfl⟩ := List.mem_map.1 hx
    simp at h
    omega
theorem remU8 (n : Nat) : bin .rem (.int .u8 (n : Int)) (.int .u8 11) = some (.int .u8 ((n % 11 : Nat) : Int)) := by
  rw [bin_rem (by decide)]; rfl
theorem remI (n m : Nat) (h : m ≠ 0) : bin .rem (I (n : Int)) (I (m : Int)) = some (I ((n % m : Nat) : Int)) := by
  rw [bin_rem (by omega)]; rfl
theorem quoI (n m : Nat) (h : m ≠ 0) (hn : n < 2 ^ 62) : bin .quo (I (n : Int)) (I (m : Int)) = some (I ((n / m : Nat) : Int)) := by
  have := Nat.div_le_self n m
  rw [bin_quo (by omega), show Int.tdiv (n : Int) (m : Int) = ((n / m : Nat) : Int) from rfl]
  generalize n / m = q at *
  rw [wrap64_id (by omega) (by omega)]
theorem bld2u {a b : Int} : bldO [.int .i64 0, .int .i64 0] [(0, 1, I a), (1, 1, I b)] = some (.agg ⟨[I a, I b]⟩) := rfl
section
variable {w w' w0 : World} {L L' F cs cs2 cs3 : List Chunk} {s s2 sb se sd : Value} {K : VK} {R : ER}
theorem Limits_law {n0 n1 : Nat} (g0 : n0 < 256) (g1 : n1 < 256) (H : Hp w0 w L) :
    Calls Pg 4 ⟨[.int .u8 (n0 : Int), .int .u8 (n1 : Int)]⟩ w fun x w' => x = .returned (.bool true) ∧ Hp w0 w' L := by
  apply F4_calls
  unfold F4
  refine pv_of (v := .agg ⟨[.slice none 0 0, .slice none 0 0]⟩) rfl ?_
  refine al_m (ys := [.slice none 0 0, .slice none 0 0]) (by assumption) (by kernel_rfl) fun w b H => ?_
  repeat (first | simp only [cI_enc, cE_enc, cN_enc, W0] | refine lss_a ?_ | refine lss_b ?_ | refine gtr_a ?_ | refine gtr_b ?_ | refine geq_a ?_ | refine geq_b ?_ | refine leq_a ?_ | refine leq_b ?_ | refine eql_a ?_ | refine eql_b ?_ | refine neq_a ?_ | refine neq_b ?_ | refine add_a ?_ | refine sub_a ?_ | refine ld_a ?_ | refine ldA_a ?_ | refine ldS_a ?_ | refine ldNS_a ?_ | refine rdA_s ?_ | refine rd1_s ?_ | refine drew_a fun w1 H1 => ?_ | refine st_a fun w1 H1 => ?_ | refine stA_a fun w1 H1 => ?_ | refine lenT_a ?_ | refine lenO_a ?_ | refine ixT_a ?_ | refine ixO_a ?_ | fail)
  unfold F4_j7 F4_j8
  have r0 : n0 % 11 < 11 := Nat.mod_lt _ (by omega)
  have r1 : n1 % 11 < 11 := Nat.mod_lt _ (by omega)
  refine loop4 (F4_l2_succ _) (fun m x0 x1 x5 x6 w => ∃ i : Nat, ∃ sb cb, x0 = .int .u8 (n0 : Int) ∧ x1 = .int .u8 (n1 : Int) ∧ x5 = ptr b 0 ∧ x6 = I i ∧ m + i = 250 + n0 % 11 ∧ TS cU 3 sb (bsN i) cb ∧ Hp w0 w (⟨b, 25, [sb, .slice none 0 0]⟩ :: (cb ++ L))) ?_ (m := 250 + n0 % 11)
    ⟨0, .slice none 0 0, [], rfl, rfl, rfl, rfl, by omega, TS.nil, Hp.re (by assumption)⟩
  rintro m k x0 x1 x5 x6 w ⟨i, sb, cb, rfl, rfl, rfl, rfl, hm, hb, H⟩ hk
  unfold F4_b2
  refine pv_of (remU8 n0) ?_
  refine pv_of (v := I ((n0 % 11 : Nat) : Int)) (by rw [cvI_mk, wrap64_id (by omega) (by omega)]) ?_
  repeat (first | simp only [cI_enc, cE_enc, cN_enc, W0] | refine lss_a ?_ | refine lss_b ?_ | refine gtr_a ?_ | refine gtr_b ?_ | refine geq_a ?_ | refine geq_b ?_ | refine leq_a ?_ | refine leq_b ?_ | refine eql_a ?_ | refine eql_b ?_ | refine neq_a ?_ | refine neq_b ?_ | refine add_a ?_ | refine sub_a ?_ | refine ld_a ?_ | refine ldA_a ?_ | refine ldS_a ?_ | refine ldNS_a ?_ | refine rdA_s ?_ | refine rd1_s ?_ | refine drew_a fun w1 H1 => ?_ | refine st_a fun w1 H1 => ?_ | refine stA_a fun w1 H1 => ?_ | refine lenT_a ?_ | refine lenO_a ?_ | refine ixT_a ?_ | refine ixO_a ?_ | fail)
  by_cases hi : i < 250 + n0 % 11
  · repeat (first | simp only [cI_enc, cE_enc, cN_enc, W0] | refine lss_a ?_ | refine lss_b ?_ | refine gtr_a ?_ | refine gtr_b ?_ | refine geq_a ?_ | refine geq_b ?_ | refine leq_a ?_ | refine leq_b ?_ | refine eql_a ?_ | refine eql_b ?_ | refine neq_a ?_ | refine neq_b ?_ | refine add_a ?_ | refine sub_a ?_ | refine ld_a ?_ | refine ldA_a ?_ | refine ldS_a ?_ | refine ldNS_a ?_ | refine rdA_s ?_ | refine rd1_s ?_ | refine drew_a fun w1 H1 => ?_ | refine st_a fun w1 H1 => ?_ | refine stA_a fun w1 H1 => ?_ | refine lenT_a ?_ | refine lenO_a ?_ | refine ixT_a ?_ | refine ixO_a ?_ | fail)
    refine pv_of (remI i 256 (by omega)) ?_
    have hbl := bsN_len i
    refine app1_t (x := i % 256) elU (by assumption) hb spl rfl (by decide) (by omega) (by omega) fun w sb' cb' H hb' => ?_
    have hsc := hb'.sc
    rw [← bsN_succ] at hb'
    repeat (first | simp only [cI_enc, cE_enc, cN_enc, W0] | refine lss_a ?_ | refine lss_b ?_ | refine gtr_a ?_ | refine gtr_b ?_ | refine geq_a ?_ | refine geq_b ?_ | refine leq_a ?_ | refine leq_b ?_ | refine eql_a ?_ | refine eql_b ?_ | refine neq_a ?_ | refine neq_b ?_ | refine add_a ?_ | refine sub_a ?_ | refine ld_a ?_ | refine ldA_a ?_ | refine ldS_a ?_ | refine ldNS_a ?_ | refine rdA_s ?_ | refine rd1_s ?_ | refine drew_a fun w1 H1 => ?_ | refine st_a fun w1 H1 => ?_ | refine stA_a fun w1 H1 => ?_ | refine lenT_a ?_ | refine lenO_a ?_ | refine ixT_a ?_ | refine ixO_a ?_ | fail)
    exact hk (m - 1) _ _ _ _ _ (by omega) ⟨i + 1, sb', cb', rfl, rfl, rfl, rfl, by omega, hb', Hp.re (by assumption)⟩
  obtain rfl : i = 250 + n0 % 11 := by omega
  clear hk hm
  repeat (first | simp only [cI_enc, cE_enc, cN_enc, W0] | refine lss_a ?_ | refine lss_b ?_ | refine gtr_a ?_ | refine gtr_b ?_ | refine geq_a ?_ | refine geq_b ?_ | refine leq_a ?_ | refine leq_b ?_ | refine eql_a ?_ | refine eql_b ?_ | refine neq_a ?_ | refine neq_b ?_ | refine add_a ?_ | refine sub_a ?_ | refine ld_a ?_ | refine ldA_a ?_ | refine ldS_a ?_ | refine ldNS_a ?_ | refine rdA_s ?_ | refine rd1_s ?_ | refine drew_a fun w1 H1 => ?_ | refine st_a fun w1 H1 => ?_ | refine stA_a fun w1 H1 => ?_ | refine lenT_a ?_ | refine lenO_a ?_ | refine ixT_a ?_ | refine ixO_a ?_ | fail)
  unfold F4_j1 F4_j4 F4_j5
  refine loop3 (F4_l1_succ _) (fun m x1 x5 x7 w => ∃ i : Nat, ∃ se ce, x1 = .int .u8 (n1 : Int) ∧ x5 = ptr b 0 ∧ x7 = I i ∧ m + i = 1995 + n1 % 11 ∧ TS cN 39 se (esN i) ce ∧ Hp w0 w (⟨b, 25, [sb, se]⟩ :: (ce ++ (cb ++ L)))) ?_ (m := 1995 + n1 % 11)
    ⟨0, .slice none 0 0, [], rfl, rfl, rfl, by omega, TS.nil, Hp.re (by assumption)⟩
  rintro m k x1 x5 x7 w ⟨i, se, ce, rfl, rfl, rfl, hm, he, H⟩ hk
  unfold F4_b1
  refine pv_of (remU8 n1) ?_
  refine pv_of (v := I ((n1 % 11 : Nat) : Int)) (by rw [cvI_mk, wrap64_id (by omega) (by omega)]) ?_
  repeat (first | simp only [cI_enc, cE_enc, cN_enc, W0] | refine lss_a ?_ | refine lss_b ?_ | refine gtr_a ?_ | refine gtr_b ?_ | refine geq_a ?_ | refine geq_b ?_ | refine leq_a ?_ | refine leq_b ?_ | refine eql_a ?_ | refine eql_b ?_ | refine neq_a ?_ | refine neq_b ?_ | refine add_a ?_ | refine sub_a ?_ | refine ld_a ?_ | refine ldA_a ?_ | refine ldS_a ?_ | refine ldNS_a ?_ | refine rdA_s ?_ | refine rd1_s ?_ | refine drew_a fun w1 H1 => ?_ | refine st_a fun w1 H1 => ?_ | refine stA_a fun w1 H1 => ?_ | refine lenT_a ?_ | refine lenO_a ?_ | refine ixT_a ?_ | refine ixO_a ?_ | fail)
  by_cases hi : i < 1995 + n1 % 11
  · repeat (first | simp only [cI_enc, cE_enc, cN_enc, W0] | refine lss_a ?_ | refine lss_b ?_ | refine gtr_a ?_ | refine gtr_b ?_ | refine geq_a ?_ | refine geq_b ?_ | refine leq_a ?_ | refine leq_b ?_ | refine eql_a ?_ | refine eql_b ?_ | refine neq_a ?_ | refine neq_b ?_ | refine add_a ?_ | refine sub_a ?_ | refine ld_a ?_ | refine ldA_a ?_ | refine ldS_a ?_ | refine ldNS_a ?_ | refine rdA_s ?_ | refine rd1_s ?_ | refine drew_a fun w1 H1 => ?_ | refine st_a fun w1 H1 => ?_ | refine stA_a fun w1 H1 => ?_ | refine lenT_a ?_ | refine lenO_a ?_ | refine ixT_a ?_ | refine ixO_a ?_ | fail)
    refine pv_of (remI i 249 (by omega)) ?_
    refine pv_of (quoI i 249 (by omega) (by omega)) ?_
    repeat (first | simp only [cI_enc, cE_enc, cN_enc, W0] | refine lss_a ?_ | refine lss_b ?_ | refine gtr_a ?_ | refine gtr_b ?_ | refine geq_a ?_ | refine geq_b ?_ | refine leq_a ?_ | refine leq_b ?_ | refine eql_a ?_ | refine eql_b ?_ | refine neq_a ?_ | refine neq_b ?_ | refine add_a ?_ | refine sub_a ?_ | refine ld_a ?_ | refine ldA_a ?_ | refine ldS_a ?_ | refine ldNS_a ?_ | refine rdA_s ?_ | refine rd1_s ?_ | refine drew_a fun w1 H1 => ?_ | refine st_a fun w1 H1 => ?_ | refine stA_a fun w1 H1 => ?_ | refine lenT_a ?_ | refine lenO_a ?_ | refine ixT_a ?_ | refine ixO_a ?_ | fail)
    refine pv_of (v := I (((i + i / 249 + 1) % 249 : Nat) : Int)) (by
      rw [show ((i : Int) + ((i / 249 : Nat) : Int) + 1) = ((i + i / 249 + 1 : Nat) : Int) by omega]; exact remI _ 249 (by omega)) ?_
    refine pv_of bld2u ?_
    have hel := esN_len i
    refine app1_t (x := (i % 249, (i + i / 249 + 1) % 249)) elN (by assumption) he spl rfl (by decide) (by omega) (by omega) fun w se' ce' H he' => ?_
    have hsc := he'.sc
    rw [← esN_succ] at he'
    repeat (first | simp only [cI_enc, cE_enc, cN_enc, W0] | refine lss_a ?_ | refine lss_b ?_ | refine gtr_a ?_ | refine gtr_b ?_ | refine geq_a ?_ | refine geq_b ?_ | refine leq_a ?_ | refine leq_b ?_ | refine eql_a ?_ | refine eql_b ?_ | refine neq_a ?_ | refine neq_b ?_ | refine add_a ?_ | refine sub_a ?_ | refine ld_a ?_ | refine ldA_a ?_ | refine ldS_a ?_ | refine ldNS_a ?_ | refine rdA_s ?_ | refine rd1_s ?_ | refine drew_a fun w1 H1 => ?_ | refine st_a fun w1 H1 => ?_ | refine stA_a fun w1 H1 => ?_ | refine lenT_a ?_ | refine lenO_a ?_ | refine ixT_a ?_ | refine ixO_a ?_ | fail)
    exact hk (m - 1) _ _ _ _ (by omega) ⟨i + 1, se', ce', rfl, rfl, rfl, by omega, he', Hp.re (by assumption)⟩
  obtain rfl : i = 1995 + n1 % 11 := by omega
  clear hk hm
  have hbl := bsN_len (250 + n0 % 11)
  have hel := esN_len (1995 + n1 % 11)
  have hck := chk_lim (p := 250 + n0 % 11) (q := 1995 + n1 % 11) (by omega) (by omega)
  have fin : ∀ {w : World} {c : Int}, c = chk ((bsN (250 + n0 % 11)).map fun n : Nat => (n : Int)) ((esN (1995 + n1 % 11)).map ofN) → Hp w0 w (⟨b, 25, [sb, se]⟩ :: (ce ++ (cb ++ L))) → cal Pg (fun x w' => x = .returned (.bool true) ∧ Hp w0 w' L) 16 ⟨[.agg ⟨[sb, se]⟩]⟩ (fun v2 => pv (bin .eql v2 (I c)) fun v3 =>
      gd v3 true (cal Pg (fun x w' => x = .returned (.bool true) ∧ Hp w0 w' L) 12 ⟨[]⟩) fun v4 => pv (pickO v3 v4 (.bool false)) fun v5 w' => Ending.returned v5 = .returned (.bool true) ∧ Hp w0 w' L) w := by
    intro w c hc H
    refine cal_h (Check_spec (toI hb.tr) (ofCN he.tr) (by assumption) csub csub) ?_
    rintro _ w ⟨rfl, H⟩
    repeat (first | simp only [cI_enc, cE_enc, cN_enc, W0] | refine lss_a ?_ | refine lss_b ?_ | refine gtr_a ?_ | refine gtr_b ?_ | refine geq_a ?_ | refine geq_b ?_ | refine leq_a ?_ | refine leq_b ?_ | refine eql_a ?_ | refine eql_b ?_ | refine neq_a ?_ | refine neq_b ?_ | refine add_a ?_ | refine sub_a ?_ | refine ld_a ?_ | refine ldA_a ?_ | refine ldS_a ?_ | refine ldNS_a ?_ | refine rdA_s ?_ | refine rd1_s ?_ | refine drew_a fun w1 H1 => ?_ | refine st_a fun w1 H1 => ?_ | refine stA_a fun w1 H1 => ?_ | refine lenT_a ?_ | refine lenO_a ?_ | refine ixT_a ?_ | refine ixO_a ?_ | fail)
    refine cal_h (awake_spec (by assumption)) ?_
    rintro _ w ⟨rfl, H⟩
    repeat (first | simp only [cI_enc, cE_enc, cN_enc, W0] | refine lss_a ?_ | refine lss_b ?_ | refine gtr_a ?_ | refine gtr_b ?_ | refine geq_a ?_ | refine geq_b ?_ | refine leq_a ?_ | refine leq_b ?_ | refine eql_a ?_ | refine eql_b ?_ | refine neq_a ?_ | refine neq_b ?_ | refine add_a ?_ | refine sub_a ?_ | refine ld_a ?_ | refine ldA_a ?_ | refine ldS_a ?_ | refine ldNS_a ?_ | refine rdA_s ?_ | refine rd1_s ?_ | refine drew_a fun w1 H1 => ?_ | refine st_a fun w1 H1 => ?_ | refine stA_a fun w1 H1 => ?_ | refine lenT_a ?_ | refine lenO_a ?_ | refine ixT_a ?_ | refine ixO_a ?_ | fail)
    exact ⟨(by first | rfl | trivial), Hp.re (by assumption)⟩
  unfold F4_j2
  by_cases q1 : 256 < 250 + n0 % 11
  · rw [if_pos (.inl q1)] at hck
    repeat (first | simp only [cI_enc, cE_enc, cN_enc, W0] | refine lss_a ?_ | refine lss_b ?_ | refine gtr_a ?_ | refine gtr_b ?_ | refine geq_a ?_ | refine geq_b ?_ | refine leq_a ?_ | refine leq_b ?_ | refine eql_a ?_ | refine eql_b ?_ | refine neq_a ?_ | refine neq_b ?_ | refine add_a ?_ | refine sub_a ?_ | refine ld_a ?_ | refine ldA_a ?_ | refine ldS_a ?_ | refine ldNS_a ?_ | refine rdA_s ?_ | refine rd1_s ?_ | refine drew_a fun w1 H1 => ?_ | refine st_a fun w1 H1 => ?_ | refine stA_a fun w1 H1 => ?_ | refine lenT_a ?_ | refine lenO_a ?_ | refine ixT_a ?_ | refine ixO_a ?_ | fail)
    exact fin hck.symm (by assumption)
  · by_cases q2 : 2000 < 1995 + n1 % 11
    · rw [if_pos (.inr q2)] at hck
      repeat (first | simp only [cI_enc, cE_enc, cN_enc, W0] | refine lss_a ?_ | refine lss_b ?_ | refine gtr_a ?_ | refine gtr_b ?_ | refine geq_a ?_ | refine geq_b ?_ | refine leq_a ?_ | refine leq_b ?_ | refine eql_a ?_ | refine eql_b ?_ | refine neq_a ?_ | refine neq_b ?_ | refine add_a ?_ | refine sub_a ?_ | refine ld_a ?_ | refine ldA_a ?_ | refine ldS_a ?_ | refine ldNS_a ?_ | refine rdA_s ?_ | refine rd1_s ?_ | refine drew_a fun w1 H1 => ?_ | refine st_a fun w1 H1 => ?_ | refine stA_a fun w1 H1 => ?_ | refine lenT_a ?_ | refine lenO_a ?_ | refine ixT_a ?_ | refine ixO_a ?_ | fail)
      exact fin hck.symm (by assumption)
    · rw [if_neg (by omega)] at hck
      repeat (first | simp only [cI_enc, cE_enc, cN_enc, W0] | refine lss_a ?_ | refine lss_b ?_ | refine gtr_a ?_ | refine gtr_b ?_ | refine geq_a ?_ | refine geq_b ?_ | refine leq_a ?_ | refine leq_b ?_ | refine eql_a ?_ | refine eql_b ?_ | refine neq_a ?_ | refine neq_b ?_ | refine add_a ?_ | refine sub_a ?_ | refine ld_a ?_ | refine ldA_a ?_ | refine ldS_a ?_ | refine ldNS_a ?_ | refine rdA_s ?_ | refine rd1_s ?_ | refine drew_a fun w1 H1 => ?_ | refine st_a fun w1 H1 => ?_ | refine stA_a fun w1 H1 => ?_ | refine lenT_a ?_ | refine lenO_a ?_ | refine ixT_a ?_ | refine ixO_a ?_ | fail)
      exact fin hck.symm (by assumption)
end
end Go.Proofs.Ytagcifbfokneoaa.Den
