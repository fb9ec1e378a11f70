/- Channels: Create, Attach. Conditions: none. -/
import Derived.Test.YtmkcjopacmadhaaGreatChO
set_option linter.unusedVariables false
set_option linter.unusedSimpArgs false
set_option maxRecDepth 8000
set_option maxHeartbeats 2000000
namespace Go.Proofs.YtmkcjopacmadhaaGreat.Den
open Go Go.RowKit
section
variable {w w' w0 : World} {L L' F cs cs2 cs3 A : List Chunk} {s s2 : Value} {K : VK} {R : ER} {tb n b : Nat} {T : Tbl} {pri th code val p id : Int} {c : Chunk} {unb : Bool}
theorem Create_spec (hA : TblAt tb T n A) (hp : proc p) (hn : n < 200) (H : Hp w0 w L) (hS : Split L A F := by exact spl) :
    Calls Pg 24 ⟨[ptr tb 0, I p, .bool unb]⟩ w fun x w' => ∃ (m r sb : Nat) (A' : List Chunk), x = .returned (.tuple ⟨[I (m : Int), I 0]⟩) ∧ (T.chm (m : Int) = none ∧ ∀ j : Nat, j < m → T.chm (j : Int) ≠ none) ∧ oget r T.chs = none ∧
      TblAt tb { T with chm := updF T.chm (m : Int) (some r), chs := T.chs ++ [(r, ⟨(m : Int), p, unb, [], [], fun _ => none, shN, shN, sb⟩)] } (n + 1) A' ∧ Hp w0 w' (A' ++ F) := by
  have hA0 := hA
  have H := H.split hS
  apply F24_calls
  unfold F24 F24_j2
  repeat (first | simp only [W0, pO, Option.map_some, Option.map_none] | with_reducible (first | refine lss_a ?_ | refine lss_b ?_ | refine gtr_a ?_ | refine gtr_b ?_ | refine geq_a ?_ | refine geq_b ?_ | refine leq_a ?_ | refine leq_b ?_ | refine eql_a ?_ | refine eql_b ?_ | refine neq_a ?_ | refine neq_b ?_ | refine add_a ?_ | refine sub_a ?_ | refine ld_a ?_ | refine ldA_a ?_ | refine ldS_a ?_ | refine ldNS_a ?_ | refine rdA_s ?_ | refine rd1_s ?_ | refine drew_a fun w1 H1 => ?_ | refine st_a fun w1 H1 => ?_ | refine stA_a fun w1 H1 => ?_ | refine lenT_a ?_ | refine lenO_a ?_ | refine ixT_a ?_ | refine ixO_a ?_ | refine bld_a ?_ | refine min_a ?_ | refine max_a ?_  | refine ldT_a ?_ | refine ldC_a ?_ | refine ldX_a ?_ | refine ldM_a ?_ | refine rdT_a ?_ | refine rdC_a ?_ | refine rdX_a ?_ | refine rdM_a ?_ | refine getCh_a ?_ | refine getCh2_a ?_ | refine getCn_a ?_ | refine getCn2_a ?_ | refine getPl_a ?_ | refine getPl2_a ?_ | refine getTk_a ?_ | refine getAn2_a ?_ | refine lenE_a ?_ | refine lenR_a ?_ | refine cv8_a ?_ | refine cv64_a ?_ | fail))
  unfold F24_j3
  simp only [W0]
  unfold F24_j4
  refine cal_h (process_spec H) ?_
  rintro _ w ⟨rfl, H⟩
  rw [decide_eq_true hp]
  repeat (first | simp only [W0, pO, Option.map_some, Option.map_none] | with_reducible (first | refine lss_a ?_ | refine lss_b ?_ | refine gtr_a ?_ | refine gtr_b ?_ | refine geq_a ?_ | refine geq_b ?_ | refine leq_a ?_ | refine leq_b ?_ | refine eql_a ?_ | refine eql_b ?_ | refine neq_a ?_ | refine neq_b ?_ | refine add_a ?_ | refine sub_a ?_ | refine ld_a ?_ | refine ldA_a ?_ | refine ldS_a ?_ | refine ldNS_a ?_ | refine rdA_s ?_ | refine rd1_s ?_ | refine drew_a fun w1 H1 => ?_ | refine st_a fun w1 H1 => ?_ | refine stA_a fun w1 H1 => ?_ | refine lenT_a ?_ | refine lenO_a ?_ | refine ixT_a ?_ | refine ixO_a ?_ | refine bld_a ?_ | refine min_a ?_ | refine max_a ?_  | refine ldT_a ?_ | refine ldC_a ?_ | refine ldX_a ?_ | refine ldM_a ?_ | refine rdT_a ?_ | refine rdC_a ?_ | refine rdX_a ?_ | refine rdM_a ?_ | refine getCh_a ?_ | refine getCh2_a ?_ | refine getCn_a ?_ | refine getCn2_a ?_ | refine getPl_a ?_ | refine getPl2_a ?_ | refine getTk_a ?_ | refine getAn2_a ?_ | refine lenE_a ?_ | refine lenR_a ?_ | refine cv8_a ?_ | refine cv64_a ?_ | fail))
  obtain ⟨c1, A1, g1, e1, hre1⟩ := hA.map1
  refine mapLen mapsH.ch g1 (by assumption) (by simp [e1.mem]) fun m hm => ?_
  repeat (first | simp only [W0, pO, Option.map_some, Option.map_none] | with_reducible (first | refine lss_a ?_ | refine lss_b ?_ | refine gtr_a ?_ | refine gtr_b ?_ | refine geq_a ?_ | refine geq_b ?_ | refine leq_a ?_ | refine leq_b ?_ | refine eql_a ?_ | refine eql_b ?_ | refine neq_a ?_ | refine neq_b ?_ | refine add_a ?_ | refine sub_a ?_ | refine ld_a ?_ | refine ldA_a ?_ | refine ldS_a ?_ | refine ldNS_a ?_ | refine rdA_s ?_ | refine rd1_s ?_ | refine drew_a fun w1 H1 => ?_ | refine st_a fun w1 H1 => ?_ | refine stA_a fun w1 H1 => ?_ | refine lenT_a ?_ | refine lenO_a ?_ | refine ixT_a ?_ | refine ixO_a ?_ | refine bld_a ?_ | refine min_a ?_ | refine max_a ?_  | refine ldT_a ?_ | refine ldC_a ?_ | refine ldX_a ?_ | refine ldM_a ?_ | refine rdT_a ?_ | refine rdC_a ?_ | refine rdX_a ?_ | refine rdM_a ?_ | refine getCh_a ?_ | refine getCh2_a ?_ | refine getCn_a ?_ | refine getCn2_a ?_ | refine getPl_a ?_ | refine getPl2_a ?_ | refine getTk_a ?_ | refine getAn2_a ?_ | refine lenE_a ?_ | refine lenR_a ?_ | refine cv8_a ?_ | refine cv64_a ?_ | fail))
  try unfold F24_j1
  repeat (first | simp only [W0, pO, Option.map_some, Option.map_none] | with_reducible (first | refine lss_a ?_ | refine lss_b ?_ | refine gtr_a ?_ | refine gtr_b ?_ | refine geq_a ?_ | refine geq_b ?_ | refine leq_a ?_ | refine leq_b ?_ | refine eql_a ?_ | refine eql_b ?_ | refine neq_a ?_ | refine neq_b ?_ | refine add_a ?_ | refine sub_a ?_ | refine ld_a ?_ | refine ldA_a ?_ | refine ldS_a ?_ | refine ldNS_a ?_ | refine rdA_s ?_ | refine rd1_s ?_ | refine drew_a fun w1 H1 => ?_ | refine st_a fun w1 H1 => ?_ | refine stA_a fun w1 H1 => ?_ | refine lenT_a ?_ | refine lenO_a ?_ | refine ixT_a ?_ | refine ixO_a ?_ | refine bld_a ?_ | refine min_a ?_ | refine max_a ?_  | refine ldT_a ?_ | refine ldC_a ?_ | refine ldX_a ?_ | refine ldM_a ?_ | refine rdT_a ?_ | refine rdC_a ?_ | refine rdX_a ?_ | refine rdM_a ?_ | refine getCh_a ?_ | refine getCh2_a ?_ | refine getCn_a ?_ | refine getCn2_a ?_ | refine getPl_a ?_ | refine getPl2_a ?_ | refine getTk_a ?_ | refine getAn2_a ?_ | refine lenE_a ?_ | refine lenR_a ?_ | refine cv8_a ?_ | refine cv64_a ?_ | fail))
  refine cal_h (freeC_spec (f := T.chm) g1 (by omega) (by assumption) (by simp [e1.mem])) ?_
  rintro _ w ⟨m, rfl, H, hmn, hm1, hm2⟩
  repeat (first | simp only [W0, pO, Option.map_some, Option.map_none] | with_reducible (first | refine lss_a ?_ | refine lss_b ?_ | refine gtr_a ?_ | refine gtr_b ?_ | refine geq_a ?_ | refine geq_b ?_ | refine leq_a ?_ | refine leq_b ?_ | refine eql_a ?_ | refine eql_b ?_ | refine neq_a ?_ | refine neq_b ?_ | refine add_a ?_ | refine sub_a ?_ | refine ld_a ?_ | refine ldA_a ?_ | refine ldS_a ?_ | refine ldNS_a ?_ | refine rdA_s ?_ | refine rd1_s ?_ | refine drew_a fun w1 H1 => ?_ | refine st_a fun w1 H1 => ?_ | refine stA_a fun w1 H1 => ?_ | refine lenT_a ?_ | refine lenO_a ?_ | refine ixT_a ?_ | refine ixO_a ?_ | refine bld_a ?_ | refine min_a ?_ | refine max_a ?_  | refine ldT_a ?_ | refine ldC_a ?_ | refine ldX_a ?_ | refine ldM_a ?_ | refine rdT_a ?_ | refine rdC_a ?_ | refine rdX_a ?_ | refine rdM_a ?_ | refine getCh_a ?_ | refine getCh2_a ?_ | refine getCn_a ?_ | refine getCn2_a ?_ | refine getPl_a ?_ | refine getPl2_a ?_ | refine getTk_a ?_ | refine getAn2_a ?_ | refine lenE_a ?_ | refine lenR_a ?_ | refine cv8_a ?_ | refine cv64_a ?_ | fail))
  refine mapMake kI vO (by assumption) fun w bs cs H hs => ?_
  refine bld_a ?_
  refine bx_m H fun w r H => ?_
  have hfr := H.nd
  refine putCh_a fun w A2 hA H => ?_
  refine ⟨m, r, bs, _, rfl, ⟨hm1, hm2⟩, ?_, (hA.addChn (r := r) (ch := ⟨(m : Int), p, unb, [], [], fun _ => none, shN, shN, bs⟩) (cs := ⟨r, .t 103, [I (m : Int), I p, .bool unb, .slice none 0 0, .slice none 0 0, .map (some bs)]⟩ :: cs :: []) ⟨[], [], cs, rfl, TS.nil, TS.nil, hs.mono (by omega)⟩), Hp.tre (by assumption)⟩
  refine hA0.noChn fun hm => ?_
  obtain ⟨ch, hch, he⟩ := List.mem_map.1 hm
  exact (List.nodup_cons.1 hfr).1 (List.mem_map.2 ⟨ch, by simp [hch], he⟩)
end
section
variable {κ ν : Type} [DecidableEq κ] {key : κ → Value} {val : ν → Value} {b n : Nat} {f : κ → Option ν} {c : Chunk}
theorem MapAt.freeG {g : Nat → κ} (hg : ∀ i j, g i = g j → i = j) (h : MapAt key val b f n c) : ∃ m : Nat, m ≤ n ∧ f (g m) = none ∧ ∀ j : Nat, j < m → f (g j) ≠ none := by
  obtain ⟨ents, clock, h1, h2, h3, h4⟩ := h
  have key : ∀ k : Nat, (∀ j : Nat, j < k → f (g j) ≠ none) → k ≤ ents.length := by
    intro k hk
    have hsub : ∀ x ∈ (List.range k).map g, x ∈ mkeys ents := by
      intro x hx
      obtain ⟨j, hj, rfl⟩ := List.mem_map.1 hx
      have := hk j (by simpa using hj)
      rw [← h3] at this
      exact Decidable.byContradiction fun hn => this (mget_none.2 hn)
    have hnd : ((List.range k).map g).Nodup := by
      rw [List.nodup_iff_pairwise_ne, List.pairwise_map]
      exact (List.nodup_iff_pairwise_ne.1 List.nodup_range).imp fun h e => h (hg _ _ e)
    have := (nodup_len hnd hsub)
    simpa [mkeys] using this
  have hex : ∃ k : Nat, f (g k) = none := Classical.byContradiction fun hn => by
    have := key (ents.length + 1) fun j _ h => hn ⟨j, h⟩
    omega
  obtain ⟨m, hm⟩ := hex
  have : ∃ m : Nat, f (g m) = none ∧ ∀ j : Nat, j < m → f (g j) ≠ none := by
    induction m using Nat.strongRecOn with
    | _ m ih =>
      by_cases h : ∃ j : Nat, j < m ∧ f (g j) = none
      · obtain ⟨j, hj, hf⟩ := h; exact ih j hj hf
      · exact ⟨m, hm, fun j hj hf => h ⟨j, hj, hf⟩⟩
  obtain ⟨m, h5, h6⟩ := this
  exact ⟨m, by have := key m h6; omega, h5, h6⟩
end
section
variable {w w' w0 : World} {L L' F cs cs2 cs3 A : List Chunk} {s s2 : Value} {K : VK} {R : ER} {tb n b : Nat} {T : Tbl} {pri th code val p id : Int} {c : Chunk} {unb : Bool}
theorem Attach_spec {c : Nat} {ch : Chn} (hA : TblAt tb T n A) (hp : proc p) (hn : n < 200) (h1 : T.chm id = some c) (hc : oget c T.chs = some ch) (H : Hp w0 w L) (hS : Split L A F := by exact spl) :
    Calls Pg 25 ⟨[ptr tb 0, I p, I id]⟩ w fun x w' => ∃ (m s r : Nat) (A' : List Chunk), x = .returned (.tuple ⟨[I (m : Int), I 0]⟩) ∧ (T.cnm (p, (m : Int)) = none ∧ ∀ j : Nat, j < m → T.cnm (p, (j : Int)) ≠ none) ∧ (ch.sids (s : Int) = none ∧ ∀ j : Nat, j < s → ch.sids (j : Int) ≠ none) ∧ oget r T.cns = none ∧
      TblAt tb { T with chs := oset c { ch with sids := updF ch.sids (s : Int) (some r) } T.chs, cns := T.cns ++ [(r, ⟨some c, (s : Int)⟩)], cnm := updF T.cnm (p, (m : Int)) (some r) } (n + 2) A' ∧ Hp w0 w' (A' ++ F) := by
  have hA0 := hA
  have H := H.split hS
  have hq : ∀ k, obj T.cnm k = none ↔ T.cnm k = none := fun k => by unfold obj; cases T.cnm k <;> simp
  obtain ⟨m, hm0, hm1, hm2⟩ : ∃ m : Nat, m ≤ n ∧ T.cnm (p, (m : Int)) = none ∧ ∀ j : Nat, j < m → T.cnm (p, (j : Int)) ≠ none := by
    obtain ⟨_, _, g2, _⟩ := hA.map2
    obtain ⟨m, h1, h2, h3⟩ := g2.freeG (g := fun j : Nat => (p, (j : Int))) (fun i j h => by injection h with _ h; omega)
    exact ⟨m, h1, (hq _).1 h2, fun j hj h => h3 j hj ((hq _).2 h)⟩
  apply F25_calls
  unfold F25
  repeat (first | simp only [W0, pO, Option.map_some, Option.map_none] | with_reducible (first | refine lss_a ?_ | refine lss_b ?_ | refine gtr_a ?_ | refine gtr_b ?_ | refine geq_a ?_ | refine geq_b ?_ | refine leq_a ?_ | refine leq_b ?_ | refine eql_a ?_ | refine eql_b ?_ | refine neq_a ?_ | refine neq_b ?_ | refine add_a ?_ | refine sub_a ?_ | refine ld_a ?_ | refine ldA_a ?_ | refine ldS_a ?_ | refine ldNS_a ?_ | refine rdA_s ?_ | refine rd1_s ?_ | refine drew_a fun w1 H1 => ?_ | refine st_a fun w1 H1 => ?_ | refine stA_a fun w1 H1 => ?_ | refine lenT_a ?_ | refine lenO_a ?_ | refine ixT_a ?_ | refine ixO_a ?_ | refine bld_a ?_ | refine min_a ?_ | refine max_a ?_  | refine ldT_a ?_ | refine ldC_a ?_ | refine ldX_a ?_ | refine ldM_a ?_ | refine rdT_a ?_ | refine rdC_a ?_ | refine rdX_a ?_ | refine rdM_a ?_ | refine getCh_a ?_ | refine getCh2_a ?_ | refine getCn_a ?_ | refine getCn2_a ?_ | refine getPl_a ?_ | refine getPl2_a ?_ | refine getTk_a ?_ | refine getAn2_a ?_ | refine lenE_a ?_ | refine lenR_a ?_ | refine cv8_a ?_ | refine cv64_a ?_ | fail))
  try unfold F25_j1
  refine cal_h (process_spec H) ?_
  rintro _ w ⟨rfl, H⟩
  rw [decide_eq_true hp]
  repeat (first | simp only [W0, pO, Option.map_some, Option.map_none] | with_reducible (first | refine lss_a ?_ | refine lss_b ?_ | refine gtr_a ?_ | refine gtr_b ?_ | refine geq_a ?_ | refine geq_b ?_ | refine leq_a ?_ | refine leq_b ?_ | refine eql_a ?_ | refine eql_b ?_ | refine neq_a ?_ | refine neq_b ?_ | refine add_a ?_ | refine sub_a ?_ | refine ld_a ?_ | refine ldA_a ?_ | refine ldS_a ?_ | refine ldNS_a ?_ | refine rdA_s ?_ | refine rd1_s ?_ | refine drew_a fun w1 H1 => ?_ | refine st_a fun w1 H1 => ?_ | refine stA_a fun w1 H1 => ?_ | refine lenT_a ?_ | refine lenO_a ?_ | refine ixT_a ?_ | refine ixO_a ?_ | refine bld_a ?_ | refine min_a ?_ | refine max_a ?_  | refine ldT_a ?_ | refine ldC_a ?_ | refine ldX_a ?_ | refine ldM_a ?_ | refine rdT_a ?_ | refine rdC_a ?_ | refine rdX_a ?_ | refine rdM_a ?_ | refine getCh_a ?_ | refine getCh2_a ?_ | refine getCn_a ?_ | refine getCn2_a ?_ | refine getPl_a ?_ | refine getPl2_a ?_ | refine getTk_a ?_ | refine getAn2_a ?_ | refine lenE_a ?_ | refine lenR_a ?_ | refine cv8_a ?_ | refine cv64_a ?_ | fail))
  try unfold F25_j2
  repeat (first | simp only [W0, pO, Option.map_some, Option.map_none] | with_reducible (first | refine lss_a ?_ | refine lss_b ?_ | refine gtr_a ?_ | refine gtr_b ?_ | refine geq_a ?_ | refine geq_b ?_ | refine leq_a ?_ | refine leq_b ?_ | refine eql_a ?_ | refine eql_b ?_ | refine neq_a ?_ | refine neq_b ?_ | refine add_a ?_ | refine sub_a ?_ | refine ld_a ?_ | refine ldA_a ?_ | refine ldS_a ?_ | refine ldNS_a ?_ | refine rdA_s ?_ | refine rd1_s ?_ | refine drew_a fun w1 H1 => ?_ | refine st_a fun w1 H1 => ?_ | refine stA_a fun w1 H1 => ?_ | refine lenT_a ?_ | refine lenO_a ?_ | refine ixT_a ?_ | refine ixO_a ?_ | refine bld_a ?_ | refine min_a ?_ | refine max_a ?_  | refine ldT_a ?_ | refine ldC_a ?_ | refine ldX_a ?_ | refine ldM_a ?_ | refine rdT_a ?_ | refine rdC_a ?_ | refine rdX_a ?_ | refine rdM_a ?_ | refine getCh_a ?_ | refine getCh2_a ?_ | refine getCn_a ?_ | refine getCn2_a ?_ | refine getPl_a ?_ | refine getPl2_a ?_ | refine getTk_a ?_ | refine getAn2_a ?_ | refine lenE_a ?_ | refine lenR_a ?_ | refine cv8_a ?_ | refine cv64_a ?_ | fail))
  simp only [h1, Option.isSome_some]
  repeat (first | simp only [W0, pO, Option.map_some, Option.map_none] | with_reducible (first | refine lss_a ?_ | refine lss_b ?_ | refine gtr_a ?_ | refine gtr_b ?_ | refine geq_a ?_ | refine geq_b ?_ | refine leq_a ?_ | refine leq_b ?_ | refine eql_a ?_ | refine eql_b ?_ | refine neq_a ?_ | refine neq_b ?_ | refine add_a ?_ | refine sub_a ?_ | refine ld_a ?_ | refine ldA_a ?_ | refine ldS_a ?_ | refine ldNS_a ?_ | refine rdA_s ?_ | refine rd1_s ?_ | refine drew_a fun w1 H1 => ?_ | refine st_a fun w1 H1 => ?_ | refine stA_a fun w1 H1 => ?_ | refine lenT_a ?_ | refine lenO_a ?_ | refine ixT_a ?_ | refine ixO_a ?_ | refine bld_a ?_ | refine min_a ?_ | refine max_a ?_  | refine ldT_a ?_ | refine ldC_a ?_ | refine ldX_a ?_ | refine ldM_a ?_ | refine rdT_a ?_ | refine rdC_a ?_ | refine rdX_a ?_ | refine rdM_a ?_ | refine getCh_a ?_ | refine getCh2_a ?_ | refine getCn_a ?_ | refine getCn2_a ?_ | refine getPl_a ?_ | refine getPl2_a ?_ | refine getTk_a ?_ | refine getAn2_a ?_ | refine lenE_a ?_ | refine lenR_a ?_ | refine cv8_a ?_ | refine cv64_a ?_ | fail))
  try unfold F25_j3
  try unfold F25_j6
  refine loop4 (F25_l1_succ _) (fun d x0 x1 x8 x10 w => ∃ i : Nat, x0 = ptr tb 0 ∧ x1 = I p ∧ x8 = ptr c 0 ∧ x10 = I (i : Int) ∧ d + i = m ∧ Hp w0 w (A ++ F)) ?_ (m := m) ⟨0, rfl, rfl, rfl, rfl, by omega, by assumption⟩
  clear H
  rintro d k x0 x1 x8 x10 w ⟨i, rfl, rfl, rfl, rfl, hd, H⟩ hk
  unfold F25_b1
  repeat (first | simp only [W0, pO, Option.map_some, Option.map_none] | with_reducible (first | refine lss_a ?_ | refine lss_b ?_ | refine gtr_a ?_ | refine gtr_b ?_ | refine geq_a ?_ | refine geq_b ?_ | refine leq_a ?_ | refine leq_b ?_ | refine eql_a ?_ | refine eql_b ?_ | refine neq_a ?_ | refine neq_b ?_ | refine add_a ?_ | refine sub_a ?_ | refine ld_a ?_ | refine ldA_a ?_ | refine ldS_a ?_ | refine ldNS_a ?_ | refine rdA_s ?_ | refine rd1_s ?_ | refine drew_a fun w1 H1 => ?_ | refine st_a fun w1 H1 => ?_ | refine stA_a fun w1 H1 => ?_ | refine lenT_a ?_ | refine lenO_a ?_ | refine ixT_a ?_ | refine ixO_a ?_ | refine bld_a ?_ | refine min_a ?_ | refine max_a ?_  | refine ldT_a ?_ | refine ldC_a ?_ | refine ldX_a ?_ | refine ldM_a ?_ | refine rdT_a ?_ | refine rdC_a ?_ | refine rdX_a ?_ | refine rdM_a ?_ | refine getCh_a ?_ | refine getCh2_a ?_ | refine getCn_a ?_ | refine getCn2_a ?_ | refine getPl_a ?_ | refine getPl2_a ?_ | refine getTk_a ?_ | refine getAn2_a ?_ | refine lenE_a ?_ | refine lenR_a ?_ | refine cv8_a ?_ | refine cv64_a ?_ | fail))
  cases hf : T.cnm (p, (i : Int)) with
  | some r =>
    have hne : i ≠ m := by
      rintro rfl
      rw [hf] at hm1; cases hm1
    simp only [pO, Option.map_some]
    repeat (first | simp only [W0, pO, Option.map_some, Option.map_none] | with_reducible (first | refine lss_a ?_ | refine lss_b ?_ | refine gtr_a ?_ | refine gtr_b ?_ | refine geq_a ?_ | refine geq_b ?_ | refine leq_a ?_ | refine leq_b ?_ | refine eql_a ?_ | refine eql_b ?_ | refine neq_a ?_ | refine neq_b ?_ | refine add_a ?_ | refine sub_a ?_ | refine ld_a ?_ | refine ldA_a ?_ | refine ldS_a ?_ | refine ldNS_a ?_ | refine rdA_s ?_ | refine rd1_s ?_ | refine drew_a fun w1 H1 => ?_ | refine st_a fun w1 H1 => ?_ | refine stA_a fun w1 H1 => ?_ | refine lenT_a ?_ | refine lenO_a ?_ | refine ixT_a ?_ | refine ixO_a ?_ | refine bld_a ?_ | refine min_a ?_ | refine max_a ?_  | refine ldT_a ?_ | refine ldC_a ?_ | refine ldX_a ?_ | refine ldM_a ?_ | refine rdT_a ?_ | refine rdC_a ?_ | refine rdX_a ?_ | refine rdM_a ?_ | refine getCh_a ?_ | refine getCh2_a ?_ | refine getCn_a ?_ | refine getCn2_a ?_ | refine getPl_a ?_ | refine getPl2_a ?_ | refine getTk_a ?_ | refine getAn2_a ?_ | refine lenE_a ?_ | refine lenR_a ?_ | refine cv8_a ?_ | refine cv64_a ?_ | fail))
    exact hk (d - 1) _ _ _ _ _ (by omega) ⟨i + 1, rfl, rfl, rfl, rfl, by omega, H⟩
  | none =>
    simp only [pO, Option.map_none]
    simp only [W0]
    unfold F25_j4
    refine geq_n (by omega) ?_
    simp only [W0]
    unfold F25_j5
    repeat (first | simp only [W0, pO, Option.map_some, Option.map_none] | with_reducible (first | refine lss_a ?_ | refine lss_b ?_ | refine gtr_a ?_ | refine gtr_b ?_ | refine geq_a ?_ | refine geq_b ?_ | refine leq_a ?_ | refine leq_b ?_ | refine eql_a ?_ | refine eql_b ?_ | refine neq_a ?_ | refine neq_b ?_ | refine add_a ?_ | refine sub_a ?_ | refine ld_a ?_ | refine ldA_a ?_ | refine ldS_a ?_ | refine ldNS_a ?_ | refine rdA_s ?_ | refine rd1_s ?_ | refine drew_a fun w1 H1 => ?_ | refine st_a fun w1 H1 => ?_ | refine stA_a fun w1 H1 => ?_ | refine lenT_a ?_ | refine lenO_a ?_ | refine ixT_a ?_ | refine ixO_a ?_ | refine bld_a ?_ | refine min_a ?_ | refine max_a ?_  | refine ldT_a ?_ | refine ldC_a ?_ | refine ldX_a ?_ | refine ldM_a ?_ | refine rdT_a ?_ | refine rdC_a ?_ | refine rdX_a ?_ | refine rdM_a ?_ | refine getCh_a ?_ | refine getCh2_a ?_ | refine getCn_a ?_ | refine getCn2_a ?_ | refine getPl_a ?_ | refine getPl2_a ?_ | refine getTk_a ?_ | refine getAn2_a ?_ | refine lenE_a ?_ | refine lenR_a ?_ | refine cv8_a ?_ | refine cv64_a ?_ | fail))
    obtain ⟨cmm, ce, cr, A1, e1, t1, t2, t3, hre⟩ := hA.chn hc
    refine cal_h (freeX_spec (f := ch.sids) t3 (by omega) (by assumption) (by simp [e1.mem])) ?_
    rintro _ w ⟨sd, rfl, H, _, hs1, hs2⟩
    repeat (first | simp only [W0, pO, Option.map_some, Option.map_none] | with_reducible (first | refine lss_a ?_ | refine lss_b ?_ | refine gtr_a ?_ | refine gtr_b ?_ | refine geq_a ?_ | refine geq_b ?_ | refine leq_a ?_ | refine leq_b ?_ | refine eql_a ?_ | refine eql_b ?_ | refine neq_a ?_ | refine neq_b ?_ | refine add_a ?_ | refine sub_a ?_ | refine ld_a ?_ | refine ldA_a ?_ | refine ldS_a ?_ | refine ldNS_a ?_ | refine rdA_s ?_ | refine rd1_s ?_ | refine drew_a fun w1 H1 => ?_ | refine st_a fun w1 H1 => ?_ | refine stA_a fun w1 H1 => ?_ | refine lenT_a ?_ | refine lenO_a ?_ | refine ixT_a ?_ | refine ixO_a ?_ | refine bld_a ?_ | refine min_a ?_ | refine max_a ?_  | refine ldT_a ?_ | refine ldC_a ?_ | refine ldX_a ?_ | refine ldM_a ?_ | refine rdT_a ?_ | refine rdC_a ?_ | refine rdX_a ?_ | refine rdM_a ?_ | refine getCh_a ?_ | refine getCh2_a ?_ | refine getCn_a ?_ | refine getCn2_a ?_ | refine getPl_a ?_ | refine getPl2_a ?_ | refine getTk_a ?_ | refine getAn2_a ?_ | refine lenE_a ?_ | refine lenR_a ?_ | refine cv8_a ?_ | refine cv64_a ?_ | fail))
    refine bx_m (by assumption) fun w r H => ?_
    have hfr := H.nd
    repeat (first | simp only [W0, pO, Option.map_some, Option.map_none] | with_reducible (first | refine lss_a ?_ | refine lss_b ?_ | refine gtr_a ?_ | refine gtr_b ?_ | refine geq_a ?_ | refine geq_b ?_ | refine leq_a ?_ | refine leq_b ?_ | refine eql_a ?_ | refine eql_b ?_ | refine neq_a ?_ | refine neq_b ?_ | refine add_a ?_ | refine sub_a ?_ | refine ld_a ?_ | refine ldA_a ?_ | refine ldS_a ?_ | refine ldNS_a ?_ | refine rdA_s ?_ | refine rd1_s ?_ | refine drew_a fun w1 H1 => ?_ | refine st_a fun w1 H1 => ?_ | refine stA_a fun w1 H1 => ?_ | refine lenT_a ?_ | refine lenO_a ?_ | refine ixT_a ?_ | refine ixO_a ?_ | refine bld_a ?_ | refine min_a ?_ | refine max_a ?_  | refine ldT_a ?_ | refine ldC_a ?_ | refine ldX_a ?_ | refine ldM_a ?_ | refine rdT_a ?_ | refine rdC_a ?_ | refine rdX_a ?_ | refine rdM_a ?_ | refine getCh_a ?_ | refine getCh2_a ?_ | refine getCn_a ?_ | refine getCn2_a ?_ | refine getPl_a ?_ | refine getPl2_a ?_ | refine getTk_a ?_ | refine getAn2_a ?_ | refine lenE_a ?_ | refine lenR_a ?_ | refine cv8_a ?_ | refine cv64_a ?_ | fail))
    have H := (Hp.eqv (F := F ++ [⟨r, .t 139, [ptr c 0, I (sd : Int)]⟩]) (H1.tre) e1)
    have H : Hp w0 w1 (⟨c, .t 103, ch.cells⟩ :: cmm :: (ce ++ (cr ++ (A1 ++ (⟨r, .t 139, [ptr c 0, I (sd : Int)]⟩ :: F))))) := H.tre
    repeat (first | simp only [W0, pO, Option.map_some, Option.map_none] | with_reducible (first | refine lss_a ?_ | refine lss_b ?_ | refine gtr_a ?_ | refine gtr_b ?_ | refine geq_a ?_ | refine geq_b ?_ | refine leq_a ?_ | refine leq_b ?_ | refine eql_a ?_ | refine eql_b ?_ | refine neq_a ?_ | refine neq_b ?_ | refine add_a ?_ | refine sub_a ?_ | refine ld_a ?_ | refine ldA_a ?_ | refine ldS_a ?_ | refine ldNS_a ?_ | refine rdA_s ?_ | refine rd1_s ?_ | refine drew_a fun w1 H1 => ?_ | refine st_a fun w1 H1 => ?_ | refine stA_a fun w1 H1 => ?_ | refine lenT_a ?_ | refine lenO_a ?_ | refine ixT_a ?_ | refine ixO_a ?_ | refine bld_a ?_ | refine min_a ?_ | refine max_a ?_  | refine ldT_a ?_ | refine ldC_a ?_ | refine ldX_a ?_ | refine ldM_a ?_ | refine rdT_a ?_ | refine rdC_a ?_ | refine rdX_a ?_ | refine rdM_a ?_ | refine getCh_a ?_ | refine getCh2_a ?_ | refine getCn_a ?_ | refine getCn2_a ?_ | refine getPl_a ?_ | refine getPl2_a ?_ | refine getTk_a ?_ | refine getAn2_a ?_ | refine lenE_a ?_ | refine lenR_a ?_ | refine cv8_a ?_ | refine cv64_a ?_ | fail))
    refine mapPut mapsH.sd (sd : Int) (some r) t3 (by assumption) spl fun w cmm' H t3' => ?_
    have e := obj_upd (f := ch.sids) (k := (sd : Int)) (v := some r)
    rw [Option.map_some] at e
    rw [e] at t3'
    have hA := hre { ch with sids := updF ch.sids (sd : Int) (some r) } cmm' ce cr (n + 1) (Nat.le_succ n) t1 t2 t3'
    have hA := hA.addCnn (r := r) (cx := ⟨some c, (sd : Int)⟩) rfl
    obtain ⟨A2, hA, H⟩ : ∃ A2, TblAt tb _ (n + 1) A2 ∧ Hp w0 w (A2 ++ F) := ⟨_, hA, Hp.tre (by assumption)⟩
    repeat (first | simp only [W0, pO, Option.map_some, Option.map_none] | with_reducible (first | refine lss_a ?_ | refine lss_b ?_ | refine gtr_a ?_ | refine gtr_b ?_ | refine geq_a ?_ | refine geq_b ?_ | refine leq_a ?_ | refine leq_b ?_ | refine eql_a ?_ | refine eql_b ?_ | refine neq_a ?_ | refine neq_b ?_ | refine add_a ?_ | refine sub_a ?_ | refine ld_a ?_ | refine ldA_a ?_ | refine ldS_a ?_ | refine ldNS_a ?_ | refine rdA_s ?_ | refine rd1_s ?_ | refine drew_a fun w1 H1 => ?_ | refine st_a fun w1 H1 => ?_ | refine stA_a fun w1 H1 => ?_ | refine lenT_a ?_ | refine lenO_a ?_ | refine ixT_a ?_ | refine ixO_a ?_ | refine bld_a ?_ | refine min_a ?_ | refine max_a ?_  | refine ldT_a ?_ | refine ldC_a ?_ | refine ldX_a ?_ | refine ldM_a ?_ | refine rdT_a ?_ | refine rdC_a ?_ | refine rdX_a ?_ | refine rdM_a ?_ | refine getCh_a ?_ | refine getCh2_a ?_ | refine getCn_a ?_ | refine getCn2_a ?_ | refine getPl_a ?_ | refine getPl2_a ?_ | refine getTk_a ?_ | refine getAn2_a ?_ | refine lenE_a ?_ | refine lenR_a ?_ | refine cv8_a ?_ | refine cv64_a ?_ | fail))
    refine putCn_a fun w A3 hA H => ?_
    refine ⟨i, sd, r, _, rfl, ⟨hf, fun j hj => hm2 j (by omega)⟩, ⟨hs1, hs2⟩, ?_, hA, H⟩
    refine hA0.noCnn fun hm => ?_
    obtain ⟨q, hq', he⟩ := List.mem_map.1 hm
    exact (List.nodup_cons.1 hfr).1 (List.mem_map.2 ⟨q, by simp [hq'], he⟩)
end
end Go.Proofs.YtmkcjopacmadhaaGreat.Den
