/- Channels: taking, handing, queueing an entry. Conditions: none. -/
import Derived.Test.YtmkcjopacmadhaaGreatChP
set_option linter.unusedVariables false
set_option linter.unusedSimpArgs false
set_option maxRecDepth 8000
set_option maxHeartbeats 2000000
namespace Go.Proofs.YtmkcjopacmadhaaGreat.Den
open Go Go.RowKit
theorem elM : ElT 84 77 cP.sz 8 [.pointer none] := ⟨by kernel_rfl, by kernel_rfl, rfl⟩
theorem elW : ElT 39 45 cWk.sz 24 [I 0, I 0, I 0] := ⟨by kernel_rfl, by kernel_rfl, rfl⟩
theorem fresh_ex {α : Type} (l : List (Nat × α)) : ∃ r, oget r l = none := by
  have : ∀ l : List (Nat × α), ∃ b, ∀ a ∈ l, a.1 < b := by
    intro l
    induction l with
    | nil => exact ⟨0, by simp⟩
    | cons a l ih =>
      obtain ⟨b, hb⟩ := ih
      refine ⟨max b (a.1 + 1), fun x hx => ?_⟩
      rcases List.mem_cons.1 hx with rfl | hx
      · omega
      · have := hb x hx; omega
  obtain ⟨b, hb⟩ := this l
  refine ⟨b, oget_none.2 fun hm => ?_⟩
  obtain ⟨a, ha, he⟩ := List.mem_map.1 hm
  have := hb a ha; omega
theorem fresh_of {A L : List Chunk} {r : Nat} {t : Tag} {l : List Value} (hnd : ((⟨r, t, l⟩ :: L : List Chunk).map Chunk.b).Nodup) (h : ∀ x ∈ A, x.b ∈ L.map Chunk.b) : r ∉ A.map Chunk.b := by
  intro hm
  obtain ⟨q, hq, rfl⟩ := List.mem_map.1 hm
  exact (List.nodup_cons.1 hnd).1 (h q hq)
section
variable {w w' w0 : World} {L L' F cs cs2 cs3 A D : List Chunk} {s s2 : Value} {K : VK} {R : ER} {tb n b c : Nat} {T : Tbl} {pri th code val p id room : Int} {ch : Chn} {e : Ent}
theorem take_spec (hA : TblAt tb T n A) (hn : n < 1000000) (hnn : 0 ≤ T.com ∧ T.com ≤ n ∧ 0 ≤ T.last ∧ T.last ≤ n) (qln : (T.ml.length : Int) ≤ T.last) (hD : TR cB w0 D e.dh.val e.data) (he : 0 ≤ e.room ∧ e.room ≤ 4096 ∧ e.data.length ≤ 4096) (hr : 0 ≤ room ∧ room ≤ 4096) (H : Hp w0 w L) (hS : Split L A F) (hDF : ∀ c ∈ D, c ∈ F) :
    Calls Pg 84 ⟨[ptr tb 0, ptr c 0, .agg ⟨e.cells⟩, I th, I room]⟩ w fun x w' => ∃ nm A' cs, x = .returned (.agg ⟨(T.take c e th room nm).2.cells⟩) ∧ TblAt tb (T.take c e th room nm).1 (n + 1) A' ∧ Hp w0 w' (A' ++ (cs ++ F)) ∧
      TR cB w0 (cs ++ D) (T.take c e th room nm).2.dh.val (T.take c e th room nm).2.data ∧ oget nm.r T.mss = none := by
  have hA0 := hA
  have H := H.split hS
  obtain ⟨q1, q2, q3, q4⟩ := hnn
  apply F84_calls
  unfold F84
  refine bx_m H fun w bx H => ?_
  refine al_m (ys := [I 0, I 0, I 0, I 0, I 0, I 0, I 0, .slice none 0 0, I 0, I 0]) H (by kernel_rfl) fun w bo H => ?_
  unfold F84_j2
  have hel : e.cells.length = 11 := rfl
  by_cases ht : e.th = -1
  · repeat (first | simp only [W0, pO, Option.map_some, Option.map_none] | with_reducible (first | refine lss_a ?_ | refine lss_b ?_ | refine gtr_a ?_ | refine gtr_b ?_ | refine geq_a ?_ | refine geq_b ?_ | refine leq_a ?_ | refine leq_b ?_ | refine eql_a ?_ | refine eql_b ?_ | refine neq_a ?_ | refine neq_b ?_ | refine add_a ?_ | refine sub_a ?_ | refine ld_a ?_ | refine ldA_a ?_ | refine ldS_a ?_ | refine ldNS_a ?_ | refine rdA_s ?_ | refine rd1_s ?_ | refine drew_a fun w1 H1 => ?_ | refine st_a fun w1 H1 => ?_ | refine stA_a fun w1 H1 => ?_ | refine lenT_a ?_ | refine lenO_a ?_ | refine ixT_a ?_ | refine ixO_a ?_ | refine bld_a ?_ | refine min_a ?_ | refine max_a ?_  | refine ldT_a ?_ | refine ldC_a ?_ | refine ldX_a ?_ | refine ldM_a ?_ | refine rdT_a ?_ | refine rdC_a ?_ | refine rdX_a ?_ | refine rdM_a ?_ | refine getCh_a ?_ | refine getCh2_a ?_ | refine getCn_a ?_ | refine getCn2_a ?_ | refine getPl_a ?_ | refine getPl2_a ?_ | refine getTk_a ?_ | refine getAn2_a ?_ | refine lenE_a ?_ | refine lenR_a ?_ | refine cv8_a ?_ | refine cv64_a ?_ | fail))
    unfold F84_j3
    simp only [W0]
    unfold F84_j4
    repeat (first | simp only [W0, pO, Option.map_some, Option.map_none] | with_reducible (first | refine lss_a ?_ | refine lss_b ?_ | refine gtr_a ?_ | refine gtr_b ?_ | refine geq_a ?_ | refine geq_b ?_ | refine leq_a ?_ | refine leq_b ?_ | refine eql_a ?_ | refine eql_b ?_ | refine neq_a ?_ | refine neq_b ?_ | refine add_a ?_ | refine sub_a ?_ | refine ld_a ?_ | refine ldA_a ?_ | refine ldS_a ?_ | refine ldNS_a ?_ | refine rdA_s ?_ | refine rd1_s ?_ | refine drew_a fun w1 H1 => ?_ | refine st_a fun w1 H1 => ?_ | refine stA_a fun w1 H1 => ?_ | refine lenT_a ?_ | refine lenO_a ?_ | refine ixT_a ?_ | refine ixO_a ?_ | refine bld_a ?_ | refine min_a ?_ | refine max_a ?_  | refine ldT_a ?_ | refine ldC_a ?_ | refine ldX_a ?_ | refine ldM_a ?_ | refine rdT_a ?_ | refine rdC_a ?_ | refine rdX_a ?_ | refine rdM_a ?_ | refine getCh_a ?_ | refine getCh2_a ?_ | refine getCn_a ?_ | refine getCn2_a ?_ | refine getPl_a ?_ | refine getPl2_a ?_ | refine getTk_a ?_ | refine getAn2_a ?_ | refine lenE_a ?_ | refine lenR_a ?_ | refine cv8_a ?_ | refine cv64_a ?_ | fail))
    obtain ⟨r0, hr0⟩ := fresh_ex T.mss
    refine ⟨{ Nm.zero with r := r0 }, A, [], ?_⟩
    unfold Tbl.take
    rw [if_pos ht]
    exact ⟨rfl, hA.mono (Nat.le_succ n), Hp.tre (by assumption), TR.nil, hr0⟩
  · repeat (first | simp only [W0, pO, Option.map_some, Option.map_none] | with_reducible (first | refine lss_a ?_ | refine lss_b ?_ | refine gtr_a ?_ | refine gtr_b ?_ | refine geq_a ?_ | refine geq_b ?_ | refine leq_a ?_ | refine leq_b ?_ | refine eql_a ?_ | refine eql_b ?_ | refine neq_a ?_ | refine neq_b ?_ | refine add_a ?_ | refine sub_a ?_ | refine ld_a ?_ | refine ldA_a ?_ | refine ldS_a ?_ | refine ldNS_a ?_ | refine rdA_s ?_ | refine rd1_s ?_ | refine drew_a fun w1 H1 => ?_ | refine st_a fun w1 H1 => ?_ | refine stA_a fun w1 H1 => ?_ | refine lenT_a ?_ | refine lenO_a ?_ | refine ixT_a ?_ | refine ixO_a ?_ | refine bld_a ?_ | refine min_a ?_ | refine max_a ?_  | refine ldT_a ?_ | refine ldC_a ?_ | refine ldX_a ?_ | refine ldM_a ?_ | refine rdT_a ?_ | refine rdC_a ?_ | refine rdX_a ?_ | refine rdM_a ?_ | refine getCh_a ?_ | refine getCh2_a ?_ | refine getCn_a ?_ | refine getCn2_a ?_ | refine getPl_a ?_ | refine getPl2_a ?_ | refine getTk_a ?_ | refine getAn2_a ?_ | refine lenE_a ?_ | refine lenR_a ?_ | refine cv8_a ?_ | refine cv64_a ?_ | fail))
    unfold F84_j3
    simp only [W0]
    unfold F84_j1
    obtain ⟨cm, A1, e1, t1, hre⟩ := hA.top
    have H := Hp.eqv (F := F ++ [⟨bx, .t 110, e.cells⟩, ⟨bo, .t 32, [I 0, I 0, I 0, I 0, I 0, I 0, I 0, .slice none 0 0, I 0, I 0]⟩]) H.tre e1
    have H : Hp w0 w (⟨bx, .t 110, e.cells⟩ :: ⟨bo, .t 32, [I 0, I 0, I 0, I 0, I 0, I 0, I 0, .slice none 0 0, I 0, I 0]⟩ :: ⟨tb, .t 88, [.map (some T.bs.b1), .map (some T.bs.b2), .map (some T.bs.b3), T.mh.val, .map (some T.bs.b4), .map (some T.bs.b5), I T.last, I T.com]⟩ :: (cm ++ (A1 ++ F))) := H.tre
    repeat (first | simp only [W0, pO, Option.map_some, Option.map_none] | with_reducible (first | refine lss_a ?_ | refine lss_b ?_ | refine gtr_a ?_ | refine gtr_b ?_ | refine geq_a ?_ | refine geq_b ?_ | refine leq_a ?_ | refine leq_b ?_ | refine eql_a ?_ | refine eql_b ?_ | refine neq_a ?_ | refine neq_b ?_ | refine add_a ?_ | refine sub_a ?_ | refine ld_a ?_ | refine ldA_a ?_ | refine ldS_a ?_ | refine ldNS_a ?_ | refine rdA_s ?_ | refine rd1_s ?_ | refine drew_a fun w1 H1 => ?_ | refine st_a fun w1 H1 => ?_ | refine stA_a fun w1 H1 => ?_ | refine lenT_a ?_ | refine lenO_a ?_ | refine ixT_a ?_ | refine ixO_a ?_ | refine bld_a ?_ | refine min_a ?_ | refine max_a ?_  | refine ldT_a ?_ | refine ldC_a ?_ | refine ldX_a ?_ | refine ldM_a ?_ | refine rdT_a ?_ | refine rdC_a ?_ | refine rdX_a ?_ | refine rdM_a ?_ | refine getCh_a ?_ | refine getCh2_a ?_ | refine getCn_a ?_ | refine getCn2_a ?_ | refine getPl_a ?_ | refine getPl2_a ?_ | refine getTk_a ?_ | refine getAn2_a ?_ | refine lenE_a ?_ | refine lenR_a ?_ | refine cv8_a ?_ | refine cv64_a ?_ | fail))
    refine make_t (C := cB) (x := 0) (n := e.room.toNat) elB rfl (by assumption) (by omega) (by omega) (by omega) fun w sa ca H ta => ?_
    obtain ⟨ah, rfl⟩ := ta.sh
    repeat (first | simp only [W0, pO, Option.map_some, Option.map_none] | with_reducible (first | refine lss_a ?_ | refine lss_b ?_ | refine gtr_a ?_ | refine gtr_b ?_ | refine geq_a ?_ | refine geq_b ?_ | refine leq_a ?_ | refine leq_b ?_ | refine eql_a ?_ | refine eql_b ?_ | refine neq_a ?_ | refine neq_b ?_ | refine add_a ?_ | refine sub_a ?_ | refine ld_a ?_ | refine ldA_a ?_ | refine ldS_a ?_ | refine ldNS_a ?_ | refine rdA_s ?_ | refine rd1_s ?_ | refine drew_a fun w1 H1 => ?_ | refine st_a fun w1 H1 => ?_ | refine stA_a fun w1 H1 => ?_ | refine lenT_a ?_ | refine lenO_a ?_ | refine ixT_a ?_ | refine ixO_a ?_ | refine bld_a ?_ | refine min_a ?_ | refine max_a ?_  | refine ldT_a ?_ | refine ldC_a ?_ | refine ldX_a ?_ | refine ldM_a ?_ | refine rdT_a ?_ | refine rdC_a ?_ | refine rdX_a ?_ | refine rdM_a ?_ | refine getCh_a ?_ | refine getCh2_a ?_ | refine getCn_a ?_ | refine getCn2_a ?_ | refine getPl_a ?_ | refine getPl2_a ?_ | refine getTk_a ?_ | refine getAn2_a ?_ | refine lenE_a ?_ | refine lenR_a ?_ | refine cv8_a ?_ | refine cv64_a ?_ | fail))
    refine bx_m (by assumption) fun w rm H => ?_
    have hfr := H.nd
    repeat (first | simp only [W0, pO, Option.map_some, Option.map_none] | with_reducible (first | refine lss_a ?_ | refine lss_b ?_ | refine gtr_a ?_ | refine gtr_b ?_ | refine geq_a ?_ | refine geq_b ?_ | refine leq_a ?_ | refine leq_b ?_ | refine eql_a ?_ | refine eql_b ?_ | refine neq_a ?_ | refine neq_b ?_ | refine add_a ?_ | refine sub_a ?_ | refine ld_a ?_ | refine ldA_a ?_ | refine ldS_a ?_ | refine ldNS_a ?_ | refine rdA_s ?_ | refine rd1_s ?_ | refine drew_a fun w1 H1 => ?_ | refine st_a fun w1 H1 => ?_ | refine stA_a fun w1 H1 => ?_ | refine lenT_a ?_ | refine lenO_a ?_ | refine ixT_a ?_ | refine ixO_a ?_ | refine bld_a ?_ | refine min_a ?_ | refine max_a ?_  | refine ldT_a ?_ | refine ldC_a ?_ | refine ldX_a ?_ | refine ldM_a ?_ | refine rdT_a ?_ | refine rdC_a ?_ | refine rdX_a ?_ | refine rdM_a ?_ | refine getCh_a ?_ | refine getCh2_a ?_ | refine getCn_a ?_ | refine getCn2_a ?_ | refine getPl_a ?_ | refine getPl2_a ?_ | refine getTk_a ?_ | refine getAn2_a ?_ | refine lenE_a ?_ | refine lenR_a ?_ | refine cv8_a ?_ | refine cv64_a ?_ | fail))
    refine app1_t (C := cP) (x := rm) elM (by assumption) t1 spl rfl (by decide) (by omega) (by omega) fun w sm cm' H tm => ?_
    obtain ⟨mh, rfl⟩ := tm.sh
    repeat (first | simp only [W0, pO, Option.map_some, Option.map_none] | with_reducible (first | refine lss_a ?_ | refine lss_b ?_ | refine gtr_a ?_ | refine gtr_b ?_ | refine geq_a ?_ | refine geq_b ?_ | refine leq_a ?_ | refine leq_b ?_ | refine eql_a ?_ | refine eql_b ?_ | refine neq_a ?_ | refine neq_b ?_ | refine add_a ?_ | refine sub_a ?_ | refine ld_a ?_ | refine ldA_a ?_ | refine ldS_a ?_ | refine ldNS_a ?_ | refine rdA_s ?_ | refine rd1_s ?_ | refine drew_a fun w1 H1 => ?_ | refine st_a fun w1 H1 => ?_ | refine stA_a fun w1 H1 => ?_ | refine lenT_a ?_ | refine lenO_a ?_ | refine ixT_a ?_ | refine ixO_a ?_ | refine bld_a ?_ | refine min_a ?_ | refine max_a ?_  | refine ldT_a ?_ | refine ldC_a ?_ | refine ldX_a ?_ | refine ldM_a ?_ | refine rdT_a ?_ | refine rdC_a ?_ | refine rdX_a ?_ | refine rdM_a ?_ | refine getCh_a ?_ | refine getCh2_a ?_ | refine getCn_a ?_ | refine getCn2_a ?_ | refine getPl_a ?_ | refine getPl2_a ?_ | refine getTk_a ?_ | refine getAn2_a ?_ | refine lenE_a ?_ | refine lenR_a ?_ | refine cv8_a ?_ | refine cv64_a ?_ | fail))
    have hA := hre mh (T.ml ++ [rm]) (T.last + 1) T.com cm' tm
    have hA := hA.addMsg (r := rm) (m := e.msg T c th ah) (cs := ⟨rm, .t 112, [I (T.last + 1), I e.th, I th, I e.pri, ptr c 0, e.dh.val, ah.val, I 0, .bool false]⟩ :: ca) ⟨ca, rfl, ta⟩
    obtain ⟨A2, hA, H⟩ : ∃ A2, TblAt tb (T.addMs rm (e.msg T c th ah) mh) n A2 ∧ Hp w0 w1 (A2 ++ (⟨bx, .t 110, e.cells⟩ :: ⟨bo, .t 32, [I 0, I 0, I 0, I 0, I 0, I 0, I 0, .slice none 0 0, I 0, I 0]⟩ :: F)) := ⟨_, hA, Hp.tre (by assumption)⟩
    refine putPl_a ⟨4, some c, some rm⟩ fun w A3 hA H => ?_
    have hfr := fresh_of (A := A) hfr fun x hx => by
      have := e1.mem.1 hx
      simp only [List.mem_cons, List.mem_append] at this
      rcases this with rfl | h | h
      · simp
      · have := List.mem_map_of_mem (f := Chunk.b) h; simp only [List.map_append, List.map_cons, List.mem_append, List.mem_cons]; simp [this]
      · have := List.mem_map_of_mem (f := Chunk.b) h; simp only [List.map_append, List.map_cons, List.mem_append, List.mem_cons]; simp [this]
    have hno := hA0.noMsg hfr
    have hmm : oget rm ((T.addMs rm (e.msg T c th ah) mh).setBlk e.th (some ⟨4, some c, some rm⟩)).mss = some (e.msg T c th ah) := by
      show oget rm (T.mss ++ [(rm, e.msg T c th ah)]) = _
      rw [oget_app, hno]; simp [oget]
    repeat (first | simp only [W0, pO, Option.map_some, Option.map_none] | with_reducible (first | refine lss_a ?_ | refine lss_b ?_ | refine gtr_a ?_ | refine gtr_b ?_ | refine geq_a ?_ | refine geq_b ?_ | refine leq_a ?_ | refine leq_b ?_ | refine eql_a ?_ | refine eql_b ?_ | refine neq_a ?_ | refine neq_b ?_ | refine add_a ?_ | refine sub_a ?_ | refine ld_a ?_ | refine ldA_a ?_ | refine ldS_a ?_ | refine ldNS_a ?_ | refine rdA_s ?_ | refine rd1_s ?_ | refine drew_a fun w1 H1 => ?_ | refine st_a fun w1 H1 => ?_ | refine stA_a fun w1 H1 => ?_ | refine lenT_a ?_ | refine lenO_a ?_ | refine ixT_a ?_ | refine ixO_a ?_ | refine bld_a ?_ | refine min_a ?_ | refine max_a ?_  | refine ldT_a ?_ | refine ldC_a ?_ | refine ldX_a ?_ | refine ldM_a ?_ | refine rdT_a ?_ | refine rdC_a ?_ | refine rdX_a ?_ | refine rdM_a ?_ | refine getCh_a ?_ | refine getCh2_a ?_ | refine getCn_a ?_ | refine getCn2_a ?_ | refine getPl_a ?_ | refine getPl2_a ?_ | refine getTk_a ?_ | refine getAn2_a ?_ | refine lenE_a ?_ | refine lenR_a ?_ | refine cv8_a ?_ | refine cv64_a ?_ | fail))
    have eq1 : min room (e.data.length : Int) = ((min room.toNat e.data.length : Nat) : Int) := by omega
    rw [eq1]
    obtain ⟨s1, es, ts⟩ := slRto_t (C := cB) (hi := min room.toNat e.data.length) (by decide) hD (Nat.min_le_right _ _)
    refine pv_of es ?_
    have et : e.data.take (min room.toNat e.data.length) = e.data.take room.toNat := by
      rcases Nat.le_total room.toNat e.data.length with h | h
      · rw [Nat.min_eq_left h]
      · rw [Nat.min_eq_right h, List.take_length, List.take_of_length_le h]
    rw [et] at ts
    have hDL : ∀ x ∈ D, x ∈ A3 ++ (⟨bx, .t 110, e.cells⟩ :: ⟨bo, .t 32, [I 0, I 0, I 0, I 0, I 0, I 0, I 0, .slice none 0 0, I 0, I 0]⟩ :: F) := fun x hx => by simp [hDF x hx]
    refine cal_h (cloneB_spec ts (by assumption) hDL (by simp; omega)) ?_
    rintro _ w ⟨sc, cc, rfl, H, tc⟩
    obtain ⟨sh, rfl⟩ := tc.sh
    repeat (first | simp only [W0, pO, Option.map_some, Option.map_none] | with_reducible (first | refine lss_a ?_ | refine lss_b ?_ | refine gtr_a ?_ | refine gtr_b ?_ | refine geq_a ?_ | refine geq_b ?_ | refine leq_a ?_ | refine leq_b ?_ | refine eql_a ?_ | refine eql_b ?_ | refine neq_a ?_ | refine neq_b ?_ | refine add_a ?_ | refine sub_a ?_ | refine ld_a ?_ | refine ldA_a ?_ | refine ldS_a ?_ | refine ldNS_a ?_ | refine rdA_s ?_ | refine rd1_s ?_ | refine drew_a fun w1 H1 => ?_ | refine st_a fun w1 H1 => ?_ | refine stA_a fun w1 H1 => ?_ | refine lenT_a ?_ | refine lenO_a ?_ | refine ixT_a ?_ | refine ixO_a ?_ | refine bld_a ?_ | refine min_a ?_ | refine max_a ?_  | refine ldT_a ?_ | refine ldC_a ?_ | refine ldX_a ?_ | refine ldM_a ?_ | refine rdT_a ?_ | refine rdC_a ?_ | refine rdX_a ?_ | refine rdM_a ?_ | refine getCh_a ?_ | refine getCh2_a ?_ | refine getCn_a ?_ | refine getCn2_a ?_ | refine getPl_a ?_ | refine getPl2_a ?_ | refine getTk_a ?_ | refine getAn2_a ?_ | refine lenE_a ?_ | refine lenR_a ?_ | refine cv8_a ?_ | refine cv64_a ?_ | fail))
    refine ⟨{ Nm.zero with r := rm, ah := ah, ch := sh, mh := mh }, A3, cc, ?_⟩
    unfold Tbl.take
    rw [if_neg ht]
    exact ⟨rfl, hA, Hp.tre (by assumption), tc.tr.mono (by intro x hx; simp [hx]), hno⟩
theorem queue_spec (hA : TblAt tb T n A) (hc : oget c T.chs = some ch) (hs : ch.ents.Pairwise fun a b => bfr a.pri a.com b.pri b.com = true) (hl : ch.ents.length < 2 ^ 30) (H : Hp w0 w L) (hS : Split L A F) :
    Calls Pg 81 ⟨[ptr c 0, .agg ⟨e.cells⟩]⟩ w fun x w' => ∃ nm A', x = .returned (.tuple ⟨[]⟩) ∧ TblAt tb (T.queue c ch e nm) n A' ∧ Hp w0 w' (A' ++ F) := by
  have H := H.split hS
  apply F81_calls
  unfold F81
  refine bx_m H fun w bx H => ?_
  obtain ⟨cmm, ce, cr, A1, e1, t1, t2, t3, hre⟩ := hA.chn hc
  have H := Hp.eqv (F := F ++ [⟨bx, .t 110, e.cells⟩]) H.tre e1
  have H : Hp w0 w (ce ++ (⟨bx, .t 110, e.cells⟩ :: ⟨c, .t 103, [I ch.id, I ch.pr, .bool ch.unb, ch.eh.val, ch.rh.val, .map (some ch.sb)]⟩ :: cmm :: (cr ++ (A1 ++ F)))) := H.tre
  have hel : e.cells.length = 11 := rfl
  repeat (first | simp only [W0, pO, Option.map_some, Option.map_none] | with_reducible (first | refine lss_a ?_ | refine lss_b ?_ | refine gtr_a ?_ | refine gtr_b ?_ | refine geq_a ?_ | refine geq_b ?_ | refine leq_a ?_ | refine leq_b ?_ | refine eql_a ?_ | refine eql_b ?_ | refine neq_a ?_ | refine neq_b ?_ | refine add_a ?_ | refine sub_a ?_ | refine ld_a ?_ | refine ldA_a ?_ | refine ldS_a ?_ | refine ldNS_a ?_ | refine rdA_s ?_ | refine rd1_s ?_ | refine drew_a fun w1 H1 => ?_ | refine st_a fun w1 H1 => ?_ | refine stA_a fun w1 H1 => ?_ | refine lenT_a ?_ | refine lenO_a ?_ | refine ixT_a ?_ | refine ixO_a ?_ | refine bld_a ?_ | refine min_a ?_ | refine max_a ?_  | refine ldT_a ?_ | refine ldC_a ?_ | refine ldX_a ?_ | refine ldM_a ?_ | refine rdT_a ?_ | refine rdC_a ?_ | refine rdX_a ?_ | refine rdM_a ?_ | refine getCh_a ?_ | refine getCh2_a ?_ | refine getCn_a ?_ | refine getCn2_a ?_ | refine getPl_a ?_ | refine getPl2_a ?_ | refine getTk_a ?_ | refine getAn2_a ?_ | refine lenE_a ?_ | refine lenR_a ?_ | refine cv8_a ?_ | refine cv64_a ?_ | fail))
  refine cal_h (insE_spec ofE_ok t1 hs hl (by assumption)) ?_
  rintro _ w ⟨s', ce', rfl, H, t1'⟩
  obtain ⟨eh, rfl⟩ := t1'.sh
  repeat (first | simp only [W0, pO, Option.map_some, Option.map_none] | with_reducible (first | refine lss_a ?_ | refine lss_b ?_ | refine gtr_a ?_ | refine gtr_b ?_ | refine geq_a ?_ | refine geq_b ?_ | refine leq_a ?_ | refine leq_b ?_ | refine eql_a ?_ | refine eql_b ?_ | refine neq_a ?_ | refine neq_b ?_ | refine add_a ?_ | refine sub_a ?_ | refine ld_a ?_ | refine ldA_a ?_ | refine ldS_a ?_ | refine ldNS_a ?_ | refine rdA_s ?_ | refine rd1_s ?_ | refine drew_a fun w1 H1 => ?_ | refine st_a fun w1 H1 => ?_ | refine stA_a fun w1 H1 => ?_ | refine lenT_a ?_ | refine lenO_a ?_ | refine ixT_a ?_ | refine ixO_a ?_ | refine bld_a ?_ | refine min_a ?_ | refine max_a ?_  | refine ldT_a ?_ | refine ldC_a ?_ | refine ldX_a ?_ | refine ldM_a ?_ | refine rdT_a ?_ | refine rdC_a ?_ | refine rdX_a ?_ | refine rdM_a ?_ | refine getCh_a ?_ | refine getCh2_a ?_ | refine getCn_a ?_ | refine getCn2_a ?_ | refine getPl_a ?_ | refine getPl2_a ?_ | refine getTk_a ?_ | refine getAn2_a ?_ | refine lenE_a ?_ | refine lenR_a ?_ | refine cv8_a ?_ | refine cv64_a ?_ | fail))
  exact ⟨{ Nm.zero with eh := eh }, _, trivial, hre { ch with ents := insE e ch.ents, eh := eh } cmm ce' cr n (Nat.le_refl n) t1' t2 t3, Hp.tre (by assumption)⟩
theorem hand_spec {r : Rcv} {rs : List Rcv} (hA : TblAt tb T n A) (hn : n < 1000000) (hnn : 0 ≤ T.com ∧ T.com ≤ n ∧ 0 ≤ T.last ∧ T.last ≤ n) (qln : (T.ml.length : Int) ≤ T.last) (hD : TR cB w0 D e.dh.val e.data) (he : 0 ≤ e.room ∧ e.room ≤ 4096 ∧ e.data.length ≤ 4096)
    (hc : oget c T.chs = some ch) (hrs : ch.recs = r :: rs) (hr : 0 ≤ r.room ∧ r.room ≤ 4096) (hl : ch.recs.length < 2 ^ 30) (H : Hp w0 w L) (hS : Split L A F) (hDF : ∀ c ∈ D, c ∈ F) :
    Calls Pg 80 ⟨[ptr tb 0, ptr c 0, .agg ⟨e.cells⟩]⟩ w fun x w' => ∃ nm s A' cs, x = .returned s ∧ TR cWk w0 (cs ++ D) s (T.hand c ch e r rs nm).2 ∧ TblAt tb (T.hand c ch e r rs nm).1 (n + 2) A' ∧ Hp w0 w' (A' ++ (cs ++ F)) ∧
      (⟨nm.r2, .t 32, ((T.setCh c { ch with recs := rs, rh := nm.rh }).take c e r.th r.room nm).2.cells⟩ : Chunk) ∈ cs ++ D ∧
      TR cB w0 (cs ++ D) ((T.setCh c { ch with recs := rs, rh := nm.rh }).take c e r.th r.room nm).2.dh.val ((T.setCh c { ch with recs := rs, rh := nm.rh }).take c e r.th r.room nm).2.data ∧ oget nm.r T.mss = none := by
  have H := H.split hS
  apply F80_calls
  unfold F80
  refine bx_m H fun w bx H => ?_
  obtain ⟨cmm, ce, cr, A1, e1, t1, t2, t3, hre⟩ := hA.chn hc
  have H := Hp.eqv (F := F ++ [⟨bx, .t 110, e.cells⟩]) H.tre e1
  have H : Hp w0 w (cr ++ (⟨bx, .t 110, e.cells⟩ :: ⟨c, .t 103, [I ch.id, I ch.pr, .bool ch.unb, ch.eh.val, ch.rh.val, .map (some ch.sb)]⟩ :: cmm :: (ce ++ (A1 ++ F)))) := H.tre
  have hel : e.cells.length = 11 := rfl
  have hrl : r.cells.length = 4 := rfl
  have hx0 : ch.recs[0]? = some r := by rw [hrs]; rfl
  repeat (first | simp only [W0, pO, Option.map_some, Option.map_none] | with_reducible (first | refine lss_a ?_ | refine lss_b ?_ | refine gtr_a ?_ | refine gtr_b ?_ | refine geq_a ?_ | refine geq_b ?_ | refine leq_a ?_ | refine leq_b ?_ | refine eql_a ?_ | refine eql_b ?_ | refine neq_a ?_ | refine neq_b ?_ | refine add_a ?_ | refine sub_a ?_ | refine ld_a ?_ | refine ldA_a ?_ | refine ldS_a ?_ | refine ldNS_a ?_ | refine rdA_s ?_ | refine rd1_s ?_ | refine drew_a fun w1 H1 => ?_ | refine st_a fun w1 H1 => ?_ | refine stA_a fun w1 H1 => ?_ | refine lenT_a ?_ | refine lenO_a ?_ | refine ixT_a ?_ | refine ixO_a ?_ | refine bld_a ?_ | refine min_a ?_ | refine max_a ?_  | refine ldT_a ?_ | refine ldC_a ?_ | refine ldX_a ?_ | refine ldM_a ?_ | refine rdT_a ?_ | refine rdC_a ?_ | refine rdX_a ?_ | refine rdM_a ?_ | refine getCh_a ?_ | refine getCh2_a ?_ | refine getCn_a ?_ | refine getCn2_a ?_ | refine getPl_a ?_ | refine getPl2_a ?_ | refine getTk_a ?_ | refine getAn2_a ?_ | refine lenE_a ?_ | refine lenR_a ?_ | refine cv8_a ?_ | refine cv64_a ?_ | fail))
  refine ixN_t (C := cRc) (i := 0) t2.tr (by assumption) (by exact csub) hx0 (by decide) ?_
  refine al_m (ys := [I 0, I 0, I 0, I 0]) (by assumption) (by kernel_rfl) fun w br H => ?_
  have er : cRc.enc r = [I r.pri, I r.com, I r.th, I r.room] := rfl
  rw [er]
  repeat (first | simp only [W0, pO, Option.map_some, Option.map_none] | with_reducible (first | refine lss_a ?_ | refine lss_b ?_ | refine gtr_a ?_ | refine gtr_b ?_ | refine geq_a ?_ | refine geq_b ?_ | refine leq_a ?_ | refine leq_b ?_ | refine eql_a ?_ | refine eql_b ?_ | refine neq_a ?_ | refine neq_b ?_ | refine add_a ?_ | refine sub_a ?_ | refine ld_a ?_ | refine ldA_a ?_ | refine ldS_a ?_ | refine ldNS_a ?_ | refine rdA_s ?_ | refine rd1_s ?_ | refine drew_a fun w1 H1 => ?_ | refine st_a fun w1 H1 => ?_ | refine stA_a fun w1 H1 => ?_ | refine lenT_a ?_ | refine lenO_a ?_ | refine ixT_a ?_ | refine ixO_a ?_ | refine bld_a ?_ | refine min_a ?_ | refine max_a ?_  | refine ldT_a ?_ | refine ldC_a ?_ | refine ldX_a ?_ | refine ldM_a ?_ | refine rdT_a ?_ | refine rdC_a ?_ | refine rdX_a ?_ | refine rdM_a ?_ | refine getCh_a ?_ | refine getCh2_a ?_ | refine getCn_a ?_ | refine getCn2_a ?_ | refine getPl_a ?_ | refine getPl2_a ?_ | refine getTk_a ?_ | refine getAn2_a ?_ | refine lenE_a ?_ | refine lenR_a ?_ | refine cv8_a ?_ | refine cv64_a ?_ | fail))
  refine cal_h (sDelR_spec (k := 0) (F := ⟨br, .t 107, [I r.pri, I r.com, I r.th, I r.room]⟩ :: ⟨bx, .t 110, e.cells⟩ :: ⟨c, .t 103, [I ch.id, I ch.pr, .bool ch.unb, ch.eh.val, ch.rh.val, .map (some ch.sb)]⟩ :: cmm :: (ce ++ (A1 ++ F))) t2 (by rw [hrs]; simp) hl (Hp.tre (by assumption))) ?_
  rintro _ w ⟨s', cr', rfl, H, t2'⟩
  obtain ⟨rh, rfl⟩ := t2'.sh
  rw [hrs] at t2'
  repeat (first | simp only [W0, pO, Option.map_some, Option.map_none] | with_reducible (first | refine lss_a ?_ | refine lss_b ?_ | refine gtr_a ?_ | refine gtr_b ?_ | refine geq_a ?_ | refine geq_b ?_ | refine leq_a ?_ | refine leq_b ?_ | refine eql_a ?_ | refine eql_b ?_ | refine neq_a ?_ | refine neq_b ?_ | refine add_a ?_ | refine sub_a ?_ | refine ld_a ?_ | refine ldA_a ?_ | refine ldS_a ?_ | refine ldNS_a ?_ | refine rdA_s ?_ | refine rd1_s ?_ | refine drew_a fun w1 H1 => ?_ | refine st_a fun w1 H1 => ?_ | refine stA_a fun w1 H1 => ?_ | refine lenT_a ?_ | refine lenO_a ?_ | refine ixT_a ?_ | refine ixO_a ?_ | refine bld_a ?_ | refine min_a ?_ | refine max_a ?_  | refine ldT_a ?_ | refine ldC_a ?_ | refine ldX_a ?_ | refine ldM_a ?_ | refine rdT_a ?_ | refine rdC_a ?_ | refine rdX_a ?_ | refine rdM_a ?_ | refine getCh_a ?_ | refine getCh2_a ?_ | refine getCn_a ?_ | refine getCn2_a ?_ | refine getPl_a ?_ | refine getPl2_a ?_ | refine getTk_a ?_ | refine getAn2_a ?_ | refine lenE_a ?_ | refine lenR_a ?_ | refine cv8_a ?_ | refine cv64_a ?_ | fail))
  have hA := hre { ch with recs := rs, rh := rh } cmm ce cr' n (Nat.le_refl n) t1 t2' t3
  obtain ⟨A2, hA, H⟩ : ∃ A2, TblAt tb (T.setCh c { ch with recs := rs, rh := rh }) n A2 ∧ Hp w0 w1 (A2 ++ (⟨br, .t 107, [I r.pri, I r.com, I r.th, I r.room]⟩ :: ⟨bx, .t 110, e.cells⟩ :: F)) := ⟨_, hA, Hp.tre (by assumption)⟩
  repeat (first | simp only [W0, pO, Option.map_some, Option.map_none] | with_reducible (first | refine lss_a ?_ | refine lss_b ?_ | refine gtr_a ?_ | refine gtr_b ?_ | refine geq_a ?_ | refine geq_b ?_ | refine leq_a ?_ | refine leq_b ?_ | refine eql_a ?_ | refine eql_b ?_ | refine neq_a ?_ | refine neq_b ?_ | refine add_a ?_ | refine sub_a ?_ | refine ld_a ?_ | refine ldA_a ?_ | refine ldS_a ?_ | refine ldNS_a ?_ | refine rdA_s ?_ | refine rd1_s ?_ | refine drew_a fun w1 H1 => ?_ | refine st_a fun w1 H1 => ?_ | refine stA_a fun w1 H1 => ?_ | refine lenT_a ?_ | refine lenO_a ?_ | refine ixT_a ?_ | refine ixO_a ?_ | refine bld_a ?_ | refine min_a ?_ | refine max_a ?_  | refine ldT_a ?_ | refine ldC_a ?_ | refine ldX_a ?_ | refine ldM_a ?_ | refine rdT_a ?_ | refine rdC_a ?_ | refine rdX_a ?_ | refine rdM_a ?_ | refine getCh_a ?_ | refine getCh2_a ?_ | refine getCn_a ?_ | refine getCn2_a ?_ | refine getPl_a ?_ | refine getPl2_a ?_ | refine getTk_a ?_ | refine getAn2_a ?_ | refine lenE_a ?_ | refine lenR_a ?_ | refine cv8_a ?_ | refine cv64_a ?_ | fail))
  refine cal_h (take_spec hA hn hnn qln hD he hr H Split.here (by intro x hx; simp [hDF x hx])) ?_
  rintro _ w ⟨nm, A3, cs1, rfl, hA, H, hdt, hfr⟩
  have emg : ∀ nm' : Nm, ((T.setCh c { ch with recs := rs, rh := rh }).take c e r.th r.room { nm with r2 := nm'.r2, rh := nm'.rh }) = (T.setCh c { ch with recs := rs, rh := rh }).take c e r.th r.room nm := fun _ => rfl
  generalize hX : (T.setCh c { ch with recs := rs, rh := rh }).take c e r.th r.room nm = X at *
  simp only [ret_k]
  have hml : X.2.cells.length = 10 := rfl
  have hmc : X.2.cells = [I X.2.id, I X.2.th, I X.2.pid, I X.2.conn, I X.2.pri, I X.2.code, I X.2.val, X.2.dh.val, I X.2.len, I X.2.cnt] := rfl
  refine al_m (ys := [I 0, I 0, I 0, I 0, I 0, I 0, I 0, .slice none 0 0, I 0, I 0]) (by assumption) (by kernel_rfl) fun w bm H => ?_
  rw [hmc]
  repeat (first | simp only [W0, pO, Option.map_some, Option.map_none] | with_reducible (first | refine lss_a ?_ | refine lss_b ?_ | refine gtr_a ?_ | refine gtr_b ?_ | refine geq_a ?_ | refine geq_b ?_ | refine leq_a ?_ | refine leq_b ?_ | refine eql_a ?_ | refine eql_b ?_ | refine neq_a ?_ | refine neq_b ?_ | refine add_a ?_ | refine sub_a ?_ | refine ld_a ?_ | refine ldA_a ?_ | refine ldS_a ?_ | refine ldNS_a ?_ | refine rdA_s ?_ | refine rd1_s ?_ | refine drew_a fun w1 H1 => ?_ | refine st_a fun w1 H1 => ?_ | refine stA_a fun w1 H1 => ?_ | refine lenT_a ?_ | refine lenO_a ?_ | refine ixT_a ?_ | refine ixO_a ?_ | refine bld_a ?_ | refine min_a ?_ | refine max_a ?_  | refine ldT_a ?_ | refine ldC_a ?_ | refine ldX_a ?_ | refine ldM_a ?_ | refine rdT_a ?_ | refine rdC_a ?_ | refine rdX_a ?_ | refine rdM_a ?_ | refine getCh_a ?_ | refine getCh2_a ?_ | refine getCn_a ?_ | refine getCn2_a ?_ | refine getPl_a ?_ | refine getPl2_a ?_ | refine getTk_a ?_ | refine getAn2_a ?_ | refine lenE_a ?_ | refine lenR_a ?_ | refine cv8_a ?_ | refine cv64_a ?_ | fail))
  refine putTk_a X.2 fun w A4 hA H => ?_
  repeat (first | simp only [W0, pO, Option.map_some, Option.map_none] | with_reducible (first | refine lss_a ?_ | refine lss_b ?_ | refine gtr_a ?_ | refine gtr_b ?_ | refine geq_a ?_ | refine geq_b ?_ | refine leq_a ?_ | refine leq_b ?_ | refine eql_a ?_ | refine eql_b ?_ | refine neq_a ?_ | refine neq_b ?_ | refine add_a ?_ | refine sub_a ?_ | refine ld_a ?_ | refine ldA_a ?_ | refine ldS_a ?_ | refine ldNS_a ?_ | refine rdA_s ?_ | refine rd1_s ?_ | refine drew_a fun w1 H1 => ?_ | refine st_a fun w1 H1 => ?_ | refine stA_a fun w1 H1 => ?_ | refine lenT_a ?_ | refine lenO_a ?_ | refine ixT_a ?_ | refine ixO_a ?_ | refine bld_a ?_ | refine min_a ?_ | refine max_a ?_  | refine ldT_a ?_ | refine ldC_a ?_ | refine ldX_a ?_ | refine ldM_a ?_ | refine rdT_a ?_ | refine rdC_a ?_ | refine rdX_a ?_ | refine rdM_a ?_ | refine getCh_a ?_ | refine getCh2_a ?_ | refine getCn_a ?_ | refine getCn2_a ?_ | refine getPl_a ?_ | refine getPl2_a ?_ | refine getTk_a ?_ | refine getAn2_a ?_ | refine lenE_a ?_ | refine lenR_a ?_ | refine cv8_a ?_ | refine cv64_a ?_ | fail))
  refine cal_h (ready_spec hA (by assumption)) ?_
  rintro _ w ⟨A5, rfl, hA, H⟩
  repeat (first | simp only [W0, pO, Option.map_some, Option.map_none] | with_reducible (first | refine lss_a ?_ | refine lss_b ?_ | refine gtr_a ?_ | refine gtr_b ?_ | refine geq_a ?_ | refine geq_b ?_ | refine leq_a ?_ | refine leq_b ?_ | refine eql_a ?_ | refine eql_b ?_ | refine neq_a ?_ | refine neq_b ?_ | refine add_a ?_ | refine sub_a ?_ | refine ld_a ?_ | refine ldA_a ?_ | refine ldS_a ?_ | refine ldNS_a ?_ | refine rdA_s ?_ | refine rd1_s ?_ | refine drew_a fun w1 H1 => ?_ | refine st_a fun w1 H1 => ?_ | refine stA_a fun w1 H1 => ?_ | refine lenT_a ?_ | refine lenO_a ?_ | refine ixT_a ?_ | refine ixO_a ?_ | refine bld_a ?_ | refine min_a ?_ | refine max_a ?_  | refine ldT_a ?_ | refine ldC_a ?_ | refine ldX_a ?_ | refine ldM_a ?_ | refine rdT_a ?_ | refine rdC_a ?_ | refine rdX_a ?_ | refine rdM_a ?_ | refine getCh_a ?_ | refine getCh2_a ?_ | refine getCn_a ?_ | refine getCn2_a ?_ | refine getPl_a ?_ | refine getPl2_a ?_ | refine getTk_a ?_ | refine getAn2_a ?_ | refine lenE_a ?_ | refine lenR_a ?_ | refine cv8_a ?_ | refine cv64_a ?_ | fail))
  refine lit1_t (C := cWk) (x := ⟨r.th, 0, X.2.id⟩) elW (by assumption) rfl (by decide) fun w sw cw H tw => ?_
  refine ⟨{ nm with r2 := bm, rh := rh }, sw, A5, ⟨bm, .t 32, X.2.cells⟩ :: (cw ++ cs1), rfl, ?_⟩
  unfold Tbl.hand
  simp only [emg { nm with r2 := bm, rh := rh }]
  exact ⟨tw.tr.mono (by intro x hx; simp [hx]), hA, Hp.tre (by assumption), by simp, hdt.mono (by intro x hx; rcases List.mem_append.1 hx with h | h <;> simp [h]), hfr⟩
end
end Go.Proofs.YtmkcjopacmadhaaGreat.Den
