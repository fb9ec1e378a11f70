/- Channels: Reply. Conditions: none. -/
import Derived.Test.YtmkcjopacmadhaaGreatChY
set_option linter.unusedVariables false
set_option linter.unusedSimpArgs false
set_option maxRecDepth 8000
set_option maxHeartbeats 2000000
namespace Go.Proofs.YtmkcjopacmadhaaGreat.Den
open Go Go.RowKit
def Tbl.delMs (T : Tbl) (r : Nat) : Tbl := { T with mss := odel r T.mss }
/-- A message is replied to. -/
def Tbl.reply1 (T : Tbl) (r : Nat) (m : Msg) (status : Int) (data : List Int) (nm : Nm) : Tbl :=
  (((((T.setMs r (m.write 0 data)).setAns m.cl (some (nm.ch, (m.write 0 data).area.take (m.write 0 data).len.toNat))).drop r nm.mh).setBlk m.cl none).delMs r)
def Tbl.reply (T : Tbl) (p id status : Int) (data : List Int) (nm : Nm) : Tbl × List Wk × Int := match T.asked p id data.length with
  | (none, e) => (T, [], e)
  | (some r, _) => match oget r T.mss with
    | none => (T, [], 3)
    | some m => if m.area.length < data.length then (T, [], 34) else (T.reply1 r m status data nm, [⟨m.cl, 0, status⟩], 0)
theorem odel_mem {α : Type} {r : Nat} {q : Nat × α} : ∀ {l : List (Nat × α)}, q ∈ odel r l → q ∈ l := fun h => odel_keys_sub.subset h
section
variable {w w' w0 : World} {L L' F cs cs2 cs3 A D D' cd : List Chunk} {s s2 dv : Value} {K : VK} {R : ER} {tb n b c r : Nat} {T : Tbl} {pri th code val p id cn room status : Int} {ch : Chn} {data : List Int} {m : Msg} {mh : Sh}
theorem write_wf {off : Nat} (h1 : 0 ≤ m.len ∧ m.len ≤ m.area.length) (h2 : off + data.length ≤ m.area.length) : (m.write off data).area.length = m.area.length ∧ 0 ≤ (m.write off data).len ∧ (m.write off data).len ≤ m.area.length := by
  unfold Msg.write
  split
  · exact ⟨rfl, h1⟩
  · refine ⟨by simp [layI]; omega, ?_, ?_⟩ <;> simp only <;> omega
theorem TDat.setMs {m' : Msg} (h : TDat w0 D T) (hx : TR cB w0 D m'.dh.val m'.data) : TDat w0 D (T.setMs r m') :=
  ⟨h.ent, fun r' x hm => by
    rcases mem_oset hm with h1 | h1
    · injection h1 with h1 h2; subst h2; exact hx
    · exact h.msg r' x h1, h.tak, h.ans⟩
theorem TDat.drop (h : TDat w0 D T) : TDat w0 D (T.drop r mh) := ⟨h.ent, h.msg, h.tak, h.ans⟩
theorem TDat.delMs (h : TDat w0 D T) : TDat w0 D (T.delMs r) := ⟨h.ent, fun r' x hm => h.msg r' x (odel_mem hm), h.tak, h.ans⟩
theorem write_dh {off : Nat} : (m.write off data).dh = m.dh ∧ (m.write off data).data = m.data ∧ (m.write off data).cl = m.cl ∧ (m.write off data).ah = m.ah ∧ (m.write off data).id = m.id ∧ (m.write off data).ch = m.ch ∧ (m.write off data).pri = m.pri ∧ (m.write off data).ho = m.ho ∧ (m.write off data).pul = m.pul := by
  unfold Msg.write; split <;> exact ⟨rfl, rfl, rfl, rfl, rfl, rfl, rfl, rfl, rfl⟩
theorem Reply_spec (hA : TblAt tb T n A) (hn : n < 900000) (hok : T.Ok n) (hTD : TDat w0 D T) (hd : TR cB w0 cd dv data) (hdF : ∀ c ∈ cd, c ∈ F) (H : Hp w0 w L) (hS : Split L A F) (hDF : ∀ c ∈ D, c ∈ F) :
    Calls Pg 29 ⟨[ptr tb 0, I p, I id, I status, dv]⟩ w (WkPost w0 tb n F D T (T.reply p id status data)) := by
  have H := H.split hS
  apply F29_calls
  unfold F29
  refine cal_h (asked_spec hA (by omega) hok (lenS_tr hd) H) ?_
  rintro _ w ⟨rfl, H⟩
  obtain ⟨q1, q2, q3, q4⟩ := hok.nn
  rcases ha : T.asked p id data.length with ⟨_ | r, e⟩
  · have := asked_no ha
    repeat (first | simp only [W0, pO, Option.map_some, Option.map_none] | with_reducible (first | refine lss_a ?_ | refine lss_b ?_ | refine gtr_a ?_ | refine gtr_b ?_ | refine geq_a ?_ | refine geq_b ?_ | refine leq_a ?_ | refine leq_b ?_ | refine eql_a ?_ | refine eql_b ?_ | refine neq_a ?_ | refine neq_b ?_ | refine add_a ?_ | refine sub_a ?_ | refine ld_a ?_ | refine ldA_a ?_ | refine ldS_a ?_ | refine ldNS_a ?_ | refine rdA_s ?_ | refine rd1_s ?_ | refine drew_a fun w1 H1 => ?_ | refine st_a fun w1 H1 => ?_ | refine stA_a fun w1 H1 => ?_ | refine lenT_a ?_ | refine lenO_a ?_ | refine ixT_a ?_ | refine ixO_a ?_ | refine bld_a ?_ | refine min_a ?_ | refine max_a ?_  | refine ldT_a ?_ | refine ldC_a ?_ | refine ldX_a ?_ | refine ldM_a ?_ | refine rdT_a ?_ | refine rdC_a ?_ | refine rdX_a ?_ | refine rdM_a ?_ | refine getCh_a ?_ | refine getCh2_a ?_ | refine getCn_a ?_ | refine getCn2_a ?_ | refine getPl_a ?_ | refine getPl2_a ?_ | refine getTk_a ?_ | refine getAn2_a ?_ | refine lenE_a ?_ | refine lenR_a ?_ | refine cv8_a ?_ | refine cv64_a ?_ | fail))
    exact WkPost.err (e := e) (fun nm => by unfold Tbl.reply; rw [ha]) hA hTD H
  obtain ⟨_, hd1, rfl, hr, m, ch, hm, _⟩ := asked_ok hok ha
  obtain ⟨hw1, hw2, hw3, hw4⟩ := hok.mw r m hm
  have hmd := hTD.msg r m (oget_mem hm)
  have hla : lenS m.ah.val = some (I (m.area.length : Int)) := by
    obtain ⟨_, _, _, t1, _⟩ := hA.msg hm; exact lenS_ts t1
  repeat (first | simp only [W0, pO, Option.map_some, Option.map_none] | with_reducible (first | refine lss_a ?_ | refine lss_b ?_ | refine gtr_a ?_ | refine gtr_b ?_ | refine geq_a ?_ | refine geq_b ?_ | refine leq_a ?_ | refine leq_b ?_ | refine eql_a ?_ | refine eql_b ?_ | refine neq_a ?_ | refine neq_b ?_ | refine add_a ?_ | refine sub_a ?_ | refine ld_a ?_ | refine ldA_a ?_ | refine ldS_a ?_ | refine ldNS_a ?_ | refine rdA_s ?_ | refine rd1_s ?_ | refine drew_a fun w1 H1 => ?_ | refine st_a fun w1 H1 => ?_ | refine stA_a fun w1 H1 => ?_ | refine lenT_a ?_ | refine lenO_a ?_ | refine ixT_a ?_ | refine ixO_a ?_ | refine bld_a ?_ | refine min_a ?_ | refine max_a ?_  | refine ldT_a ?_ | refine ldC_a ?_ | refine ldX_a ?_ | refine ldM_a ?_ | refine rdT_a ?_ | refine rdC_a ?_ | refine rdX_a ?_ | refine rdM_a ?_ | refine getCh_a ?_ | refine getCh2_a ?_ | refine getCn_a ?_ | refine getCn2_a ?_ | refine getPl_a ?_ | refine getPl2_a ?_ | refine getTk_a ?_ | refine getAn2_a ?_ | refine lenE_a ?_ | refine lenR_a ?_ | refine cv8_a ?_ | refine cv64_a ?_ | fail))
  unfold F29_j1
  repeat (first | simp only [W0, pO, Option.map_some, Option.map_none] | with_reducible (first | refine lss_a ?_ | refine lss_b ?_ | refine gtr_a ?_ | refine gtr_b ?_ | refine geq_a ?_ | refine geq_b ?_ | refine leq_a ?_ | refine leq_b ?_ | refine eql_a ?_ | refine eql_b ?_ | refine neq_a ?_ | refine neq_b ?_ | refine add_a ?_ | refine sub_a ?_ | refine ld_a ?_ | refine ldA_a ?_ | refine ldS_a ?_ | refine ldNS_a ?_ | refine rdA_s ?_ | refine rd1_s ?_ | refine drew_a fun w1 H1 => ?_ | refine st_a fun w1 H1 => ?_ | refine stA_a fun w1 H1 => ?_ | refine lenT_a ?_ | refine lenO_a ?_ | refine ixT_a ?_ | refine ixO_a ?_ | refine bld_a ?_ | refine min_a ?_ | refine max_a ?_  | refine ldT_a ?_ | refine ldC_a ?_ | refine ldX_a ?_ | refine ldM_a ?_ | refine rdT_a ?_ | refine rdC_a ?_ | refine rdX_a ?_ | refine rdM_a ?_ | refine getCh_a ?_ | refine getCh2_a ?_ | refine getCn_a ?_ | refine getCn2_a ?_ | refine getPl_a ?_ | refine getPl2_a ?_ | refine getTk_a ?_ | refine getAn2_a ?_ | refine lenE_a ?_ | refine lenR_a ?_ | refine cv8_a ?_ | refine cv64_a ?_ | fail))
  refine pv_of hla ?_
  by_cases h1 : m.area.length < data.length
  · repeat (first | simp only [W0, pO, Option.map_some, Option.map_none] | with_reducible (first | refine lss_a ?_ | refine lss_b ?_ | refine gtr_a ?_ | refine gtr_b ?_ | refine geq_a ?_ | refine geq_b ?_ | refine leq_a ?_ | refine leq_b ?_ | refine eql_a ?_ | refine eql_b ?_ | refine neq_a ?_ | refine neq_b ?_ | refine add_a ?_ | refine sub_a ?_ | refine ld_a ?_ | refine ldA_a ?_ | refine ldS_a ?_ | refine ldNS_a ?_ | refine rdA_s ?_ | refine rd1_s ?_ | refine drew_a fun w1 H1 => ?_ | refine st_a fun w1 H1 => ?_ | refine stA_a fun w1 H1 => ?_ | refine lenT_a ?_ | refine lenO_a ?_ | refine ixT_a ?_ | refine ixO_a ?_ | refine bld_a ?_ | refine min_a ?_ | refine max_a ?_  | refine ldT_a ?_ | refine ldC_a ?_ | refine ldX_a ?_ | refine ldM_a ?_ | refine rdT_a ?_ | refine rdC_a ?_ | refine rdX_a ?_ | refine rdM_a ?_ | refine getCh_a ?_ | refine getCh2_a ?_ | refine getCn_a ?_ | refine getCn2_a ?_ | refine getPl_a ?_ | refine getPl2_a ?_ | refine getTk_a ?_ | refine getAn2_a ?_ | refine lenE_a ?_ | refine lenR_a ?_ | refine cv8_a ?_ | refine cv64_a ?_ | fail))
    exact WkPost.err (e := 34) (fun nm => by unfold Tbl.reply; rw [ha]; simp only [hm]; rw [if_pos h1]) hA hTD H
  repeat (first | simp only [W0, pO, Option.map_some, Option.map_none] | with_reducible (first | refine lss_a ?_ | refine lss_b ?_ | refine gtr_a ?_ | refine gtr_b ?_ | refine geq_a ?_ | refine geq_b ?_ | refine leq_a ?_ | refine leq_b ?_ | refine eql_a ?_ | refine eql_b ?_ | refine neq_a ?_ | refine neq_b ?_ | refine add_a ?_ | refine sub_a ?_ | refine ld_a ?_ | refine ldA_a ?_ | refine ldS_a ?_ | refine ldNS_a ?_ | refine rdA_s ?_ | refine rd1_s ?_ | refine drew_a fun w1 H1 => ?_ | refine st_a fun w1 H1 => ?_ | refine stA_a fun w1 H1 => ?_ | refine lenT_a ?_ | refine lenO_a ?_ | refine ixT_a ?_ | refine ixO_a ?_ | refine bld_a ?_ | refine min_a ?_ | refine max_a ?_  | refine ldT_a ?_ | refine ldC_a ?_ | refine ldX_a ?_ | refine ldM_a ?_ | refine rdT_a ?_ | refine rdC_a ?_ | refine rdX_a ?_ | refine rdM_a ?_ | refine getCh_a ?_ | refine getCh2_a ?_ | refine getCn_a ?_ | refine getCn2_a ?_ | refine getPl_a ?_ | refine getPl2_a ?_ | refine getTk_a ?_ | refine getAn2_a ?_ | refine lenE_a ?_ | refine lenR_a ?_ | refine cv8_a ?_ | refine cv64_a ?_ | fail))
  unfold F29_j2
  refine cal_h (mwrite_spec (off := 0) hA hm (by omega) hw3 ⟨hw1, by omega⟩ hd H Split.here hdF) ?_
  rintro _ w ⟨A1, rfl, hA, H⟩
  obtain ⟨g1, g2, g3⟩ := write_wf (off := 0) (data := data) ⟨hw1, hw2⟩ (by omega)
  obtain ⟨d1, d2, d3, d4, _⟩ := write_dh (m := m) (off := 0) (data := data)
  have hm1 : oget r (T.setMs r (m.write 0 data)).mss = some (m.write 0 data) := by
    show oget r (oset r _ T.mss) = _
    rw [oget_set, hm]; rfl
  obtain ⟨ca, A2, e1, t1, _⟩ := hA.msg hm1
  obtain ⟨sa, esa, tsa⟩ := slTo_t (hi := (m.write 0 data).len.toNat) t1 (by omega)
  obtain ⟨ah, rfl⟩ := tsa.sh
  have eln : (m.write 0 data).len = (((m.write 0 data).len.toNat : Nat) : Int) := by omega
  repeat (first | simp only [W0, pO, Option.map_some, Option.map_none] | with_reducible (first | refine lss_a ?_ | refine lss_b ?_ | refine gtr_a ?_ | refine gtr_b ?_ | refine geq_a ?_ | refine geq_b ?_ | refine leq_a ?_ | refine leq_b ?_ | refine eql_a ?_ | refine eql_b ?_ | refine neq_a ?_ | refine neq_b ?_ | refine add_a ?_ | refine sub_a ?_ | refine ld_a ?_ | refine ldA_a ?_ | refine ldS_a ?_ | refine ldNS_a ?_ | refine rdA_s ?_ | refine rd1_s ?_ | refine drew_a fun w1 H1 => ?_ | refine st_a fun w1 H1 => ?_ | refine stA_a fun w1 H1 => ?_ | refine lenT_a ?_ | refine lenO_a ?_ | refine ixT_a ?_ | refine ixO_a ?_ | refine bld_a ?_ | refine min_a ?_ | refine max_a ?_  | refine ldT_a ?_ | refine ldC_a ?_ | refine ldX_a ?_ | refine ldM_a ?_ | refine rdT_a ?_ | refine rdC_a ?_ | refine rdX_a ?_ | refine rdM_a ?_ | refine getCh_a ?_ | refine getCh2_a ?_ | refine getCn_a ?_ | refine getCn2_a ?_ | refine getPl_a ?_ | refine getPl2_a ?_ | refine getTk_a ?_ | refine getAn2_a ?_ | refine lenE_a ?_ | refine lenR_a ?_ | refine cv8_a ?_ | refine cv64_a ?_ | fail))
  rw [← eln] at esa
  refine pv_of esa ?_
  simp only [d3]
  refine putAn_a ah ((m.write 0 data).area.take (m.write 0 data).len.toNat) fun w A3 hA H => ?_
  repeat (first | simp only [W0, pO, Option.map_some, Option.map_none] | with_reducible (first | refine lss_a ?_ | refine lss_b ?_ | refine gtr_a ?_ | refine gtr_b ?_ | refine geq_a ?_ | refine geq_b ?_ | refine leq_a ?_ | refine leq_b ?_ | refine eql_a ?_ | refine eql_b ?_ | refine neq_a ?_ | refine neq_b ?_ | refine add_a ?_ | refine sub_a ?_ | refine ld_a ?_ | refine ldA_a ?_ | refine ldS_a ?_ | refine ldNS_a ?_ | refine rdA_s ?_ | refine rd1_s ?_ | refine drew_a fun w1 H1 => ?_ | refine st_a fun w1 H1 => ?_ | refine stA_a fun w1 H1 => ?_ | refine lenT_a ?_ | refine lenO_a ?_ | refine ixT_a ?_ | refine ixO_a ?_ | refine bld_a ?_ | refine min_a ?_ | refine max_a ?_  | refine ldT_a ?_ | refine ldC_a ?_ | refine ldX_a ?_ | refine ldM_a ?_ | refine rdT_a ?_ | refine rdC_a ?_ | refine rdX_a ?_ | refine rdM_a ?_ | refine getCh_a ?_ | refine getCh2_a ?_ | refine getCn_a ?_ | refine getCn2_a ?_ | refine getPl_a ?_ | refine getPl2_a ?_ | refine getTk_a ?_ | refine getAn2_a ?_ | refine lenE_a ?_ | refine lenR_a ?_ | refine cv8_a ?_ | refine cv64_a ?_ | fail))
  refine cal_h (drop_spec hA (by omega) (by show (T.ml.length : Int) ≤ T.last ∧ T.last ≤ ((n + 1 : Nat) : Int); have := hok.ln; omega) (fun a hma => ?_) (m := m.write 0 data) hm1 (by assumption)) ?_
  · obtain ⟨x, hx, _⟩ := hok.ms a hma
    by_cases har : a = r
    · subst har; exact ⟨_, hm1⟩
    · exact ⟨x, by show oget a (oset r _ T.mss) = _; rw [oget_set_ne har]; exact hx⟩
  rintro _ w ⟨mh, A4, rfl, hA, H⟩
  simp only [ret_k, d3] at hA ⊢
  refine lit1_t (C := cWk) (x := ⟨m.cl, 0, status⟩) elW (by assumption) rfl (by decide) fun w sw cw H tw => ?_
  have hm2 : oget r ((((T.setMs r (m.write 0 data)).setAns m.cl (some (ah, (m.write 0 data).area.take (m.write 0 data).len.toNat))).drop r mh).setBlk m.cl none).mss = some (m.write 0 data) := hm1
  obtain ⟨ca2, A5, e2, t2, _, hdel⟩ := hA.msg hm2
  obtain ⟨sa2, esa2, tsa2⟩ := slTo_t (hi := (m.write 0 data).len.toNat) t2 (by omega)
  rw [← eln, esa] at esa2
  injection esa2 with esa2
  subst esa2
  obtain ⟨r0, hr0⟩ := fresh_ex T.mss
  have hs : T.reply p id status data { Nm.zero with r := r0, ch := ah, mh := mh } = (T.reply1 r m status data { Nm.zero with r := r0, ch := ah, mh := mh }, [⟨m.cl, 0, status⟩], 0) := by
    unfold Tbl.reply; rw [ha]; simp only [hm]; rw [if_neg h1]
  have H := Hp.eqv (F := cw ++ F) H.tre e2
  refine ⟨{ Nm.zero with r := r0, ch := ah, mh := mh }, sw, A5, cw ++ ca2, by rw [hs], ?_⟩
  rw [hs]
  refine ⟨tw.tr.mono (by intro x hx; simp [hx]), hdel.mono (by omega), Hp.tre (by assumption), ?_, ?_⟩
  · have hT0 : TDat w0 ((cw ++ ca2) ++ D) T := hTD.mono fun x hx => by simp [hx]
    refine (((hT0.setMs (by rw [d1, d2]; exact hmd.mono fun x hx => by simp [hx])).setAns fun h l he => ?_).drop.setBlk).delMs
    simp only [Option.some.injEq, Prod.mk.injEq] at he
    obtain ⟨rfl, rfl⟩ := he
    exact tsa2.tr.mono fun x hx => by simp [hx]
  · exact hr0
end
end Go.Proofs.YtmkcjopacmadhaaGreat.Den
