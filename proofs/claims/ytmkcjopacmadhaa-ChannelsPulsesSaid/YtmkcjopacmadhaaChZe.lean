/- Channels: Write; what is sent can be read, what is written is the answer. Conditions: none. -/
import Derived.Test.YtmkcjopacmadhaaChZc
set_option linter.unusedVariables false
set_option linter.unusedSimpArgs false
set_option maxRecDepth 8000
set_option maxHeartbeats 2000000
namespace Go.Proofs.Ytmkcjopacmadhaa.Den
open Go Go.RowKit
def Tbl.write (T : Tbl) (p id off : Int) (data : List Int) : Tbl × Int × Int := match T.asked p id data.length with
  | (none, e) => (T, 0, e)
  | (some r, _) => match oget r T.mss with
    | none => (T, 0, 3)
    | some m => if off < 0 ∨ (m.area.length : Int) < off ∨ (m.area.length : Int) - off < data.length then (T, 0, 34) else (T.setMs r (m.write off.toNat data), (data.length : Int), 0)
section
variable {n r : Nat} {T : Tbl} {m m' : Msg} {p id off : Int} {data : List Int} {ch : Chn}
theorem oget_setMs (hm : oget r T.mss = some m) (a : Nat) : oget a (T.setMs r m').mss = if a = r then some m' else oget a T.mss := by
  show oget a (oset r m' T.mss) = _
  split
  · rename_i h; subst h; rw [oget_set, hm]; rfl
  · rename_i h; exact oget_set_ne h
theorem Tbl.Ok.setMs (h : T.Ok n) (hm : oget r T.mss = some m) (h1 : m'.id = m.id) (h2 : m'.ch = m.ch) (h3 : 0 ≤ m'.len ∧ m'.len ≤ m'.area.length ∧ m'.area.length ≤ 4096 ∧ m'.data.length ≤ 4096) : (T.setMs r m').Ok n where
  nn := h.nn
  ch := h.ch
  cn := h.cn
  cc := h.cc
  so := h.so
  en := h.en
  rc := h.rc
  ms := fun a ha => by
    obtain ⟨x, hx, hc⟩ := h.ms a ha
    rw [oget_setMs hm]
    split
    · rename_i he; subst he; rw [hm] at hx; injection hx with hx; subst hx; exact ⟨m', rfl, by rw [h2]; exact hc⟩
    · exact ⟨x, hx, hc⟩
  mi := by
    have key : ∀ a x, oget a (T.setMs r m').mss = some x → ∃ y, oget a T.mss = some y ∧ y.id = x.id := by
      intro a x hx
      rw [oget_setMs hm] at hx
      split at hx
      · rename_i he; subst he; injection hx with hx; subst hx; exact ⟨m, hm, h1.symm⟩
      · exact ⟨x, hx, rfl⟩
    refine h.mi.imp fun hab x y hx hy => ?_
    obtain ⟨x', hx', e1⟩ := key _ _ hx
    obtain ⟨y', hy', e2⟩ := key _ _ hy
    rw [← e1, ← e2]; exact hab x' y' hx' hy'
  ml := fun a x hx => by
    rw [oget_setMs hm] at hx
    split at hx
    · injection hx with hx; subst hx; rw [h1]; exact h.ml r m hm
    · exact h.ml a x hx
  mw := fun a x hx => by
    rw [oget_setMs hm] at hx
    split at hx
    · injection hx with hx; subst hx; exact h3
    · exact h.mw a x hx
  ln := h.ln
  le := h.le
theorem write_ok (h : T.Ok n) : (T.write p id off data).1.Ok n := by
  unfold Tbl.write
  split
  · exact h
  · rename_i r _ ha
    obtain ⟨_, _, _, _, m, _, hm, _⟩ := asked_ok h ha
    obtain ⟨w1, w2, w3, w4⟩ := h.mw r m hm
    simp only [hm]
    split
    · exact h
    · rename_i hb
      obtain ⟨d1, d2, d3, d4, d5, d6, _⟩ := write_dh (m := m) (off := off.toNat) (data := data)
      obtain ⟨g1, g2, g3⟩ := write_wf (m := m) (off := off.toNat) (data := data) ⟨w1, w2⟩ (by omega)
      exact h.setMs hm d5 d6 ⟨g2, by rw [g1]; exact g3, by rw [g1]; exact w3, by rw [d2]; exact w4⟩
theorem write_dat {w0 : World} {D : List Chunk} (h : T.Ok n) (hT : TDat w0 D T) : TDat w0 D (T.write p id off data).1 := by
  unfold Tbl.write
  split
  · exact hT
  · rename_i r _ ha
    obtain ⟨_, _, _, _, m, _, hm, _⟩ := asked_ok h ha
    simp only [hm]
    split
    · exact hT
    · obtain ⟨d1, d2, _⟩ := write_dh (m := m) (off := off.toNat) (data := data)
      exact hT.setMs (by rw [d1, d2]; exact hT.msg r m (oget_mem hm))
theorem write_one {a : Nat} (hok : T.Ok n) (hp : proc p) (hr : a ∈ T.ml) (hm : oget a T.mss = some m) (hc : oget m.ch T.chs = some ch) (hpr : ch.pr = p) : T.write p m.id off data =
    if 4096 < data.length then (T, 0, 20) else if off < 0 ∨ (m.area.length : Int) < off ∨ (m.area.length : Int) - off < data.length then (T, 0, 34) else (T.setMs a (m.write off.toNat data), (data.length : Int), 0) := by
  unfold Tbl.write
  split
  · rename_i h; unfold Tbl.asked at *
    by_cases hl : 4096 < data.length
    · rw [if_pos hl]; rename_i e h
      rw [if_neg (fun h => h hp), if_pos hl] at h
      injection h with _ h; rw [h]
    · exfalso
      have := asked_at (l := data.length) hok hp (by omega) hr hm hc hpr
      unfold Tbl.asked at this
      rw [this] at h; cases h
  · rename_i r e h
    have hl : ¬ 4096 < data.length := by have := (asked_ok hok h).2.1; omega
    have := asked_at (l := data.length) hok hp (by omega) hr hm hc hpr
    rw [this] at h; injection h with h _; injection h with h; subst h
    rw [if_neg hl]; simp only [hm]
end
section
variable {w w' w0 : World} {L L' F cs cs2 cs3 A D D' cd : List Chunk} {s s2 dv : Value} {K : VK} {R : ER} {tb n b c r : Nat} {T : Tbl} {pri th code val p id off : Int} {ch : Chn} {data : List Int}
theorem Write_spec (hA : TblAt tb T n A) (hn : n < 900000) (hok : T.Ok n) (hd : TR cB w0 cd dv data) (hdF : ∀ c ∈ cd, c ∈ F) (H : Hp w0 w L) (hS : Split L A F) :
    Calls Pg 14 ⟨[ptr tb 0, I p, I id, I off, dv]⟩ w fun x w' => ∃ A', x = .returned (.tuple ⟨[I (T.write p id off data).2.1, I (T.write p id off data).2.2]⟩) ∧ TblAt tb (T.write p id off data).1 n A' ∧ Hp w0 w' (A' ++ F) := by
  have H := H.split hS
  apply F14_calls
  unfold F14
  refine cal_h (asked_spec hA (by omega) hok (lenS_tr hd) H) ?_
  rintro _ w ⟨rfl, H⟩
  unfold Tbl.write
  rcases ha : T.asked p id data.length with ⟨_ | r, e⟩
  · have := asked_no ha
    repeat (first | simp only [W0, pO, Option.map_some, Option.map_none] | with_reducible (first | refine lss_a ?_ | refine lss_b ?_ | refine gtr_a ?_ | refine gtr_b ?_ | refine geq_a ?_ | refine geq_b ?_ | refine leq_a ?_ | refine leq_b ?_ | refine eql_a ?_ | refine eql_b ?_ | refine neq_a ?_ | refine neq_b ?_ | refine add_a ?_ | refine sub_a ?_ | refine ld_a ?_ | refine ldA_a ?_ | refine ldS_a ?_ | refine ldNS_a ?_ | refine rdA_s ?_ | refine rd1_s ?_ | refine drew_a fun w1 H1 => ?_ | refine st_a fun w1 H1 => ?_ | refine stA_a fun w1 H1 => ?_ | refine lenT_a ?_ | refine lenO_a ?_ | refine ixT_a ?_ | refine ixO_a ?_ | refine bld_a ?_ | refine min_a ?_ | refine max_a ?_  | refine ldT_a ?_ | refine ldC_a ?_ | refine ldX_a ?_ | refine ldM_a ?_ | refine rdT_a ?_ | refine rdC_a ?_ | refine rdX_a ?_ | refine rdM_a ?_ | refine getCh_a ?_ | refine getCh2_a ?_ | refine getCn_a ?_ | refine getCn2_a ?_ | refine getPl_a ?_ | refine getPl2_a ?_ | refine getTk_a ?_ | refine getAn2_a ?_ | refine lenE_a ?_ | refine lenR_a ?_ | refine cv8_a ?_ | refine cv64_a ?_ | fail))
    exact ⟨A, (by first | rfl | trivial), hA, H⟩
  obtain ⟨_, hd1, rfl, hr, m, ch, hm, _⟩ := asked_ok hok ha
  obtain ⟨hw1, hw2, hw3, hw4⟩ := hok.mw r m hm
  have hla : lenS m.ah.val = some (I (m.area.length : Int)) := by
    obtain ⟨_, _, _, t1, _⟩ := hA.msg hm; exact lenS_ts t1
  simp only [hm]
  repeat (first | simp only [W0, pO, Option.map_some, Option.map_none] | with_reducible (first | refine lss_a ?_ | refine lss_b ?_ | refine gtr_a ?_ | refine gtr_b ?_ | refine geq_a ?_ | refine geq_b ?_ | refine leq_a ?_ | refine leq_b ?_ | refine eql_a ?_ | refine eql_b ?_ | refine neq_a ?_ | refine neq_b ?_ | refine add_a ?_ | refine sub_a ?_ | refine ld_a ?_ | refine ldA_a ?_ | refine ldS_a ?_ | refine ldNS_a ?_ | refine rdA_s ?_ | refine rd1_s ?_ | refine drew_a fun w1 H1 => ?_ | refine st_a fun w1 H1 => ?_ | refine stA_a fun w1 H1 => ?_ | refine lenT_a ?_ | refine lenO_a ?_ | refine ixT_a ?_ | refine ixO_a ?_ | refine bld_a ?_ | refine min_a ?_ | refine max_a ?_  | refine ldT_a ?_ | refine ldC_a ?_ | refine ldX_a ?_ | refine ldM_a ?_ | refine rdT_a ?_ | refine rdC_a ?_ | refine rdX_a ?_ | refine rdM_a ?_ | refine getCh_a ?_ | refine getCh2_a ?_ | refine getCn_a ?_ | refine getCn2_a ?_ | refine getPl_a ?_ | refine getPl2_a ?_ | refine getTk_a ?_ | refine getAn2_a ?_ | refine lenE_a ?_ | refine lenR_a ?_ | refine cv8_a ?_ | refine cv64_a ?_ | fail))
  unfold F14_j1
  by_cases h1 : off < 0
  · rw [if_pos (.inl h1)]
    repeat (first | simp only [W0, pO, Option.map_some, Option.map_none] | with_reducible (first | refine lss_a ?_ | refine lss_b ?_ | refine gtr_a ?_ | refine gtr_b ?_ | refine geq_a ?_ | refine geq_b ?_ | refine leq_a ?_ | refine leq_b ?_ | refine eql_a ?_ | refine eql_b ?_ | refine neq_a ?_ | refine neq_b ?_ | refine add_a ?_ | refine sub_a ?_ | refine ld_a ?_ | refine ldA_a ?_ | refine ldS_a ?_ | refine ldNS_a ?_ | refine rdA_s ?_ | refine rd1_s ?_ | refine drew_a fun w1 H1 => ?_ | refine st_a fun w1 H1 => ?_ | refine stA_a fun w1 H1 => ?_ | refine lenT_a ?_ | refine lenO_a ?_ | refine ixT_a ?_ | refine ixO_a ?_ | refine bld_a ?_ | refine min_a ?_ | refine max_a ?_  | refine ldT_a ?_ | refine ldC_a ?_ | refine ldX_a ?_ | refine ldM_a ?_ | refine rdT_a ?_ | refine rdC_a ?_ | refine rdX_a ?_ | refine rdM_a ?_ | refine getCh_a ?_ | refine getCh2_a ?_ | refine getCn_a ?_ | refine getCn2_a ?_ | refine getPl_a ?_ | refine getPl2_a ?_ | refine getTk_a ?_ | refine getAn2_a ?_ | refine lenE_a ?_ | refine lenR_a ?_ | refine cv8_a ?_ | refine cv64_a ?_ | fail))
    exact ⟨A, (by first | rfl | trivial), hA, H⟩
  repeat (first | simp only [W0, pO, Option.map_some, Option.map_none] | with_reducible (first | refine lss_a ?_ | refine lss_b ?_ | refine gtr_a ?_ | refine gtr_b ?_ | refine geq_a ?_ | refine geq_b ?_ | refine leq_a ?_ | refine leq_b ?_ | refine eql_a ?_ | refine eql_b ?_ | refine neq_a ?_ | refine neq_b ?_ | refine add_a ?_ | refine sub_a ?_ | refine ld_a ?_ | refine ldA_a ?_ | refine ldS_a ?_ | refine ldNS_a ?_ | refine rdA_s ?_ | refine rd1_s ?_ | refine drew_a fun w1 H1 => ?_ | refine st_a fun w1 H1 => ?_ | refine stA_a fun w1 H1 => ?_ | refine lenT_a ?_ | refine lenO_a ?_ | refine ixT_a ?_ | refine ixO_a ?_ | refine bld_a ?_ | refine min_a ?_ | refine max_a ?_  | refine ldT_a ?_ | refine ldC_a ?_ | refine ldX_a ?_ | refine ldM_a ?_ | refine rdT_a ?_ | refine rdC_a ?_ | refine rdX_a ?_ | refine rdM_a ?_ | refine getCh_a ?_ | refine getCh2_a ?_ | refine getCn_a ?_ | refine getCn2_a ?_ | refine getPl_a ?_ | refine getPl2_a ?_ | refine getTk_a ?_ | refine getAn2_a ?_ | refine lenE_a ?_ | refine lenR_a ?_ | refine cv8_a ?_ | refine cv64_a ?_ | fail))
  refine pv_of hla ?_
  by_cases h2 : (m.area.length : Int) < off
  · rw [if_pos (.inr (.inl h2))]
    repeat (first | simp only [W0, pO, Option.map_some, Option.map_none] | with_reducible (first | refine lss_a ?_ | refine lss_b ?_ | refine gtr_a ?_ | refine gtr_b ?_ | refine geq_a ?_ | refine geq_b ?_ | refine leq_a ?_ | refine leq_b ?_ | refine eql_a ?_ | refine eql_b ?_ | refine neq_a ?_ | refine neq_b ?_ | refine add_a ?_ | refine sub_a ?_ | refine ld_a ?_ | refine ldA_a ?_ | refine ldS_a ?_ | refine ldNS_a ?_ | refine rdA_s ?_ | refine rd1_s ?_ | refine drew_a fun w1 H1 => ?_ | refine st_a fun w1 H1 => ?_ | refine stA_a fun w1 H1 => ?_ | refine lenT_a ?_ | refine lenO_a ?_ | refine ixT_a ?_ | refine ixO_a ?_ | refine bld_a ?_ | refine min_a ?_ | refine max_a ?_  | refine ldT_a ?_ | refine ldC_a ?_ | refine ldX_a ?_ | refine ldM_a ?_ | refine rdT_a ?_ | refine rdC_a ?_ | refine rdX_a ?_ | refine rdM_a ?_ | refine getCh_a ?_ | refine getCh2_a ?_ | refine getCn_a ?_ | refine getCn2_a ?_ | refine getPl_a ?_ | refine getPl2_a ?_ | refine getTk_a ?_ | refine getAn2_a ?_ | refine lenE_a ?_ | refine lenR_a ?_ | refine cv8_a ?_ | refine cv64_a ?_ | fail))
    exact ⟨A, (by first | rfl | trivial), hA, H⟩
  repeat (first | simp only [W0, pO, Option.map_some, Option.map_none] | with_reducible (first | refine lss_a ?_ | refine lss_b ?_ | refine gtr_a ?_ | refine gtr_b ?_ | refine geq_a ?_ | refine geq_b ?_ | refine leq_a ?_ | refine leq_b ?_ | refine eql_a ?_ | refine eql_b ?_ | refine neq_a ?_ | refine neq_b ?_ | refine add_a ?_ | refine sub_a ?_ | refine ld_a ?_ | refine ldA_a ?_ | refine ldS_a ?_ | refine ldNS_a ?_ | refine rdA_s ?_ | refine rd1_s ?_ | refine drew_a fun w1 H1 => ?_ | refine st_a fun w1 H1 => ?_ | refine stA_a fun w1 H1 => ?_ | refine lenT_a ?_ | refine lenO_a ?_ | refine ixT_a ?_ | refine ixO_a ?_ | refine bld_a ?_ | refine min_a ?_ | refine max_a ?_  | refine ldT_a ?_ | refine ldC_a ?_ | refine ldX_a ?_ | refine ldM_a ?_ | refine rdT_a ?_ | refine rdC_a ?_ | refine rdX_a ?_ | refine rdM_a ?_ | refine getCh_a ?_ | refine getCh2_a ?_ | refine getCn_a ?_ | refine getCn2_a ?_ | refine getPl_a ?_ | refine getPl2_a ?_ | refine getTk_a ?_ | refine getAn2_a ?_ | refine lenE_a ?_ | refine lenR_a ?_ | refine cv8_a ?_ | refine cv64_a ?_ | fail))
  refine pv_of hla ?_
  by_cases h3 : (m.area.length : Int) - off < data.length
  · rw [if_pos (.inr (.inr h3))]
    repeat (first | simp only [W0, pO, Option.map_some, Option.map_none] | with_reducible (first | refine lss_a ?_ | refine lss_b ?_ | refine gtr_a ?_ | refine gtr_b ?_ | refine geq_a ?_ | refine geq_b ?_ | refine leq_a ?_ | refine leq_b ?_ | refine eql_a ?_ | refine eql_b ?_ | refine neq_a ?_ | refine neq_b ?_ | refine add_a ?_ | refine sub_a ?_ | refine ld_a ?_ | refine ldA_a ?_ | refine ldS_a ?_ | refine ldNS_a ?_ | refine rdA_s ?_ | refine rd1_s ?_ | refine drew_a fun w1 H1 => ?_ | refine st_a fun w1 H1 => ?_ | refine stA_a fun w1 H1 => ?_ | refine lenT_a ?_ | refine lenO_a ?_ | refine ixT_a ?_ | refine ixO_a ?_ | refine bld_a ?_ | refine min_a ?_ | refine max_a ?_  | refine ldT_a ?_ | refine ldC_a ?_ | refine ldX_a ?_ | refine ldM_a ?_ | refine rdT_a ?_ | refine rdC_a ?_ | refine rdX_a ?_ | refine rdM_a ?_ | refine getCh_a ?_ | refine getCh2_a ?_ | refine getCn_a ?_ | refine getCn2_a ?_ | refine getPl_a ?_ | refine getPl2_a ?_ | refine getTk_a ?_ | refine getAn2_a ?_ | refine lenE_a ?_ | refine lenR_a ?_ | refine cv8_a ?_ | refine cv64_a ?_ | fail))
    exact ⟨A, (by first | rfl | trivial), hA, H⟩
  rw [if_neg (by omega)]
  repeat (first | simp only [W0, pO, Option.map_some, Option.map_none] | with_reducible (first | refine lss_a ?_ | refine lss_b ?_ | refine gtr_a ?_ | refine gtr_b ?_ | refine geq_a ?_ | refine geq_b ?_ | refine leq_a ?_ | refine leq_b ?_ | refine eql_a ?_ | refine eql_b ?_ | refine neq_a ?_ | refine neq_b ?_ | refine add_a ?_ | refine sub_a ?_ | refine ld_a ?_ | refine ldA_a ?_ | refine ldS_a ?_ | refine ldNS_a ?_ | refine rdA_s ?_ | refine rd1_s ?_ | refine drew_a fun w1 H1 => ?_ | refine st_a fun w1 H1 => ?_ | refine stA_a fun w1 H1 => ?_ | refine lenT_a ?_ | refine lenO_a ?_ | refine ixT_a ?_ | refine ixO_a ?_ | refine bld_a ?_ | refine min_a ?_ | refine max_a ?_  | refine ldT_a ?_ | refine ldC_a ?_ | refine ldX_a ?_ | refine ldM_a ?_ | refine rdT_a ?_ | refine rdC_a ?_ | refine rdX_a ?_ | refine rdM_a ?_ | refine getCh_a ?_ | refine getCh2_a ?_ | refine getCn_a ?_ | refine getCn2_a ?_ | refine getPl_a ?_ | refine getPl2_a ?_ | refine getTk_a ?_ | refine getAn2_a ?_ | refine lenE_a ?_ | refine lenR_a ?_ | refine cv8_a ?_ | refine cv64_a ?_ | fail))
  have eo : off = ((off.toNat : Nat) : Int) := by omega
  conv in I off => rw [eo]
  refine cal_h (mwrite_spec (off := off.toNat) hA hm (by omega) hw3 ⟨hw1, by omega⟩ hd H Split.here hdF) ?_
  rintro _ w ⟨A1, rfl, hA, H⟩
  repeat (first | simp only [W0, pO, Option.map_some, Option.map_none] | with_reducible (first | refine lss_a ?_ | refine lss_b ?_ | refine gtr_a ?_ | refine gtr_b ?_ | refine geq_a ?_ | refine geq_b ?_ | refine leq_a ?_ | refine leq_b ?_ | refine eql_a ?_ | refine eql_b ?_ | refine neq_a ?_ | refine neq_b ?_ | refine add_a ?_ | refine sub_a ?_ | refine ld_a ?_ | refine ldA_a ?_ | refine ldS_a ?_ | refine ldNS_a ?_ | refine rdA_s ?_ | refine rd1_s ?_ | refine drew_a fun w1 H1 => ?_ | refine st_a fun w1 H1 => ?_ | refine stA_a fun w1 H1 => ?_ | refine lenT_a ?_ | refine lenO_a ?_ | refine ixT_a ?_ | refine ixO_a ?_ | refine bld_a ?_ | refine min_a ?_ | refine max_a ?_  | refine ldT_a ?_ | refine ldC_a ?_ | refine ldX_a ?_ | refine ldM_a ?_ | refine rdT_a ?_ | refine rdC_a ?_ | refine rdX_a ?_ | refine rdM_a ?_ | refine getCh_a ?_ | refine getCh2_a ?_ | refine getCn_a ?_ | refine getCn2_a ?_ | refine getPl_a ?_ | refine getPl2_a ?_ | refine getTk_a ?_ | refine getAn2_a ?_ | refine lenE_a ?_ | refine lenR_a ?_ | refine cv8_a ?_ | refine cv64_a ?_ | fail))
  exact ⟨A1, (by first | rfl | trivial), hA, H⟩
end
end Go.Proofs.Ytmkcjopacmadhaa.Den
