/- Message queue: the laws Plays and Settled, walked. Conditions: none. -/
import Derived.Test.YthcekppbbanfeaaGreatMrI
set_option linter.unusedVariables false
set_option linter.unusedSimpArgs false
set_option maxRecDepth 8000
set_option maxHeartbeats 4000000
namespace Go.Proofs.YthcekppbbanfeaaGreat.Den
open Go Go.RowKit
def fewOK (l : List Ac) : Bool := decide (l.length ≤ 50) && l.all fun a => decide (a.data.length ≤ 5000)
section
variable {w w' w0 : World} {L L' F cs cs2 A X Y cm cr dm ds dr D D2 : List Chunk} {s s2 sm sr ss rm rs rr : Value} {K : VK} {R : ER} {b i j qb rb : Nat} {q : Q25} {r : RQ} {S : List Kp} {m m2 : Ms} {th dl now N : Int} {wait : Bool} {acts : List Ac}
theorem idfA_spec (h : TR cAc w0 [] s acts) (ho : ∀ a ∈ acts, TR cB w0 [] a.sh.val a.data) (hn : acts.length ≤ 2 ^ 20) (H : Hp w0 w L) : Calls Pg 47 ⟨[s, .func (.func 22) ⟨[]⟩ ⟨[]⟩]⟩ w fun e w' => ∃ i, e = .returned (I i) ∧ decide (0 ≤ i) = !(acts.all fun a => decide (a.data.length ≤ 5000)) ∧ Hp w0 w' L := by
  generalize hQ : (fun (e : Ending) (w' : World) => ∃ i, e = .returned (I i) ∧ decide (0 ≤ i) = !(acts.all fun a => decide (a.data.length ≤ 5000)) ∧ Hp w0 w' L : ER) = Q
  apply F47_calls
  unfold F47 F47_j2
  refine pv_of (lenS_tr h) ?_
  unfold F47_j3
  refine loop4 (F47_l1_succ _) (fun m x0 x1 x7 x8 w => ∃ i : Nat, s = x0 ∧ x1 = .func (.func 22) ⟨[]⟩ ⟨[]⟩ ∧ x7 = I (acts.length : Int) ∧ x8 = I (i : Int) ∧ m + i = acts.length ∧ (∀ a ∈ acts.take i, a.data.length ≤ 5000) ∧ Hp w0 w L) ?_ (m := acts.length) ⟨0, rfl, rfl, rfl, rfl, rfl, by simp, H⟩
  clear H
  rintro m k _ _ _ _ w ⟨i, rfl, rfl, rfl, rfl, hm, hall, H⟩ hk
  unfold F47_b1
  refine lss_k (fun hi => ?_) (fun hi => ?_)
  · (try simp only [W0])
    have hx : acts[i]? = some acts[i] := List.getElem?_eq_getElem (by omega)
    have hxo := ho acts[i] (List.getElem_mem _)
    have hxm : acts[i] ∈ acts := List.getElem_mem _
    have htk : acts.take (i + 1) = acts.take i ++ [acts[i]] := by rw [List.take_add_one, hx]; rfl
    generalize acts[i] = a at *
    unfold F47_j4
    refine ixN_t (C := cAc) h H (by simp) hx (by decide) ?_
    refine calD_k (a := []) (by kernel_rfl) ?_
    refine cal_h (Q := fun e w' => e = .returned (.bool (decide ((5000 : Int) < a.data.length))) ∧ Hp w0 w' L) ?_ ?_
    · apply F22_calls
      unfold F22
      refine bx_m (vs := a.enc) H fun w b1 H => ?_
      (try simp only [W0])
      refine ld_m H Has.here (o := 3) (v := a.sh.val) rfl ?_
      refine pv_of (lenS_tr hxo) ?_
      rw [bin_gtr, pv_some]
      exact ⟨(by first | rfl | trivial), H.tail⟩
    rintro _ w ⟨rfl, H⟩
    (try simp only [ret_k])
    by_cases hl : (5000 : Int) < a.data.length
    · rw [decide_eq_true hl]
      (try simp only [W0])
      subst hQ
      refine ⟨i, rfl, ?_, H⟩
      rw [decide_eq_true (by omega)]
      symm
      rw [Bool.not_eq_true']
      refine Bool.eq_false_iff.2 fun h => ?_
      have := List.all_eq_true.1 h a hxm
      simp at this; omega
    · rw [decide_eq_false hl]
      (try simp only [W0])
      refine add_k (z := ((i + 1 : Nat) : Int)) (by omega) (by omega) (by omega) ?_
      refine hk (m - 1) _ _ _ _ _ (by omega) ⟨i + 1, rfl, rfl, rfl, rfl, by omega, fun z hz => ?_, H⟩
      rw [htk] at hz
      rcases List.mem_append.1 hz with hz | hz
      · exact hall z hz
      · rw [List.mem_singleton.1 hz]; omega
  · (try simp only [W0])
    unfold F47_j1
    subst hQ
    rw [List.take_of_length_le (by omega)] at hall
    refine ⟨-1, rfl, ?_, H⟩
    rw [decide_eq_false (by omega)]
    symm
    rw [Bool.not_eq_false']
    exact List.all_eq_true.2 fun a ha => by simpa using hall a ha
theorem few_spec (h : TR cAc w0 [] s acts) (ho : ∀ a ∈ acts, TR cB w0 [] a.sh.val a.data) (H : Hp w0 w L) : Calls Pg 6 ⟨[s]⟩ w fun e w' => e = .returned (.bool (fewOK acts)) ∧ Hp w0 w' L := by
  apply F6_calls
  unfold F6
  refine pv_of (lenS_tr h) ?_
  refine leq_k (fun h1 => ?_) (fun h1 => ?_)
  · (try simp only [W0])
    refine cal_h (Q := fun e w' => e = .returned (.bool (!(acts.all fun a => decide (a.data.length ≤ 5000)))) ∧ Hp w0 w' L) ?_ ?_
    · apply F21_calls
      unfold F21
      refine cal_h (idfA_spec h ho (by omega) H) ?_
      rintro _ w ⟨i, rfl, hi, H⟩
      (try simp only [ret_k])
      rw [bin_geq, pv_some, hi]
      exact ⟨(by first | rfl | trivial), H⟩
    rintro _ w ⟨rfl, H⟩
    (try simp only [W0])
    rw [Bool.not_not]
    refine ⟨?_, H⟩
    unfold fewOK
    rw [decide_eq_true (by omega), Bool.true_and]
  · (try simp only [W0])
    refine ⟨?_, H⟩
    unfold fewOK
    rw [decide_eq_false (by omega), Bool.false_and]
theorem acts_at (hf : fewOK acts = true) : acts.length ≤ 50 ∧ ∀ a ∈ acts, a.data.length ≤ 5000 := by
  unfold fewOK at hf
  rw [Bool.and_eq_true, decide_eq_true_eq, List.all_eq_true] at hf
  exact ⟨hf.1, fun a ha => by simpa using hf.2 a ha⟩
theorem plays_end {mx sz : Int} {Q : ER} (hB : Both w0 w qb rb q r S N) (g : ∀ w, Ext [] w0 w → Q (.returned (.bool true)) w) : F4_j2 Q (ptr qb 0) (ptr rb 0) w := by
  obtain ⟨D, F, sm, sr, ss, cm, cr, cs, rm, rs, rr, dm, ds, dr, hP, hD, hq, hr, H⟩ := hB
  unfold F4_j2
  refine cal_h (now_spec H) ?_
  rintro _ w ⟨rfl, H⟩
  (try simp only [W0])
  have sw : ∀ {w : World} {G : List Chunk}, Hp w0 w (q.mem qb sm sr ss cm cr cs (r.mem rb rm rs rr dm ds dr G)) → Hp w0 w (r.mem rb rm rs rr dm ds dr (q.mem qb sm sr ss cm cr cs G)) := fun H => H.to fun q => by simp only [Q25.mem, RQ.mem, List.map_append, List.map_cons, List.sum_append, List.sum_cons]; omega
  refine cal_h (rnow_spec (sw H)) ?_
  rintro _ w ⟨rfl, H⟩
  (try simp only [W0])
  refine eql_y hP.enow.symm ?_
  (try simp only [W0])
  have H2 : Hp w0 w (q.mem qb sm sr ss cm cr cs (r.mem rb rm rs rr dm ds dr F)) := H.to fun q => by simp only [Q25.mem, RQ.mem, List.map_append, List.map_cons, List.sum_append, List.sum_cons]; omega
  refine cal_h (senders_spec hq H2) ?_
  rintro _ w ⟨s1, c1, rfl, h1, H⟩
  (try simp only [W0])
  have H2 : Hp w0 w (r.mem rb rm rs rr dm ds dr (c1 ++ (q.mem qb sm sr ss cm cr cs F))) := H.to fun q => by simp only [Q25.mem, RQ.mem, List.map_append, List.map_cons, List.sum_append, List.sum_cons]; omega
  refine cal_h (rsenders_spec hr H2) ?_
  rintro _ w ⟨s2, c2, rfl, h2, H⟩
  (try simp only [W0])
  rw [← hP.toPR0.ths] at h2
  refine cal_h (equalI_spec h1.tr h2.tr (by have := hq.ls; rw [List.length_map]; omega) (fun c hc => List.mem_append_right _ (mem_RF (List.mem_append_left _ hc))) (fun c hc => List.mem_append_left _ hc) H) ?_
  rintro _ w ⟨rfl, H⟩
  (try simp only [W0])
  have H2 : Hp w0 w (q.mem qb sm sr ss cm cr cs (r.mem rb rm rs rr dm ds dr F)) := H.to fun q => by simp only [Q25.mem, RQ.mem, List.map_append, List.map_cons, List.sum_append, List.sum_cons]; omega
  refine cal_h (receivers_spec hq H2) ?_
  rintro _ w ⟨s3, c3, rfl, h3, H⟩
  (try simp only [W0])
  have H2 : Hp w0 w (r.mem rb rm rs rr dm ds dr (c3 ++ (q.mem qb sm sr ss cm cr cs F))) := H.to fun q => by simp only [Q25.mem, RQ.mem, List.map_append, List.map_cons, List.sum_append, List.sum_cons]; omega
  refine cal_h (rreceivers_spec hr H2) ?_
  rintro _ w ⟨s4, c4, rfl, h4, H⟩
  (try simp only [W0])
  rw [← hP.toPR0.thr] at h4
  refine cal_h (equalI_spec h3.tr h4.tr (by have := hq.lr; rw [List.length_map]; omega) (fun c hc => List.mem_append_right _ (mem_RF (List.mem_append_left _ hc))) (fun c hc => List.mem_append_left _ hc) H) ?_
  rintro _ w ⟨rfl, H⟩
  (try simp only [W0])
  have H2 : Hp w0 w (q.mem qb sm sr ss cm cr cs (r.mem rb rm rs rr dm ds dr F)) := H.to fun q => by simp only [Q25.mem, RQ.mem, List.map_append, List.map_cons, List.sum_append, List.sum_cons]; omega
  refine cal_h (messages_spec (fun c hc => mem_RF (hD c hc)) hq H2) ?_
  rintro _ w ⟨s5, c5, D5, ys, zs, rfl, hp, hpw, h5, hsay, hok, H⟩
  (try simp only [W0])
  have H2 : Hp w0 w (r.mem rb rm rs rr dm ds dr (c5 ++ (D5 ++ (q.mem qb sm sr ss cm cr cs F)))) := H.to fun q => by simp only [Q25.mem, RQ.mem, List.map_append, List.map_cons, List.sum_append, List.sum_cons]; omega
  refine cal_h (rmessages_spec (fun c hc => List.mem_append_right _ (List.mem_append_right _ (mem_F (hD c hc)))) hr H2) ?_
  rintro _ w ⟨s6, c6, D6, ys2, rfl, h6, hsay2, hok2, H⟩
  (try simp only [W0])
  have hSz : S = zs := sorted_unique (hP.ord.perm.symm.trans hp.symm) hP.ord.srt hpw
  have hs : ys.map Ms.say = ys2.map Ms.say := by rw [hsay, hsay2, ← hSz, hP.ems]
  have hl : ys.length ≤ 2 ^ 20 := by
    have := map_len hsay
    rw [this, hp.length_eq]
    have := hq.lm; omega
  refine cal_h (msgs_spec (D := D5) (D2 := D6) h5 h6 hs hl hok hok2 (fun c hc => List.mem_append_right _ (List.mem_append_right _ (mem_RF (List.mem_append_left _ hc)))) (fun c hc => List.mem_append_left _ hc) (fun c hc => List.mem_append_right _ (List.mem_append_right _ (mem_RF (List.mem_append_right _ (List.mem_append_left _ hc))))) (fun c hc => List.mem_append_right _ (List.mem_append_left _ hc)) H) ?_
  rintro _ w ⟨rfl, H⟩
  (try simp only [W0])
  exact g w H.ext
theorem both_start {mx sz : Int} (hn : ¬ badNew mx sz) (hq : QAt w0 [] (q0 mx sz) sm sr ss cm cr cs) (hr : RAt w0 [] (r0 mx sz) rm rs rr dm ds dr) (H : Hp w0 w (q.mem qb sm sr ss cm cr cs (r.mem rb rm rs rr dm ds dr F))) (e1 : q = q0 mx sz) (e2 : r = r0 mx sz) : Both w0 w qb rb (q0 mx sz) (r0 mx sz) [] 0 := by
  subst e1 e2
  exact ⟨[], F, sm, sr, ss, cm, cr, cs, rm, rs, rr, dm, ds, dr, PR.start hn, by simp, hq, hr, H⟩
theorem plays_law {mx sz : Int} (h : TR cAc w0 [] s acts) (ho : ∀ a ∈ acts, TR cB w0 [] a.sh.val a.data ∧ 0 ≤ a.kind ∧ a.kind < 256) (H : Hp w0 w []) : Calls Pg 4 ⟨[I mx, I sz, s]⟩ w fun e w' => e = .returned (.bool true) ∧ Hp w0 w' [] := by
  have hfin : ∀ w, Ext [] w0 w → (Ending.returned (.bool true) = .returned (.bool true) ∧ Hp w0 w []) := fun w h => ⟨rfl, ⟨h, by simp, by simp⟩⟩
  generalize hQ : (fun (e : Ending) (w' : World) => e = .returned (.bool true) ∧ Hp w0 w' [] : ER) = Q at *
  have hfin : ∀ w, Ext [] w0 w → Q (.returned (.bool true)) w := fun w h => by subst hQ; exact hfin w h
  apply F4_calls
  unfold F4
  have bad : ∀ (w : World) (L : List Chunk), Hp w0 w L → F4_j6 Q s (.pointer none) (I 34) (.pointer none) (I 34) w := by
    intro w L H
    unfold F4_j6
    refine cal_h (few_spec h (fun a ha => (ho a ha).1) H) ?_
    rintro _ w ⟨rfl, H⟩
    have tail : ∀ (w : World) (L : List Chunk), Hp w0 w L → F4_j7 Q s (.pointer none) (I 34) (.pointer none) (I 34) (.bool true) w := by
      intro w L H
      unfold F4_j7
      (try simp only [W0])
      unfold F4_j8
      refine cal_h (awake_spec H) ?_
      rintro _ w ⟨rfl, H⟩
      (try simp only [W0])
      refine eql_y rfl ?_
      (try simp only [W0])
      refine eql_n (by decide) ?_
      (try simp only [W0])
      exact hfin w H.ext
    (try simp only [W0])
    cases hf : fewOK acts with
    | false =>
      (try simp only [W0])
      exact tail w L H
    | true =>
      (try simp only [W0])
      refine cal_h (awake_spec H) ?_
      rintro _ w ⟨rfl, H⟩
      (try simp only [W0])
      refine neq_n (by decide) ?_
      (try simp only [W0])
      refine neq_y (by decide) ?_
      exact tail w L H
  refine cal_h (new_spec (mx := mx) (sz := sz) H) ?_
  rintro _ w (⟨hb, rfl, H⟩ | ⟨qb, hb, rfl, hq, H⟩)
  · (try simp only [W0])
    refine cal_h (rnew_spec (mx := mx) (sz := sz) H) ?_
    rintro _ w (⟨_, rfl, H⟩ | ⟨rb, hb2, _⟩)
    · (try simp only [W0])
      exact bad w _ H
    · exact absurd hb hb2
  (try simp only [W0])
  refine cal_h (rnew_spec (mx := mx) (sz := sz) H) ?_
  rintro _ w (⟨hb2, _⟩ | ⟨rb, _, rfl, hr, H⟩)
  · exact absurd hb2 hb
  (try simp only [W0])
  unfold F4_j6
  refine cal_h (few_spec h (fun a ha => (ho a ha).1) H) ?_
  rintro _ w ⟨rfl, H⟩
  (try simp only [W0])
  cases hf : fewOK acts with
  | false =>
    (try simp only [W0])
    unfold F4_j7
    (try simp only [W0])
    unfold F4_j8
    refine cal_h (awake_spec H) ?_
    rintro _ w ⟨rfl, H⟩
    (try simp only [W0])
    refine eql_y rfl ?_
    (try simp only [W0])
    refine eql_y rfl ?_
    (try simp only [W0])
    exact hfin w H.ext
  | true =>
  obtain ⟨hlen, hdat⟩ := acts_at hf
  (try simp only [W0])
  refine cal_h (awake_spec H) ?_
  rintro _ w ⟨rfl, H⟩
  (try simp only [W0])
  refine neq_n (by decide) ?_
  (try simp only [W0])
  refine neq_n (by decide) ?_
  unfold F4_j7
  (try simp only [W0])
  unfold F4_j1 F4_j3
  refine pv_of (lenS_tr h) ?_
  unfold F4_j4
  have hB0 : Both w0 w qb rb (q0 mx sz) (r0 mx sz) [] 0 := both_start hb hq hr (F := []) (H.to fun q => by simp only [Q25.mem, RQ.mem, List.map_append, List.map_cons, List.sum_append, List.sum_cons]; omega) rfl rfl
  refine loop5 (F4_l1_succ _) (fun m x7 x9 x55 x56 x57 w => ∃ (i : Nat) (q : Q25) (r : RQ) (S : List Kp), x7 = ptr qb 0 ∧ x9 = ptr rb 0 ∧ x55 = s ∧ x56 = I (acts.length : Int) ∧ x57 = I (i : Int) ∧ m + i = acts.length ∧ Both w0 w qb rb q r S i) ?_ (m := acts.length) ⟨0, _, _, _, rfl, rfl, rfl, rfl, rfl, rfl, hB0⟩
  clear H hB0 hq hr
  rintro m k _ _ s _ _ w ⟨i, q, r, S, rfl, rfl, rfl, rfl, rfl, hm, hB⟩ hk
  unfold F4_b1
  refine lss_k (fun hi => ?_) (fun hi => ?_)
  · (try simp only [W0])
    have hx : acts[i]? = some acts[i] := List.getElem?_eq_getElem (by omega)
    have hxo := ho acts[i] (List.getElem_mem _)
    have hxd := hdat acts[i] (List.getElem_mem _)
    generalize acts[i] = a at *
    unfold F4_j5
    obtain ⟨D, F, sm, sr, ss, cm, cr, cs, rm, rs, rr, dm, ds, dr, hP, hD, hq, hr, H⟩ := hB
    refine ixN_t (C := cAc) h H (by simp) hx (by decide) ?_
    refine al_m (ys := [U8 0, I 0, I 0, .slice none 0 0, .bool false, I 0, I 0, I 0, I 0, I 0, I 0]) H (by kernel_rfl) fun w b4 H => ?_
    refine stA_m (vs := a.enc) H Upd.here rfl rfl (cAc.sc a) fun w H => ?_
    refine ldA_m (l := a.enc) H Has.here rfl ?_
    refine cal_h (do_spec (q := q) (r := r) (S := S) (N := (i : Int)) ⟨D, F, sm, sr, ss, cm, cr, cs, rm, rs, rr, dm, ds, dr, hP, hD, hq, hr, H.tail⟩ (by omega) hxo.2 hxo.1 hxd) ?_
    rintro _ w ⟨rfl, q2, r2, S2, _, hB2⟩
    (try simp only [W0])
    refine add_k (z := ((i + 1 : Nat) : Int)) (by omega) (by omega) (by omega) ?_
    exact hk (m - 1) _ _ _ _ _ _ (by omega) ⟨i + 1, q2, r2, S2, rfl, rfl, rfl, rfl, rfl, by omega, hB2⟩
  · (try simp only [W0])
    exact plays_end (mx := mx) (sz := sz) hB hfin
theorem settled_law {mx sz : Int} (h : TR cAc w0 [] s acts) (ho : ∀ a ∈ acts, TR cB w0 [] a.sh.val a.data ∧ 0 ≤ a.kind ∧ a.kind < 256) (H : Hp w0 w []) : Calls Pg 3 ⟨[I mx, I sz, s]⟩ w fun e w' => e = .returned (.bool true) ∧ Hp w0 w' [] := by
  have hfin : ∀ w, Ext [] w0 w → (Ending.returned (.bool true) = .returned (.bool true) ∧ Hp w0 w []) := fun w h => ⟨rfl, ⟨h, by simp, by simp⟩⟩
  generalize hQ : (fun (e : Ending) (w' : World) => e = .returned (.bool true) ∧ Hp w0 w' [] : ER) = Q at *
  have hfin : ∀ w, Ext [] w0 w → Q (.returned (.bool true)) w := fun w h => by subst hQ; exact hfin w h
  apply F3_calls
  unfold F3
  refine cal_h (new_spec (mx := mx) (sz := sz) H) ?_
  have quick : ∀ (w : World) (L : List Chunk), Hp w0 w L → (cal Pg Q 7 ⟨[]⟩ fun v68 => Q (.returned v68)) w := by
    intro w L H
    refine cal_h (awake_spec H) ?_
    rintro _ w ⟨rfl, H⟩
    exact hfin w H.ext
  rintro _ w (⟨hb, rfl, H⟩ | ⟨qb, hb, rfl, hq, H⟩)
  · (try simp only [W0])
    unfold F3_j12
    refine cal_h (few_spec h (fun a ha => (ho a ha).1) H) ?_
    rintro _ w ⟨rfl, H⟩
    (try simp only [W0])
    cases hf : fewOK acts with
    | false =>
      (try simp only [W0])
      exact quick w _ H
    | true =>
      (try simp only [W0])
      refine cal_h (awake_spec H) ?_
      rintro _ w ⟨rfl, H⟩
      (try simp only [W0])
      refine neq_y (by decide) ?_
      (try simp only [W0])
      exact quick w _ H
  (try simp only [W0])
  unfold F3_j12
  refine cal_h (few_spec h (fun a ha => (ho a ha).1) H) ?_
  rintro _ w ⟨rfl, H⟩
  (try simp only [W0])
  cases hf : fewOK acts with
  | false =>
    (try simp only [W0])
    exact quick w _ H
  | true =>
  obtain ⟨hlen, hdat⟩ := acts_at hf
  (try simp only [W0])
  refine cal_h (awake_spec H) ?_
  rintro _ w ⟨rfl, H⟩
  (try simp only [W0])
  refine neq_n (by decide) ?_
  (try simp only [W0])
  unfold F3_j1
  refine cal_h (rnew_spec (mx := mx) (sz := sz) H) ?_
  rintro _ w (⟨hb2, _⟩ | ⟨rb, _, rfl, hr, H⟩)
  · exact absurd hb2 hb
  (try simp only [W0])
  unfold F3_j3
  refine pv_of (lenS_tr h) ?_
  unfold F3_j4
  have hB0 : Both w0 w qb rb (q0 mx sz) (r0 mx sz) [] 0 := both_start hb hq hr (F := []) (H.to fun q => by simp only [Q25.mem, RQ.mem, List.map_append, List.map_cons, List.sum_append, List.sum_cons]; omega) rfl rfl
  refine loop7 (F3_l2_succ _) (fun m x0 x1 x7 x9 x40 x41 x42 w => ∃ (i : Nat) (q : Q25) (r : RQ) (S : List Kp), x0 = I mx ∧ x1 = I sz ∧ x7 = ptr qb 0 ∧ x9 = ptr rb 0 ∧ x40 = s ∧ x41 = I (acts.length : Int) ∧ x42 = I (i : Int) ∧ m + i = acts.length ∧ (q.max = mx ∧ q.size = sz) ∧ Both w0 w qb rb q r S i) ?_ (m := acts.length) ⟨0, _, _, _, rfl, rfl, rfl, rfl, rfl, rfl, rfl, rfl, ⟨rfl, rfl⟩, hB0⟩
  clear H hB0 hq hr
  rintro m k _ _ _ _ s _ _ w ⟨i, q, r, S, rfl, rfl, rfl, rfl, rfl, rfl, rfl, hm, hms, hB⟩ hk
  unfold F3_b1
  refine lss_k (fun hi => ?_) (fun hi => ?_)
  · (try simp only [W0])
    have hx : acts[i]? = some acts[i] := List.getElem?_eq_getElem (by omega)
    have hxo := ho acts[i] (List.getElem_mem _)
    have hxd := hdat acts[i] (List.getElem_mem _)
    generalize acts[i] = a at *
    unfold F3_j5 F3_j7
    obtain ⟨D, F, sm, sr, ss, cm, cr, cs, rm, rs, rr, dm, ds, dr, hP, hD, hq, hr, H⟩ := hB
    refine ixN_t (C := cAc) h H (by simp) hx (by decide) ?_
    refine al_m (ys := [U8 0, I 0, I 0, .slice none 0 0, .bool false, I 0, I 0, I 0, I 0, I 0, I 0]) H (by kernel_rfl) fun w b4 H => ?_
    refine stA_m (vs := a.enc) H Upd.here rfl rfl (cAc.sc a) fun w H => ?_
    refine ldA_m (l := a.enc) H Has.here rfl ?_
    refine cal_h (do_spec (q := q) (r := r) (S := S) (N := (i : Int)) ⟨D, F, sm, sr, ss, cm, cr, cs, rm, rs, rr, dm, ds, dr, hP, hD, hq, hr, H.tail⟩ (by omega) hxo.2 hxo.1 hxd) ?_
    clear H hq hr hP hD
    rintro _ w ⟨rfl, q2, r2, S2, hms2, D, F, sm, sr, ss, cm, cr, cs, rm, rs, rr, dm, ds, dr, hP, hD, hq, hr, H⟩
    rw [hms.1, hms.2] at hms2
    (try simp only [W0])
    refine cal_h (messages_spec (fun c hc => mem_RF (hD c hc)) hq H) ?_
    clear H
    rintro _ w ⟨s5, c5, D5, ys, zs, rfl, hp, hpw, h5, hsay, hok, H⟩
    (try simp only [W0])
    have hSz : S2 = zs := sorted_unique (hP.ord.perm.symm.trans hp.symm) hP.ord.srt hpw
    subst hSz
    have hyl : ys.length = S2.length := map_len hsay
    have hfit := hP.fit
    have hmx := hP.mx
    have hyle : ys.length ≤ 64 := by omega
    have next : ∀ w, Both w0 w qb rb q2 r2 S2 ((i : Int) + 1) → F3_j6 Q k (I mx) (I sz) (ptr qb 0) (ptr rb 0) s (I (acts.length : Int)) (I (i : Int)) w := by
      intro w hB
      unfold F3_j6
      refine add_k (z := ((i + 1 : Nat) : Int)) (by omega) (by omega) (by omega) ?_
      exact hk (m - 1) _ _ _ _ _ _ _ _ (by omega) ⟨i + 1, q2, r2, S2, rfl, rfl, rfl, rfl, rfl, rfl, rfl, by omega, hms2, hB⟩
    unfold F3_j11
    have H2 : Hp w0 w (q2.mem qb sm sr ss cm cr cs (c5 ++ (D5 ++ (r2.mem rb rm rs rr dm ds dr F)))) := H.to fun q => by simp only [Q25.mem, RQ.mem, List.map_append, List.map_cons, List.sum_append, List.sum_cons]; omega
    refine cal_h (receivers_spec hq H2) ?_
    rintro _ w ⟨s3, c3, rfl, h3, H⟩
    (try simp only [W0])
    refine pv_of (lenS_ts h3) ?_
    rw [List.length_map]
    -- the loop over the messages
    have inner : ∀ (w : World) (G : List Chunk), Hp w0 w (c5 ++ (D5 ++ (q2.mem qb sm sr ss cm cr cs (r2.mem rb rm rs rr dm ds dr (F ++ G))))) → F3_j8 Q k (I mx) (I sz) (ptr qb 0) (ptr rb 0) s5 s (I (acts.length : Int)) (I (i : Int)) w := by
      intro w G H
      unfold F3_j8
      refine pv_of (lenS_ts h5) ?_
      unfold F3_j9
      refine loop11 (F3_l1_succ _ _) (fun m2 x0 x1 x7 x9 x13 x40 x41 x42 x79 x80 x81 w => ∃ (j : Nat), x0 = I mx ∧ x1 = I sz ∧ x7 = ptr qb 0 ∧ x9 = ptr rb 0 ∧ x13 = s5 ∧ x40 = s ∧ x41 = I (acts.length : Int) ∧ x42 = I (i : Int) ∧ x79 = s5 ∧ x80 = I (ys.length : Int) ∧ x81 = I (j : Int) ∧ m2 + j = ys.length ∧
        Hp w0 w (c5 ++ (D5 ++ (q2.mem qb sm sr ss cm cr cs (r2.mem rb rm rs rr dm ds dr (F ++ G)))))) ?_ (m := ys.length) ⟨0, rfl, rfl, rfl, rfl, rfl, rfl, rfl, rfl, rfl, rfl, rfl, rfl, H⟩
      clear H
      rintro m2 k2 _ _ _ _ _ s _ _ s5 _ _ w ⟨j, rfl, rfl, rfl, rfl, rfl, rfl, rfl, rfl, rfl, rfl, rfl, hm2, H⟩ hk2
      unfold F3_b2
      refine lss_k (fun hj => ?_) (fun hj => ?_)
      · (try simp only [W0])
        have hy : ys[j]? = some ys[j] := List.getElem?_eq_getElem (by omega)
        have hyo := hok ys[j] (List.getElem_mem _)
        have hz : S2[j]? = some (S2[j]'(by omega)) := List.getElem?_eq_getElem (by omega)
        have hyz : ys[j].say = (S2[j]'(by omega)).m.say := map_at hsay hy hz
        have hdl := hP.dS _ (List.getElem_mem (l := S2) (n := j) (by omega))
        have hord : ∀ j', j = j' + 1 → ∃ y', ys[j']? = some y' ∧ ¬ y'.pri < ys[j].pri := by
          intro j' e
          subst e
          have hy' : ys[j']? = some (ys[j']'(by omega)) := List.getElem?_eq_getElem (by omega)
          have hz' : S2[j']? = some (S2[j']'(by omega)) := List.getElem?_eq_getElem (by omega)
          have e1 := map_at hsay hy' hz'
          have hlt := (List.pairwise_iff_getElem.1 hP.ord.srt) j' (j' + 1) (by omega) (by omega) (by omega)
          have p1 : (ys[j']'(by omega)).pri = (S2[j']'(by omega)).m.pri := congrArg Prod.fst e1
          have p2 : ys[j' + 1].pri = (S2[j' + 1]'(by omega)).m.pri := congrArg Prod.fst hyz
          refine ⟨_, hy', ?_⟩
          rw [p1, p2]
          unfold lessK at hlt
          rw [decide_eq_true_eq] at hlt
          omega
        have hbl : (ys[j].bs.length : Int) ≤ sz := by
          have : ys[j].bs = (S2[j]'(by omega)).m.bs := congrArg Prod.snd hyz
          rw [this, ← hms2.2]; exact hdl
        clear hyz hdl hz
        generalize ys[j] = y at *
        unfold F3_j10
        refine ixN_t (C := cMs) h5.tr H (fun c hc => List.mem_append_left _ hc) hy (by decide) ?_
        refine al_m (ys := [I 0, .slice none 0 0]) H (by kernel_rfl) fun w b7 H => ?_
        refine stA_m (vs := y.enc) H Upd.here rfl rfl (cMs.sc y) fun w H => ?_
        refine drew_k H fun w H => ?_
        (try simp only [W0])
        refine ld_m H Has.here (o := 1) (v := y.sh.val) rfl ?_
        refine pv_of (lenS_tr hyo.1) ?_
        refine gtr_n (by omega) ?_
        (try simp only [W0])
        have cont : ∀ w, Hp w0 w (⟨b7, .t 43, y.enc⟩ :: (c5 ++ (D5 ++ (q2.mem qb sm sr ss cm cr cs (r2.mem rb rm rs rr dm ds dr (F ++ G)))))) → (pv (bin .add (I (j : Int)) (I 1)) fun v23 => k2 (I mx) (I sz) (ptr qb 0) (ptr rb 0) s5 s (I (acts.length : Int)) (I (i : Int)) s5 (I (ys.length : Int)) v23) w := by
          intro w H
          refine add_k (z := ((j + 1 : Nat) : Int)) (by omega) (by omega) (by omega) ?_
          exact hk2 (m2 - 1) _ _ _ _ _ _ _ _ _ _ _ _ (by omega) ⟨j + 1, rfl, rfl, rfl, rfl, rfl, rfl, rfl, rfl, rfl, rfl, rfl, by omega, H.tail⟩
        refine gtr_k (fun hj0 => ?_) (fun hj0 => ?_)
        · (try simp only [W0])
          obtain ⟨j', rfl⟩ : ∃ j', j = j' + 1 := ⟨j - 1, by omega⟩
          obtain ⟨y', hy', hnl⟩ := hord j' rfl
          refine sub_k (z := (j' : Int)) (by omega) (by omega) (by omega) ?_
          (try simp only [W0])
          refine ixF_t (C := cMs) (f := 0) (v := I y'.pri) h5.tr H (fun c hc => List.mem_cons_of_mem _ (List.mem_append_left _ hc)) hy' rfl ?_
          (try simp only [W0])
          refine ld_m H Has.here (o := 0) (v := I y.pri) rfl ?_
          (try simp only [W0])
          refine lss_n hnl ?_
          (try simp only [W0])
          exact cont w H
        · (try simp only [W0])
          exact cont w H
      · (try simp only [W0])
        refine next w ⟨D, F ++ G, sm, sr, ss, cm, cr, cs, rm, rs, rr, dm, ds, dr, hP, fun c hc => List.mem_append_left _ (hD c hc), hq, hr, H.right.right⟩
    have c3q : Hp w0 w (c5 ++ (D5 ++ (q2.mem qb sm sr ss cm cr cs (r2.mem rb rm rs rr dm ds dr (F ++ c3))))) := H.to fun q => by simp only [Q25.mem, RQ.mem, List.map_append, List.map_cons, List.sum_append, List.sum_cons]; omega
    -- behind the first two tests
    have part2 : ∀ (w : World), Hp w0 w (c5 ++ (D5 ++ (q2.mem qb sm sr ss cm cr cs (r2.mem rb rm rs rr dm ds dr (F ++ c3))))) → ∀ (K : VK), (∀ w G, Hp w0 w (c5 ++ (D5 ++ (q2.mem qb sm sr ss cm cr cs (r2.mem rb rm rs rr dm ds dr (F ++ G))))) → K (.bool false) w) →
        (cal Pg Q 12 ⟨[ptr qb 0]⟩ fun v34 => pv (lenS v34) fun v35 => pv (bin .gtr v35 (I 0)) fun v36 => pv (some v36) fun v37 => gd v37 true (pv (some s5)) fun v38 => gd v37 true (pv (lenS v38)) fun v39 => gd v37 true (pv (some (I mx))) fun v40 => gd v37 true (pv (bin .lss v39 v40)) fun v41 => pv (pickO v37 v41 (.bool false)) K) w := by
      intro w H K g
      have H2 : Hp w0 w (q2.mem qb sm sr ss cm cr cs (c5 ++ (D5 ++ (r2.mem rb rm rs rr dm ds dr (F ++ c3))))) := H.to fun q => by simp only [Q25.mem, RQ.mem, List.map_append, List.map_cons, List.sum_append, List.sum_cons]; omega
      refine cal_h (senders_spec hq H2) ?_
      rintro _ w ⟨s4, c4, rfl, h4, H⟩
      (try simp only [W0])
      refine pv_of (lenS_ts h4) ?_
      rw [List.length_map]
      have H3 : Hp w0 w (c5 ++ (D5 ++ (q2.mem qb sm sr ss cm cr cs (r2.mem rb rm rs rr dm ds dr (F ++ c4))))) := H.to fun q => by simp only [Q25.mem, RQ.mem, List.map_append, List.map_cons, List.sum_append, List.sum_cons]; omega
      refine gtr_k (fun h0 => ?_) (fun h0 => ?_)
      · (try simp only [W0])
        refine pv_of (lenS_ts h5) ?_
        (try simp only [W0])
        have hf2 := hP.full (by intro e; rw [e] at h0; simp at h0)
        refine lss_n (by omega) ?_
        (try simp only [W0])
        exact g w c4 H3
      · (try simp only [W0])
        exact g w c4 H3
    refine gtr_k (fun h0 => ?_) (fun h0 => ?_)
    · (try simp only [W0])
      refine pv_of (lenS_ts h5) ?_
      (try simp only [W0])
      have hS0 : S2 = [] := by
        rcases hP.idle with h1 | h1
        · rw [h1] at h0; simp at h0
        · exact h1.1
      refine gtr_n (by rw [hyl, hS0]; simp) ?_
      (try simp only [W0])
      have p2 := part2 w c3q
      (try simp only [W0] at p2)
      refine p2 _ fun w G H => ?_
      (try simp only [W0])
      refine pv_of (lenS_ts h5) ?_
      (try simp only [W0])
      refine gtr_n (by omega) ?_
      (try simp only [W0])
      exact inner w G H
    · (try simp only [W0])
      have p2 := part2 w c3q
      (try simp only [W0] at p2)
      refine p2 _ fun w G H => ?_
      (try simp only [W0])
      refine pv_of (lenS_ts h5) ?_
      (try simp only [W0])
      refine gtr_n (by omega) ?_
      (try simp only [W0])
      exact inner w G H
  · (try simp only [W0])
    unfold F3_j2
    obtain ⟨D, F, sm, sr, ss, cm, cr, cs, rm, rs, rr, dm, ds, dr, hP, hD, hq, hr, H⟩ := hB
    exact hfin w H.ext
end
end Go.Proofs.YthcekppbbanfeaaGreat.Den
