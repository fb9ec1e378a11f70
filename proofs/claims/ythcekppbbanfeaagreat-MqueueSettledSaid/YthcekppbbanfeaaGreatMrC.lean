/- Message queue, the reference: Send, Receive. Conditions: none. -/
import Derived.Test.YthcekppbbanfeaaGreatMrB
set_option linter.unusedVariables false
set_option linter.unusedSimpArgs false
set_option maxRecDepth 8000
set_option maxHeartbeats 4000000
namespace Go.Proofs.YthcekppbbanfeaaGreat.Den
open Go Go.RowKit
theorem PosM.exists (ms : List Ms) (m : Ms) : ∃ k, PosM ms m k := by
  have key : ∀ j, j ≤ ms.length → (∀ y ∈ ms.drop j, y.pri < m.pri) → ∃ k, PosM ms m k := by
    intro j
    induction j with
    | zero => intro h1 h2; exact ⟨0, h1, .inl rfl, h2⟩
    | succ j ih =>
      intro h1 h2
      have hx : ms[j]? = some ms[j] := List.getElem?_eq_getElem (by omega)
      by_cases hl : ms[j].pri < m.pri
      · refine ih (by omega) fun y hy => ?_
        rw [List.drop_eq_getElem_cons (by omega)] at hy
        rcases List.mem_cons.1 hy with rfl | hy
        · exact hl
        · exact h2 y hy
      · exact ⟨j + 1, h1, .inr ⟨_, hx, hl⟩, h2⟩
  exact key ms.length (Nat.le_refl _) (by simp)
structure RRs where
  blk : Bool
  es : List En
  ns : List Nc
  err : Int
  r : RQ
structure RRm where
  m : Ms
  r : RRs
def RQ.send (r : RQ) (th : Int) (m : Ms) (wait : Bool) (dl : Int) (k : Nat) : RRs :=
  if validT th dl = false ∨ m.pri < 0 ∨ 31 < m.pri then ⟨false, [], [], 34, r⟩
  else if r.size < (m.bs.length : Int) then ⟨false, [], [], 20, r⟩
  else if r.blocked th = true then ⟨false, [], [], 5, r⟩
  else if (r.ms.length : Int) < r.max then ⟨false, (r.put m k).1.1, (r.put m k).1.2, 0, (r.put m k).2⟩
  else if waitsE r.now wait dl (r.sn.length : Int) ≠ 0 then ⟨false, [], [], waitsE r.now wait dl (r.sn.length : Int), r⟩
  else ⟨true, [], [], 0, { r with sn := r.sn ++ [⟨th, m, dl⟩] }⟩
def RQ.pops (r : RQ) : RQ := { r with ms := r.ms.tail, sn := r.sn.tail }
def RQ.recv (r : RQ) (th : Int) (wait : Bool) (dl : Int) (k : Nat) : RRm :=
  if validT th dl = false then ⟨ms0, ⟨false, [], [], 34, r⟩⟩
  else if r.blocked th = true then ⟨ms0, ⟨false, [], [], 5, r⟩⟩
  else match r.ms with
    | [] => if waitsE r.now wait dl (r.rc.length : Int) ≠ 0 then ⟨ms0, ⟨false, [], [], waitsE r.now wait dl (r.rc.length : Int), r⟩⟩ else ⟨ms0, ⟨true, [], [], 0, { r with rc := r.rc ++ [⟨th, ms0, dl⟩] }⟩⟩
    | x :: _ => match r.sn with
      | [] => ⟨x, ⟨false, [], [], 0, { r with ms := r.ms.tail }⟩⟩
      | y :: _ => ⟨x, ⟨false, [⟨y.th, ms0, 0⟩], (r.pops.put y.m k).1.2, 0, (r.pops.put y.m k).2⟩⟩
theorem waitsE_lim {now dl n : Int} {wait : Bool} (h : waitsE now wait dl n = 0) : n < 64 := by
  unfold waitsE at h
  split at h
  · cases h
  split at h
  · cases h
  split at h
  · cases h
  · omega
section
variable {w w' w0 : World} {L L' F cs cs2 A X Y cm cr D : List Chunk} {s s2 sm sr ss : Value} {K : VK} {R : ER} {b i j rb : Nat} {r : RQ} {m : Ms} {th dl now : Int} {wait : Bool} {xs : List Wt}
theorem valid_no (h : th < 0 ∨ 256 ≤ th ∨ dl < 0 ∨ 1099511627776 < dl) : validT th dl = false := by
  unfold validT
  rcases h with h | h | h | h <;> simp <;> omega
theorem valid_yes (h1 : ¬ th < 0) (h2 : ¬ 256 ≤ th) (h3 : ¬ dl < 0) (h4 : ¬ 1099511627776 < dl) : validT th dl = true := by
  unfold validT; simp; omega
theorem rsend_spec (hm : MsOK w0 D m) (hD : ∀ c ∈ D, c ∈ F) (h : RAt w0 D r sm ss sr cm cs cr) (hmx : r.max ≤ 64) (H : Hp w0 w (r.mem rb sm ss sr cm cs cr F)) :
    Calls Pg 26 ⟨[ptr rb 0, I th, .agg ⟨m.enc⟩, .bool wait, I dl]⟩ w fun e w' => ∃ (sh : Sh) (k : Nat) (se sn : Value), (r.rc = [] → PosM r.ms { m with sh := sh } k) ∧
      e = .returned (.tuple ⟨[.bool (r.send th { m with sh := sh } wait dl k).blk, se, sn, I (r.send th { m with sh := sh } wait dl k).err]⟩) ∧
      RAfter w0 w' D F rb (r.send th { m with sh := sh } wait dl k).r (r.send th { m with sh := sh } wait dl k).es (r.send th { m with sh := sh } wait dl k).ns se sn := by
  generalize hQ : (fun (e : Ending) (w' : World) => ∃ (sh : Sh) (k : Nat) (se sn : Value), (r.rc = [] → PosM r.ms { m with sh := sh } k) ∧
      e = .returned (.tuple ⟨[.bool (r.send th { m with sh := sh } wait dl k).blk, se, sn, I (r.send th { m with sh := sh } wait dl k).err]⟩) ∧
      RAfter w0 w' D F rb (r.send th { m with sh := sh } wait dl k).r (r.send th { m with sh := sh } wait dl k).es (r.send th { m with sh := sh } wait dl k).ns se sn : ER) = Q
  have hsm : scalar sm = true := h.m.sc
  have hss : scalar ss = true := h.s.sc
  have hsr : scalar sr = true := h.q.sc
  apply F26_calls
  unfold F26
  refine bx_m (vs := m.enc) H fun w b1 H => ?_
  replace H : Hp w0 w (r.mem rb sm ss sr cm cs cr (⟨b1, .t 49, m.enc⟩ :: F)) := H.to fun q => by simp only [RQ.mem, List.map_append, List.map_cons, List.sum_append, List.sum_cons]; omega
  have hb1 : ∀ {l : List Value}, Has (⟨rb, .t 75, l⟩ :: (cm ++ (cs ++ (cr ++ (⟨b1, .t 49, m.enc⟩ :: F))))) b1 (.t 49) m.enc := fun {l} => Has.cons (Has.app (Has.app (Has.app Has.here)))
  have hD2 : ∀ c ∈ D, c ∈ (⟨b1, .t 49, m.enc⟩ : Chunk) :: F := fun c hc => List.mem_cons_of_mem _ (hD c hc)
  have quiet : ∀ (w : World) (err : Int), (∀ sh k, r.send th { m with sh := sh } wait dl k = ⟨false, [], [], err, r⟩) → Hp w0 w (r.mem rb sm ss sr cm cs cr (⟨b1, .t 49, m.enc⟩ :: F)) → Q (.returned (.tuple ⟨[.bool false, .slice none 0 0, .slice none 0 0, I err]⟩)) w := by
    intro w err he H
    subst hQ
    obtain ⟨k, hk⟩ := PosM.exists r.ms m
    refine ⟨m.sh, k, .slice none 0 0, .slice none 0 0, fun _ => hk, ?_⟩
    rw [he]
    exact ⟨rfl, RAfter.drop (RAfter.same h H)⟩
  unfold F26_j10
  refine lss_k (fun c1 => ?_) (fun c1 => ?_)
  · (try simp only [W0])
    exact quiet w 34 (fun sh k => by unfold RQ.send; rw [if_pos (.inl (valid_no (.inl c1)))]) H
  (try simp only [W0])
  refine geq_k (fun c2 => ?_) (fun c2 => ?_)
  · (try simp only [W0])
    exact quiet w 34 (fun sh k => by unfold RQ.send; rw [if_pos (.inl (valid_no (.inr (.inl c2))))]) H
  (try simp only [W0])
  unfold RQ.mem at H
  refine ld_m H hb1 (o := 0) (v := I m.pri) rfl ?_
  refine lss_k (fun c3 => ?_) (fun c3 => ?_)
  · (try simp only [W0])
    exact quiet w 34 (fun sh k => by unfold RQ.send; rw [if_pos (.inr (.inl c3))]) H
  (try simp only [W0])
  refine ld_m H hb1 (o := 0) (v := I m.pri) rfl ?_
  refine gtr_k (fun c4 => ?_) (fun c4 => ?_)
  · (try simp only [W0])
    exact quiet w 34 (fun sh k => by unfold RQ.send; rw [if_pos (.inr (.inr c4))]) H
  (try simp only [W0])
  refine lss_k (fun c5 => ?_) (fun c5 => ?_)
  · (try simp only [W0])
    exact quiet w 34 (fun sh k => by unfold RQ.send; rw [if_pos (.inl (valid_no (.inr (.inr (.inl c5)))))]) H
  (try simp only [W0])
  refine gtr_k (fun c6 => ?_) (fun c6 => ?_)
  · (try simp only [W0])
    exact quiet w 34 (fun sh k => by unfold RQ.send; rw [if_pos (.inl (valid_no (.inr (.inr (.inr c6)))))]) H
  (try simp only [W0])
  have e1 : ¬ (validT th dl = false ∨ m.pri < 0 ∨ 31 < m.pri) := by rw [valid_yes c1 c2 c5 c6]; simp; omega
  unfold F26_j1
  refine drew_k H fun w H => ?_
  (try simp only [W0])
  refine ld_m H hb1 (o := 1) (v := m.sh.val) rfl ?_
  refine pv_of (lenS_tr hm.1) ?_
  (try simp only [W0])
  refine ld_m H Has.here (o := 1) (v := I r.size) rfl ?_
  refine gtr_k (fun h3 => ?_) (fun h3 => ?_)
  · (try simp only [W0])
    exact quiet w 20 (fun sh k => by unfold RQ.send; rw [if_neg e1, if_pos h3]) H
  (try simp only [W0])
  unfold F26_j2
  refine cal_h (rblocked_spec h H) ?_
  rintro _ w ⟨rfl, H⟩
  (try simp only [W0])
  cases hb : r.blocked th with
  | true =>
    (try simp only [W0])
    exact quiet w 5 (fun sh k => by unfold RQ.send; rw [if_neg e1, if_neg h3, if_pos hb]) H
  | false =>
  (try simp only [W0])
  have hb' : ¬ r.blocked th = true := by rw [hb]; decide
  unfold F26_j3 F26_j7
  refine drew_k H fun w H => ?_
  unfold RQ.mem at H
  (try simp only [W0])
  refine ld_m H Has.here (o := 2) (v := sm) rfl ?_
  refine pv_of (lenS_ts h.m) ?_
  (try simp only [W0])
  refine ld_m H Has.here (o := 0) (v := I r.max) rfl ?_
  unfold F26_j8
  refine lss_k (fun h4 => ?_) (fun h4 => ?_)
  · (try simp only [W0])
    unfold F26_j9
    refine ldA_m (l := m.enc) H hb1 rfl ?_
    refine cal_h (rcopied_spec hm (fun c hc => List.mem_cons_of_mem _ (List.mem_append_right _ (List.mem_append_right _ (List.mem_append_right _ (hD2 c hc))))) H) ?_
    rintro _ w ⟨sh, D', rfl, hok, H⟩
    (try simp only [W0])
    replace H : Hp w0 w (r.mem rb sm ss sr cm cs cr (D' ++ (⟨b1, .t 49, m.enc⟩ :: F))) := H.to fun q => by simp only [RQ.mem, List.map_append, List.map_cons, List.sum_append, List.sum_cons]; omega
    refine cal_h (rput_spec (m := { m with sh := sh }) (D := D' ++ D) (F := D' ++ (⟨b1, .t 49, m.enc⟩ :: F)) (hok.mono fun c hc => List.mem_append_left _ hc) (fun c hc => ?_) h.grow (.inr (by omega)) H) ?_
    · rcases List.mem_append.1 hc with hc | hc
      · exact List.mem_append_left _ hc
      · exact List.mem_append_right _ (hD2 c hc)
    rintro _ w ⟨k, se, sn, hpos, rfl, D2, sm2, ss2, sr2, cm2, cs2, cr2, ce, cn, k1, k2, k3, k4, H⟩
    (try simp only [W0])
    have e : r.send th { m with sh := sh } wait dl k = ⟨false, (r.put { m with sh := sh } k).1.1, (r.put { m with sh := sh } k).1.2, 0, (r.put { m with sh := sh } k).2⟩ := by
      unfold RQ.send; rw [if_neg e1, if_neg h3, if_neg hb', if_pos h4]
    subst hQ
    refine ⟨sh, k, se, sn, hpos, ?_⟩
    rw [e]
    refine ⟨rfl, D2 ++ D', sm2, ss2, sr2, cm2, cs2, cr2, ce, cn, k1, k2, by rw [List.append_assoc]; exact k3, fun z hz => by rw [List.append_assoc]; exact k4 z hz, H.to fun q => ?_⟩
    simp only [RQ.mem, List.map_append, List.map_cons, List.sum_append, List.sum_cons]; omega
  · (try simp only [W0])
    unfold F26_j4 F26_j6
    (try simp only [W0])
    refine ld_m H Has.here (o := 3) (v := ss) rfl ?_
    obtain ⟨shs, hshs⟩ := h.s.sh
    have hln : shs.n = r.sn.length := by
      have := lenS_to h.s
      rw [hshs] at this
      unfold Sh.val at this
      rw [lenS_mk] at this
      injection this with this; injection this with _ this; omega
    have hw := rwaits_spec (wait := wait) (dl := dl) (n := shs.n) (a := shs.a) (c := shs.c) (now := r.now) (l := r.cells sm ss sr) Has.here rfl H
    rw [show Value.slice shs.a shs.n shs.c = ss from hshs.symm, hln] at hw
    refine cal_h hw ?_
    rintro _ w ⟨rfl, H⟩
    (try simp only [W0])
    refine neq_k (fun h5 => ?_) (fun h5 => ?_)
    · (try simp only [W0])
      exact quiet w _ (fun sh k => by unfold RQ.send; rw [if_neg e1, if_neg h3, if_neg hb', if_neg h4, if_pos h5]) H
    · (try simp only [W0])
      have hlim := waitsE_lim h5
      unfold F26_j5
      refine drew_k H fun w H => ?_
      (try simp only [W0])
      refine ld_m H Has.here (o := 3) (v := ss) rfl ?_
      refine ldA_m (l := m.enc) H hb1 rfl ?_
      (try simp only [W0])
      refine cal_h (rcopied_spec hm (fun c hc => List.mem_cons_of_mem _ (List.mem_append_right _ (List.mem_append_right _ (List.mem_append_right _ (hD2 c hc))))) H) ?_
      rintro _ w ⟨sh, D', rfl, hok, H⟩
      (try simp only [W0])
      refine rd1_m H (Has.app Has.here) (o := 3) rfl ?_
      refine bld_a ?_
      refine lit1_t (C := cWt) (x := ⟨th, { m with sh := sh }, dl⟩) elWt H rfl (by decide) fun w sx cx H hx => ?_
      refine rd1_m H (Has.app (Has.app Has.here)) (o := 3) rfl ?_
      (try simp only [W0])
      refine append_to (C := cWt) (F := cx ++ (D' ++ (⟨rb, .t 75, r.cells sm ss sr⟩ :: (cm ++ (cr ++ (⟨b1, .t 49, m.enc⟩ :: F)))))) elWt H h.s (Split.app (Split.app (Split.cons (Split.app Split.here)))) hx.tr (fun c hc => List.mem_append_left _ hc) (by have := h.ls; simp; omega) (by have := h.ls; simp; omega) fun w ss' cs' H hs' => ?_
      have hss' : scalar ss' = true := hs'.sc
      (try simp only [W0])
      refine st_m (o := 3) H (Upd.app (Upd.app (Upd.app Upd.here))) (by simp [RQ.cells]) hss' fun w H => ?_
      obtain ⟨k, hk⟩ := PosM.exists r.ms { m with sh := sh }
      have e : r.send th { m with sh := sh } wait dl k = ⟨true, [], [], 0, { r with sn := r.sn ++ [⟨th, { m with sh := sh }, dl⟩] }⟩ := by
        unfold RQ.send; rw [if_neg e1, if_neg h3, if_neg hb', if_neg h4, if_neg (by simpa using h5)]
      subst hQ
      refine ⟨sh, k, .slice none 0 0, .slice none 0 0, fun _ => hk, ?_⟩
      rw [e]
      refine ⟨rfl, D', sm, ss', sr, cm, cs', cr, [], [], TS.nil, TS.nil, ⟨h.m, hs', h.q, h.grow.dm, fun z hz => ?_, h.lm, h.lr, by simp; omega⟩, by simp, H.to fun q => ?_⟩
      · rcases List.mem_append.1 hz with hz | hz
        · exact h.grow.ds z hz
        · rw [List.mem_singleton.1 hz]; exact hok.mono fun c hc => List.mem_append_left _ hc
      · simp only [RQ.mem, RQ.cells, List.set_cons_zero, List.set_cons_succ, List.nil_append, List.map_append, List.map_cons, List.sum_append, List.sum_cons]; omega
theorem rrecv_spec (hD : ∀ c ∈ D, c ∈ F) (h : RAt w0 D r sm ss sr cm cs cr) (hmx : r.max ≤ 64) (H : Hp w0 w (r.mem rb sm ss sr cm cs cr F)) :
    Calls Pg 29 ⟨[ptr rb 0, I th, .bool wait, I dl]⟩ w fun e w' => ∃ (k : Nat) (se sn : Value), (∀ y ys, r.sn = y :: ys → r.rc = [] → PosM r.ms.tail y.m k) ∧ MsOK w0 D (r.recv th wait dl k).m ∧
      e = .returned (.tuple ⟨[.agg ⟨(r.recv th wait dl k).m.enc⟩, .bool (r.recv th wait dl k).r.blk, se, sn, I (r.recv th wait dl k).r.err]⟩) ∧
      RAfter w0 w' D F rb (r.recv th wait dl k).r.r (r.recv th wait dl k).r.es (r.recv th wait dl k).r.ns se sn := by
  generalize hQ : (fun (e : Ending) (w' : World) => ∃ (k : Nat) (se sn : Value), (∀ y ys, r.sn = y :: ys → r.rc = [] → PosM r.ms.tail y.m k) ∧ MsOK w0 D (r.recv th wait dl k).m ∧
      e = .returned (.tuple ⟨[.agg ⟨(r.recv th wait dl k).m.enc⟩, .bool (r.recv th wait dl k).r.blk, se, sn, I (r.recv th wait dl k).r.err]⟩) ∧
      RAfter w0 w' D F rb (r.recv th wait dl k).r.r (r.recv th wait dl k).r.es (r.recv th wait dl k).r.ns se sn : ER) = Q
  have hsm : scalar sm = true := h.m.sc
  have hss : scalar ss = true := h.s.sc
  have hsr : scalar sr = true := h.q.sc
  have hms0 : MsOK w0 D ms0 := ⟨TR.nil, by simp [ms0]⟩
  have hex : ∃ k, ∀ y ys, r.sn = y :: ys → r.rc = [] → PosM r.ms.tail y.m k := by
    cases hsn : r.sn with
    | nil => exact ⟨0, fun y ys e => by cases e⟩
    | cons y ys =>
      obtain ⟨k, hk⟩ := PosM.exists r.ms.tail y.m
      exact ⟨k, fun y' ys' e _ => by injection e with e _; subst e; exact hk⟩
  obtain ⟨k0, hk0⟩ := hex
  apply F29_calls
  unfold F29
  refine al_m (ys := [I 0, .slice none 0 0]) H (by kernel_rfl) fun w b8 H => ?_
  replace H : Hp w0 w (r.mem rb sm ss sr cm cs cr (⟨b8, .t 49, [I 0, .slice none 0 0]⟩ :: F)) := H.to fun q => by simp only [RQ.mem, List.map_append, List.map_cons, List.sum_append, List.sum_cons]; omega
  have hD2 : ∀ c ∈ D, c ∈ (⟨b8, .t 49, [I 0, .slice none 0 0]⟩ : Chunk) :: F := fun c hc => List.mem_cons_of_mem _ (hD c hc)
  have quiet : ∀ (w : World) (err : Int), (∀ k, r.recv th wait dl k = ⟨ms0, ⟨false, [], [], err, r⟩⟩) → Hp w0 w (r.mem rb sm ss sr cm cs cr (⟨b8, .t 49, [I 0, .slice none 0 0]⟩ :: F)) → (pv (bldO [.int .i64 0, .slice none 0 0] []) fun v => stN 2 (ptr b8 0) v fun _ => ldN 2 (ptr b8 0) fun v2 => Q (.returned (.tuple ⟨[v2, (.bool false), (.slice none 0 0), (.slice none 0 0), I err]⟩))) w := by
    intro w err he H
    unfold RQ.mem at H
    refine bld_a ?_
    refine stA_m (vs := [.int .i64 0, .slice none 0 0]) H (Upd.cons (Upd.app (Upd.app (Upd.app Upd.here)))) rfl rfl (by intro c hc; simp at hc; rcases hc with rfl | rfl <;> rfl) fun w H => ?_
    refine ldA_m H (Has.cons (Has.app (Has.app (Has.app Has.here)))) rfl ?_
    subst hQ
    refine ⟨k0, .slice none 0 0, .slice none 0 0, hk0, ?_⟩
    rw [he]
    exact ⟨hms0, rfl, RAfter.drop (RAfter.same h H)⟩
  unfold F29_j10
  refine lss_k (fun c1 => ?_) (fun c1 => ?_)
  · (try simp only [W0])
    exact quiet w 34 (fun k => by unfold RQ.recv; rw [if_pos (valid_no (.inl c1))]) H
  (try simp only [W0])
  refine geq_k (fun c2 => ?_) (fun c2 => ?_)
  · (try simp only [W0])
    exact quiet w 34 (fun k => by unfold RQ.recv; rw [if_pos (valid_no (.inr (.inl c2)))]) H
  (try simp only [W0])
  refine lss_k (fun c5 => ?_) (fun c5 => ?_)
  · (try simp only [W0])
    exact quiet w 34 (fun k => by unfold RQ.recv; rw [if_pos (valid_no (.inr (.inr (.inl c5))))]) H
  (try simp only [W0])
  refine gtr_k (fun c6 => ?_) (fun c6 => ?_)
  · (try simp only [W0])
    exact quiet w 34 (fun k => by unfold RQ.recv; rw [if_pos (valid_no (.inr (.inr (.inr c6))))]) H
  (try simp only [W0])
  have e1 : ¬ validT th dl = false := by rw [valid_yes c1 c2 c5 c6]; decide
  unfold F29_j1
  refine cal_h (rblocked_spec h H) ?_
  rintro _ w ⟨rfl, H⟩
  (try simp only [W0])
  cases hb : r.blocked th with
  | true =>
    (try simp only [W0])
    exact quiet w 5 (fun k => by unfold RQ.recv; rw [if_neg e1, if_pos hb]) H
  | false =>
  (try simp only [W0])
  have hb' : ¬ r.blocked th = true := by rw [hb]; decide
  unfold F29_j2 F29_j6
  (try simp only [W0])
  unfold RQ.mem at H
  refine ld_m H Has.here (o := 2) (v := sm) rfl ?_
  refine pv_of (lenS_ts h.m) ?_
  unfold F29_j7
  refine gtr_k (fun h1 => ?_) (fun h1 => ?_)
  · (try simp only [W0])
    obtain ⟨x, xs', hx⟩ : ∃ y ys, r.ms = y :: ys := by
      cases hc : r.ms with
      | nil => rw [hc] at h1; simp at h1
      | cons y ys => exact ⟨y, ys, rfl⟩
    have hM := h.m
    have hlm := h.lm
    rw [hx] at hM hlm
    have hok := h.dm x (by rw [hx]; simp)
    have htl : r.ms.tail = xs' := by rw [hx]; rfl
    simp only [List.length_cons] at hlm
    unfold F29_j8
    (try simp only [W0])
    refine ld_m H Has.here (o := 2) (v := sm) rfl ?_
    refine ixN_t (C := cMs) (i := 0) hM.tr H (fun c hc => List.mem_cons_of_mem _ (List.mem_append_left _ hc)) rfl (by decide) ?_
    refine al_m (ys := [I 0, .slice none 0 0]) H (by kernel_rfl) fun w b9 H => ?_
    refine stA_m (vs := x.enc) H Upd.here rfl rfl (cMs.sc x) fun w H => ?_
    refine lit0_t (C := cMs) elRMs H fun w s0 H hs0 => ?_
    (try simp only [W0])
    refine ld_m H (Has.cons Has.here) (o := 2) (v := sm) rfl ?_
    obtain ⟨s2, e2, t2⟩ := slRfrom_t (C := cMs) (w0 := w0) (lo := 1) (by decide) hM.tr (by simp)
    refine pv_of e2 ?_
    refine append_t (C := cMs) (F := ⟨b9, .t 49, x.enc⟩ :: ⟨rb, .t 75, r.cells sm ss sr⟩ :: (cm ++ (cs ++ (cr ++ (⟨b8, .t 49, [I 0, .slice none 0 0]⟩ :: F))))) elRMs H hs0 Split.nil t2 (fun c hc => List.mem_cons_of_mem _ (List.mem_cons_of_mem _ (List.mem_append_left _ hc))) (by simp; omega) (by simp; omega) fun w s3 c3 H h3 => ?_
    rw [List.nil_append] at h3
    have h3 : TS cMs 49 s3 xs' c3 := h3
    have hs3 : scalar s3 = true := h3.sc
    (try simp only [W0])
    refine st_m (o := 2) H (Upd.app (Upd.cons Upd.here)) (by simp [RQ.cells]) hs3 fun w H => ?_
    (try simp only [W0])
    refine ld_m H (Has.app (Has.cons Has.here)) (o := 3) (v := ss) rfl ?_
    refine pv_of (lenS_to h.s) ?_
    have hdm : ∀ z ∈ xs', MsOK w0 D z := fun z hz => h.dm z (by rw [hx]; simp [hz])
    refine eql_k (fun h2 => ?_) (fun h2 => ?_)
    · (try simp only [W0])
      have hsn : r.sn = [] := List.length_eq_zero_iff.1 (by omega)
      refine ldA_m (l := x.enc) H (Has.app Has.here) rfl ?_
      refine stA_m (vs := x.enc) H (Upd.app (Upd.cons (Upd.cons (Upd.app (Upd.app (Upd.app Upd.here)))))) rfl rfl (cMs.sc x) fun w H => ?_
      refine ldA_m (l := x.enc) H (Has.app (Has.cons (Has.cons (Has.app (Has.app (Has.app Has.here)))))) rfl ?_
      have e : r.recv th wait dl k0 = ⟨x, ⟨false, [], [], 0, { r with ms := xs' }⟩⟩ := by
        unfold RQ.recv; rw [if_neg e1, if_neg hb', htl, hx]; simp only; rw [hsn]
      subst hQ
      refine ⟨k0, .slice none 0 0, .slice none 0 0, hk0, ?_⟩
      rw [e]
      refine ⟨hok, rfl, [], s3, ss, sr, c3, cs, cr, [], [], TS.nil, TS.nil, ⟨h3, h.s, h.q, hdm, h.ds, by show xs'.length ≤ 64; omega, h.lr, h.ls⟩, by simp, H.to fun q => ?_⟩
      simp only [RQ.mem, RQ.cells, List.set_cons_zero, List.set_cons_succ, List.nil_append, List.map_append, List.map_cons, List.sum_append, List.sum_cons]; omega
    · (try simp only [W0])
      obtain ⟨y, ys, hy⟩ : ∃ y ys, r.sn = y :: ys := by
        cases hc : r.sn with
        | nil => rw [hc] at h2; simp at h2
        | cons y ys => exact ⟨y, ys, rfl⟩
      have hS := h.s
      have hls := h.ls
      rw [hy] at hS hls
      simp only [List.length_cons] at hls
      unfold F29_j9
      (try simp only [W0])
      refine ld_m H (Has.app (Has.cons Has.here)) (o := 3) (v := ss) rfl ?_
      refine ixN_t (C := cWt) (i := 0) hS.tr H (fun c hc => List.mem_append_right _ (List.mem_cons_of_mem _ (List.mem_cons_of_mem _ (List.mem_append_right _ (List.mem_append_left _ hc))))) rfl (by decide) ?_
      refine al_m (ys := [I 0, I 0, .slice none 0 0, I 0]) H (by kernel_rfl) fun w b2 H => ?_
      refine stA_m (vs := y.enc) H Upd.here rfl rfl (cWt.sc y) fun w H => ?_
      (try simp only [W0])
      refine ld_m H (Has.cons (Has.app (Has.cons Has.here))) (o := 3) (v := ss) rfl ?_
      obtain ⟨ss', cs', es, hS', hcut⟩ := hS.tail (by decide)
      refine pv_of es ?_
      have hss' : scalar ss' = true := hS'.sc
      (try simp only [W0])
      refine st_m (o := 3) H (Upd.cons (Upd.app (Upd.cons Upd.here))) (by simp [RQ.cells]) hss' fun w H => ?_
      have H2 : Hp w0 w (cs ++ (⟨b2, .t 124, y.enc⟩ :: ⟨b9, .t 49, x.enc⟩ :: (({ r with ms := xs', sn := ys } : RQ).mem rb s3 ss' sr c3 [] cr (cm ++ (⟨b8, .t 49, [I 0, .slice none 0 0]⟩ :: F))))) := H.to fun q => by
        simp only [RQ.mem, RQ.cells, List.set_cons_zero, List.set_cons_succ, List.map_append, List.map_cons, List.sum_append, List.sum_cons, List.map_nil, List.sum_nil]; omega
      have hyok : MsOK w0 D y.m := h.ds y (by rw [hy]; simp)
      have hp : r.pops = { r with ms := xs', sn := ys } := by unfold RQ.pops; rw [htl, hy]; rfl
      have hat : RAt w0 D r.pops s3 ss' sr c3 cs' cr := by
        rw [hp]
        exact ⟨h3, hS', h.q, hdm, fun z hz => h.ds z (by rw [hy]; exact List.mem_cons_of_mem _ hz), by show xs'.length ≤ 64; omega, h.lr, by show ys.length ≤ 64; omega⟩
      replace H : Hp w0 w (r.pops.mem rb s3 ss' sr c3 cs' cr (⟨b2, .t 124, y.enc⟩ :: ⟨b9, .t 49, x.enc⟩ :: ⟨b8, .t 49, [I 0, .slice none 0 0]⟩ :: (cm ++ F))) := (hcut H2).to fun q => by
        rw [hp]; simp only [RQ.mem, List.map_append, List.map_cons, List.sum_append, List.sum_cons, List.map_nil, List.sum_nil]; omega
      (try simp only [W0])
      refine ldP_m (ys := y.m.enc) H (mem_RF (by simp)) (b := b2) (t := 124) (l := y.enc) (o := 1) (by simp [Wt.enc]) rfl ?_
      refine cal_h (rput_spec (r := r.pops) (D := D) hyok (fun c hc => List.mem_cons_of_mem _ (List.mem_cons_of_mem _ (List.mem_cons_of_mem _ (List.mem_append_right _ (hD c hc))))) hat (.inr (by rw [hp]; show xs'.length < 64; omega)) H) ?_
      rintro _ w ⟨k, se, sn, hpos, rfl, D', sm2, ss2, sr2, cm2, cs2, cr2, ce, cn, he, hn, hr2, hes, H⟩
      (try simp only [W0])
      generalize hpp : r.pops.put y.m k = pp at *
      refine drew_k H fun w H => ?_
      have h8 : ∀ {v : List Value}, Has (ce ++ (cn ++ pp.2.mem rb sm2 ss2 sr2 cm2 cs2 cr2 (D' ++ (⟨b2, .t 124, y.enc⟩ :: ⟨b9, .t 49, x.enc⟩ :: ⟨b8, .t 49, v⟩ :: (cm ++ F))))) b8 (.t 49) v := Has.app (Has.app (mem_RF (List.mem_append_right _ (by simp))))
      have h9 : ∀ {v : List Value}, Has (ce ++ (cn ++ pp.2.mem rb sm2 ss2 sr2 cm2 cs2 cr2 (D' ++ (⟨b2, .t 124, y.enc⟩ :: ⟨b9, .t 49, x.enc⟩ :: ⟨b8, .t 49, v⟩ :: (cm ++ F))))) b9 (.t 49) x.enc := Has.app (Has.app (mem_RF (List.mem_append_right _ (by simp))))
      have h4 : ∀ {v : List Value}, Has (ce ++ (cn ++ pp.2.mem rb sm2 ss2 sr2 cm2 cs2 cr2 (D' ++ (⟨b2, .t 124, y.enc⟩ :: ⟨b9, .t 49, x.enc⟩ :: ⟨b8, .t 49, v⟩ :: (cm ++ F))))) b2 (.t 124) y.enc := Has.app (Has.app (mem_RF (List.mem_append_right _ (by simp))))
      have u8 : Upd (ce ++ (cn ++ pp.2.mem rb sm2 ss2 sr2 cm2 cs2 cr2 (D' ++ (⟨b2, .t 124, y.enc⟩ :: ⟨b9, .t 49, x.enc⟩ :: ⟨b8, .t 49, [I 0, .slice none 0 0]⟩ :: (cm ++ F))))) b8 (.t 49) [I 0, .slice none 0 0] (.t 49) x.enc (ce ++ (cn ++ pp.2.mem rb sm2 ss2 sr2 cm2 cs2 cr2 (D' ++ (⟨b2, .t 124, y.enc⟩ :: ⟨b9, .t 49, x.enc⟩ :: ⟨b8, .t 49, x.enc⟩ :: (cm ++ F))))) := Upd.app (Upd.app (Upd.cons (Upd.app (Upd.app (Upd.app (Upd.app (Upd.cons (Upd.cons Upd.here))))))))
      refine ldA_m (l := x.enc) H h9 rfl ?_
      (try simp only [W0])
      refine ld_m H h4 (o := 0) (v := I y.th) rfl ?_
      refine bld_a ?_
      have fin : ∀ w sx cx, TS cEn 127 sx [⟨y.th, ms0, 0⟩] cx → Hp w0 w (cx ++ (ce ++ (cn ++ pp.2.mem rb sm2 ss2 sr2 cm2 cs2 cr2 (D' ++ (⟨b2, .t 124, y.enc⟩ :: ⟨b9, .t 49, x.enc⟩ :: ⟨b8, .t 49, x.enc⟩ :: (cm ++ F)))))) → Q (.returned (.tuple ⟨[.agg ⟨x.enc⟩, .bool false, sx, sn, I 0]⟩)) w := by
        intro w sx cx hx2 H
        have e : r.recv th wait dl k = ⟨x, ⟨false, [⟨y.th, ms0, 0⟩], pp.1.2, 0, pp.2⟩⟩ := by
          unfold RQ.recv; rw [if_neg e1, if_neg hb', hx]; simp only; rw [hy]; simp only; rw [hpp]
        subst hQ
        refine ⟨k, sx, sn, fun y' ys' e' hrc => ?_, ?_⟩
        · rw [hy] at e'; injection e' with e' _; subst e'
          have := hpos (by rw [hp]; exact hrc)
          rw [hp] at this
          rw [htl]; exact this
        rw [e]
        refine ⟨hok, rfl, D', sm2, ss2, sr2, cm2, cs2, cr2, cx, cn, hx2, hn, hr2, ?_, H.to fun q => ?_⟩
        · intro z hz
          rw [List.mem_singleton.1 hz]
          exact ⟨TR.nil, by simp [ms0]⟩
        · simp only [RQ.mem, List.map_append, List.map_cons, List.sum_append, List.sum_cons]; omega
      refine ⟨?_, ?_⟩
      · refine lit1_t (C := cEn) (x := ⟨y.th, ms0, 0⟩) elREn H rfl (by decide) fun w sx cx H hx2 => ?_
        refine rdA_m H (Has.app h9) rfl ?_
        refine stA_m (vs := x.enc) H (Upd.app u8) rfl rfl (cMs.sc x) fun w H => ?_
        refine rd1_m H (Has.app h4) (o := 0) rfl ?_
        refine ldA_m (l := x.enc) H (Has.app h8) rfl ?_
        exact fin w sx cx hx2 H
      · (try simp only [allW])
        refine stA_m (vs := x.enc) H u8 rfl rfl (cMs.sc x) fun w H => ?_
        refine rd1_m H h4 (o := 0) rfl ?_
        refine lit1_t (C := cEn) (x := ⟨y.th, ms0, 0⟩) elREn H rfl (by decide) fun w sx cx H hx2 => ?_
        refine rdA_m H (Has.app h9) rfl ?_
        refine ldA_m (l := x.enc) H (Has.app h8) rfl ?_
        exact fin w sx cx hx2 H
  · (try simp only [W0])
    have hms : r.ms = [] := List.length_eq_zero_iff.1 (by omega)
    unfold F29_j3 F29_j5
    (try simp only [W0])
    refine ld_m H Has.here (o := 4) (v := sr) rfl ?_
    obtain ⟨shs, hshs⟩ := h.q.sh
    have hln : shs.n = r.rc.length := by
      have := lenS_to h.q
      rw [hshs] at this
      unfold Sh.val at this
      rw [lenS_mk] at this
      injection this with this; injection this with _ this; omega
    have hw := rwaits_spec (wait := wait) (dl := dl) (n := shs.n) (a := shs.a) (c := shs.c) (now := r.now) (l := r.cells sm ss sr) Has.here rfl H
    rw [show Value.slice shs.a shs.n shs.c = sr from hshs.symm, hln] at hw
    refine cal_h hw ?_
    rintro _ w ⟨rfl, H⟩
    (try simp only [W0])
    refine neq_k (fun h5 => ?_) (fun h5 => ?_)
    · (try simp only [cnd_true])
      exact quiet w _ (fun k => by unfold RQ.recv; rw [if_neg e1, if_neg hb', hms]; simp only; rw [if_pos h5]) H
    · (try simp only [cnd_false])
      have hlim := waitsE_lim h5
      unfold F29_j4
      (try simp only [W0])
      refine ld_m H Has.here (o := 4) (v := sr) rfl ?_
      refine bld_a ?_
      refine lit1_t (C := cWt) (x := ⟨th, ms0, dl⟩) elWt H rfl (by decide) fun w sx cx H hx => ?_
      refine append_to (C := cWt) (F := cx ++ (⟨rb, .t 75, r.cells sm ss sr⟩ :: (cm ++ (cs ++ (⟨b8, .t 49, [I 0, .slice none 0 0]⟩ :: F))))) elWt H h.q (Split.app (Split.cons (Split.app (Split.app Split.here)))) hx.tr (fun c hc => List.mem_append_left _ hc) (by have := h.lr; simp; omega) (by have := h.lr; simp; omega) fun w sr' cr' H hs' => ?_
      have hsr' : scalar sr' = true := hs'.sc
      (try simp only [W0])
      refine st_m (o := 4) H (Upd.app (Upd.app Upd.here)) (by simp [RQ.cells]) hsr' fun w H => ?_
      refine bld_a ?_
      refine stA_m (vs := [.int .i64 0, .slice none 0 0]) H (Upd.app (Upd.app (Upd.cons (Upd.app (Upd.app Upd.here))))) rfl rfl (by intro c hc; simp at hc; rcases hc with rfl | rfl <;> rfl) fun w H => ?_
      refine ldA_m (l := [.int .i64 0, .slice none 0 0]) H (Has.app (Has.app (Has.cons (Has.app (Has.app Has.here))))) rfl ?_
      have e : r.recv th wait dl k0 = ⟨ms0, ⟨true, [], [], 0, { r with rc := r.rc ++ [⟨th, ms0, dl⟩] }⟩⟩ := by
        unfold RQ.recv; rw [if_neg e1, if_neg hb', hms]; simp only; rw [if_neg (by simpa using h5)]
      subst hQ
      refine ⟨k0, .slice none 0 0, .slice none 0 0, hk0, ?_⟩
      rw [e]
      refine ⟨hms0, rfl, [], sm, ss, sr', cm, cs, cr', [], [], TS.nil, TS.nil, ⟨h.m, h.s, hs', h.dm, h.ds, h.lm, by simp; omega, h.ls⟩, by simp, H.to fun q => ?_⟩
      simp only [RQ.mem, RQ.cells, List.set_cons_zero, List.set_cons_succ, List.nil_append, List.map_append, List.map_cons, List.sum_append, List.sum_cons]; omega
end
end Go.Proofs.YthcekppbbanfeaaGreat.Den
