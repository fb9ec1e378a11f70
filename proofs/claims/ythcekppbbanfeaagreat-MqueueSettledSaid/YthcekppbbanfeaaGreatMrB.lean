/- Message queue, the reference: put, Send, Receive. Conditions: none. -/
import Derived.Test.YthcekppbbanfeaaGreatMrA
set_option linter.unusedVariables false
set_option linter.unusedSimpArgs false
set_option maxRecDepth 8000
set_option maxHeartbeats 4000000
namespace Go.Proofs.YthcekppbbanfeaaGreat.Den
open Go Go.RowKit
theorem slRfrom_t {α : Type} {C : Cod α} {w0 : World} {cs : List Chunk} {s : Value} {xs : List α} {lo : Nat} (hz : 0 < C.sz) (h : TR C w0 cs s xs) (h1 : lo ≤ xs.length) : ∃ s', slS C.sz s (some (I (lo : Int))) none = some s' ∧ TR C w0 cs s' (xs.drop lo) := by
  obtain ⟨s3, e3, h3⟩ := slR_t (C := C) (lo := lo) (hi := xs.length) hz h h1 (Nat.le_refl _)
  refine ⟨s3, ?_, by rwa [List.take_of_length_le (by rw [List.length_drop]; exact Nat.le_refl _)] at h3⟩
  rw [← e3]
  obtain ⟨sh, rfl⟩ := h.sh
  have hln := lenS_tr h
  have : sh.n = xs.length := by
    unfold Sh.val at hln
    rw [lenS_mk] at hln
    injection hln with hln; injection hln with _ hln; omega
  have hcap : xs.length ≤ sh.c := by
    rcases h with (⟨c, hv, h0, _⟩ | ⟨a, c, hv, hle, _⟩) | ⟨b, o, c, el, l, hv, hle, _⟩ <;> (unfold Sh.val at hv; injection hv with _ hv1 hv2)
    · rcases Nat.eq_zero_or_pos xs.length with h | h
      · omega
      · have := Nat.mul_pos h hz; omega
    · omega
    · omega
  unfold Sh.val slS boundO
  simp only [this]
  rw [if_pos (by omega : (0 : Int) ≤ ((xs.length : Nat) : Int) ∧ ((xs.length : Nat) : Int) ≤ (sh.c : Int))]
  rfl
/-- Where a message goes. -/
structure PosM (ms : List Ms) (m : Ms) (k : Nat) : Prop where
  le : k ≤ ms.length
  up : k = 0 ∨ ∃ y, ms[k - 1]? = some y ∧ ¬ y.pri < m.pri
  dn : ∀ y ∈ ms.drop k, y.pri < m.pri
def insM (ms : List Ms) (m : Ms) (k : Nat) : List Ms := ms.take k ++ m :: ms.drop k
def RQ.put (r : RQ) (m : Ms) (k : Nat) : (List En × List Nc) × RQ := match r.rc with
  | x :: xs => (([⟨x.th, m, 0⟩], []), { r with rc := xs })
  | [] => if r.ms = [] ∧ r.reg = true then (([], [r.nt]), { r with ms := insM r.ms m k, reg := false }) else (([], []), { r with ms := insM r.ms m k })
section
variable {w w' w0 : World} {L L' F cs cs2 A X Y cm cr D : List Chunk} {s s2 sm sr ss : Value} {K : VK} {R : ER} {b i j rb : Nat} {r : RQ} {m : Ms} {th dl now : Int} {wait : Bool} {xs : List Wt}
theorem rput_spec (hm : MsOK w0 D m) (hD : ∀ c ∈ D, c ∈ F) (h : RAt w0 D r sm ss sr cm cs cr) (hr : r.rc ≠ [] ∨ r.ms.length < 64) (H : Hp w0 w (r.mem rb sm ss sr cm cs cr F)) :
    Calls Pg 56 ⟨[ptr rb 0, .agg ⟨m.enc⟩]⟩ w fun e w' => ∃ (k : Nat) (se sn : Value), (r.rc = [] → PosM r.ms m k) ∧ e = .returned (.tuple ⟨[se, sn]⟩) ∧ RAfter w0 w' D F rb (r.put m k).2 (r.put m k).1.1 (r.put m k).1.2 se sn := by
  generalize hQ : (fun (e : Ending) (w' : World) => ∃ (k : Nat) (se sn : Value), (r.rc = [] → PosM r.ms m k) ∧ e = .returned (.tuple ⟨[se, sn]⟩) ∧ RAfter w0 w' D F rb (r.put m k).2 (r.put m k).1.1 (r.put m k).1.2 se sn : ER) = Q
  have hsm : scalar sm = true := h.m.sc
  have hss : scalar ss = true := h.s.sc
  have hsr : scalar sr = true := h.q.sc
  have llr := h.lr
  have llm := h.lm
  apply F56_calls
  unfold F56
  refine bx_m (vs := m.enc) H fun w b1 H => ?_
  have h0 := H
  unfold RQ.mem at H
  unfold F56_j5
  (try simp only [W0])
  refine ld_m H (Has.cons Has.here) (o := 4) (v := sr) rfl ?_
  refine pv_of (lenS_to h.q) ?_
  unfold F56_j6
  refine gtr_k (fun hp => ?_) (fun hp => ?_)
  · (try simp only [W0])
    obtain ⟨y, ys, hy⟩ : ∃ y ys, r.rc = y :: ys := by
      cases hc : r.rc with
      | nil => rw [hc] at hp; simp at hp
      | cons y ys => exact ⟨y, ys, rfl⟩
    have hR := h.q
    rw [hy] at hR llr
    unfold F56_j7
    (try simp only [W0])
    refine ld_m H (Has.cons Has.here) (o := 4) (v := sr) rfl ?_
    refine ixN_t (C := cWt) (i := 0) hR.tr H (fun c hc => List.mem_cons_of_mem _ (List.mem_cons_of_mem _ (List.mem_append_right _ (List.mem_append_right _ (List.mem_append_left _ hc))))) rfl (by decide) ?_
    refine al_m (ys := [I 0, I 0, .slice none 0 0, I 0]) H (by kernel_rfl) fun w b2 H => ?_
    refine stA_m (vs := y.enc) H Upd.here rfl rfl (cWt.sc y) fun w H => ?_
    (try simp only [W0])
    refine ld_m H (Has.cons (Has.cons Has.here)) (o := 4) (v := sr) rfl ?_
    obtain ⟨sr', cr', es, hR', hcut⟩ := hR.tail (by decide)
    refine pv_of es ?_
    have hsr' : scalar sr' = true := hR'.sc
    (try simp only [W0])
    refine st_m (o := 4) H (Upd.cons (Upd.cons Upd.here)) (by simp [RQ.cells]) hsr' fun w H => ?_
    (try simp only [W0])
    refine ld_m H Has.here (o := 0) (v := I y.th) rfl ?_
    refine ldA_m (l := m.enc) H (Has.cons Has.here) rfl ?_
    refine bld_a ?_
    refine lit1_t (C := cEn) (x := ⟨y.th, m, 0⟩) elREn H rfl (by decide) fun w se ce H he => ?_
    have e : r.put m 0 = (([⟨y.th, m, 0⟩], []), { r with rc := ys }) := by unfold RQ.put; rw [hy]
    subst hQ
    refine ⟨0, se, .slice none 0 0, fun h0 => (by rw [hy] at h0; cases h0), (by first | rfl | trivial), ?_⟩
    rw [e]
    have H2 : Hp w0 w (cr ++ (ce ++ (({ r with rc := ys } : RQ).mem rb sm ss sr' cm cs [] F))) := H.to fun q => by
      simp only [RQ.mem, RQ.cells, List.set_cons_zero, List.set_cons_succ, List.map_append, List.map_cons, List.sum_append, List.sum_cons, List.map_nil, List.sum_nil]; omega
    refine ⟨[], sm, ss, sr', cm, cs, cr', ce, [], he, TS.nil, ⟨h.m, h.s, hR', h.dm, h.ds, h.lm, by show ys.length ≤ 64; simp at llr; omega, h.ls⟩, ?_, (hcut H2).to fun q => ?_⟩
    · intro z hz
      rw [List.mem_singleton.1 hz]; exact hm
    · simp only [RQ.mem, List.nil_append, List.map_append, List.map_cons, List.sum_append, List.sum_cons, List.map_nil, List.sum_nil]; omega
  · (try simp only [W0])
    have hrc : r.rc = [] := by
      cases hc : r.rc with
      | nil => rfl
      | cons y ys => rw [hc] at hp; simp at hp
    have hlt : r.ms.length < 64 := by
      rcases hr with h | h
      · exact absurd hrc h
      · exact h
    have m1 : ∀ {A : List Chunk}, ∀ c ∈ cm, c ∈ A ++ (⟨b1, .t 49, m.enc⟩ :: ⟨rb, .t 75, r.cells sm ss sr⟩ :: (cm ++ (cs ++ (cr ++ F)))) := fun {A} c hc => List.mem_append_right _ (List.mem_cons_of_mem _ (List.mem_cons_of_mem _ (List.mem_append_left _ hc)))
    unfold F56_j1
    (try simp only [W0])
    refine ld_m H (Has.cons Has.here) (o := 2) (v := sm) rfl ?_
    refine pv_of (lenS_ts h.m) ?_
    unfold F56_j4
    refine loop3 (F56_l1_succ _) (fun q x0 x3 x7 w => ∃ k : Nat, x0 = ptr rb 0 ∧ x3 = ptr b1 0 ∧ x7 = I (k : Int) ∧ q = k ∧ k ≤ r.ms.length ∧ (∀ y ∈ r.ms.drop k, y.pri < m.pri) ∧ Hp w0 w (⟨b1, .t 49, m.enc⟩ :: ⟨rb, .t 75, r.cells sm ss sr⟩ :: (cm ++ (cs ++ (cr ++ F))))) ?_ (m := r.ms.length)
      ⟨r.ms.length, rfl, rfl, rfl, rfl, Nat.le_refl _, by simp, H⟩
    clear H h0
    rintro k k1 _ _ _ w ⟨_, rfl, rfl, rfl, rfl, hk, hdn, H⟩ hk1
    unfold F56_b1
    refine drew_k H fun w H => ?_
    have stop : ∀ w, Hp w0 w (⟨b1, .t 49, m.enc⟩ :: ⟨rb, .t 75, r.cells sm ss sr⟩ :: (cm ++ (cs ++ (cr ++ F)))) → PosM r.ms m k → F56_j2 Q (ptr rb 0) (ptr b1 0) (I (k : Int)) w := by
      intro w H hpos
      unfold F56_j2
      (try simp only [W0])
      refine ld_m H (Has.cons Has.here) (o := 2) (v := sm) rfl ?_
      refine pv_of (lenS_ts h.m) ?_
      rw [bin_eql, pv_some]
      refine drew_k H fun w H => ?_
      (try simp only [W0])
      refine ld_m H (Has.cons Has.here) (o := 2) (v := sm) rfl ?_
      obtain ⟨s1, e1, t1⟩ := slRto_t (C := cMs) (w0 := w0) (hi := k) (by decide) h.m.tr hk
      refine pv_of e1 ?_
      refine ldA_m (l := m.enc) H Has.here rfl ?_
      (try simp only [W0])
      refine ld_m H (Has.cons Has.here) (o := 2) (v := sm) rfl ?_
      obtain ⟨s2, e2, t2⟩ := slRfrom_t (C := cMs) (w0 := w0) (lo := k) (by decide) h.m.tr hk
      refine pv_of e2 ?_
      have l1 : (r.ms.take k).length = k := by rw [List.length_take]; omega
      have l2 : (r.ms.drop k).length = r.ms.length - k := List.length_drop
      -- behind the appends
      have fin : ∀ (w : World) (c2 c4 : List Chunk) (s4 : Value), TS cMs 49 s4 (insM r.ms m k) c4 → Hp w0 w (c4 ++ (c2 ++ (⟨b1, .t 49, m.enc⟩ :: ⟨rb, .t 75, r.cells sm ss sr⟩ :: (cm ++ (cs ++ (cr ++ F)))))) →
          (st1 (ptr rb 2) s4 fun _ => F56_j3 Q (ptr rb 0) (.bool (decide ((r.ms.length : Int) = 0)))) w := by
        intro w c2 c4 s4 h4 H
        have hs4 : scalar s4 = true := h4.sc
        refine st_m (o := 2) H (Upd.app (Upd.app (Upd.cons Upd.here))) (by simp [RQ.cells]) hs4 fun w H => ?_
        replace H : Hp w0 w (({ r with ms := insM r.ms m k } : RQ).mem rb s4 ss sr c4 cs cr F) := H.to fun q => by
          simp only [RQ.mem, RQ.cells, List.set_cons_zero, List.set_cons_succ, List.map_append, List.map_cons, List.sum_append, List.sum_cons]; omega
        have hil : (insM r.ms m k).length ≤ 64 := by unfold insM; rw [List.length_append, List.length_cons, l1, l2]; omega
        have hat : ∀ g : Bool, RAt w0 D { r with ms := insM r.ms m k, reg := g } s4 ss sr c4 cs cr := fun g => ⟨h4, h.s, h.q, fun z hz => by
          rcases List.mem_append.1 hz with hz | hz
          · exact h.dm z (List.mem_of_mem_take hz)
          · rcases List.mem_cons.1 hz with rfl | hz
            · exact hm
            · exact h.dm z (List.mem_of_mem_drop hz), h.ds, hil, h.lr, h.ls⟩
        unfold F56_j3
        have quiet : ∀ w, ¬ (r.ms = [] ∧ r.reg = true) → Hp w0 w (({ r with ms := insM r.ms m k } : RQ).mem rb s4 ss sr c4 cs cr F) → Q (.returned (.tuple ⟨[.slice none 0 0, .slice none 0 0]⟩)) w := by
          intro w hn H
          subst hQ
          have e : r.put m k = (([], []), { r with ms := insM r.ms m k }) := by unfold RQ.put; rw [hrc]; simp only; rw [if_neg hn]
          refine ⟨k, _, _, fun _ => hpos, rfl, ?_⟩
          rw [e]
          exact ⟨[], s4, ss, sr, c4, cs, cr, [], [], TS.nil, TS.nil, hat r.reg, by simp, H⟩
        by_cases hz : (r.ms.length : Int) = 0
        · rw [decide_eq_true hz]
          (try simp only [W0])
          unfold RQ.mem at H
          refine ld_m H Has.here (o := 12) (v := .bool r.reg) rfl ?_
          have hms : r.ms = [] := List.length_eq_zero_iff.1 (by omega)
          cases hrg : r.reg with
          | false =>
            (try simp only [W0])
            exact quiet w (by rw [hrg]; simp) H
          | true =>
            (try simp only [W0])
            refine st_m (o := 12) H Upd.here (by simp [RQ.cells]) rfl fun w H => ?_
            refine drew_k H fun w H => ?_
            (try simp only [W0])
            refine ldP_m (ys := r.nt.enc) H Has.here (o := 6) (by simp [RQ.cells]) rfl ?_
            (try simp only [W0])
            refine lit1_t (C := cNc) (x := r.nt) elRNc H rfl (by decide) fun w sn cn H hn => ?_
            subst hQ
            have e : r.put m k = (([], [r.nt]), { r with ms := insM r.ms m k, reg := false }) := by unfold RQ.put; rw [hrc]; simp only; rw [if_pos ⟨hms, hrg⟩]
            refine ⟨k, .slice none 0 0, sn, fun _ => hpos, (by first | rfl | trivial), ?_⟩
            rw [e]
            refine ⟨[], s4, ss, sr, c4, cs, cr, [], cn, TS.nil, hn, hat false, by simp, H.to fun q => ?_⟩
            simp only [RQ.mem, RQ.cells, List.set_cons_zero, List.set_cons_succ, List.nil_append, List.map_append, List.map_cons, List.sum_append, List.sum_cons]; omega
        · rw [decide_eq_false hz]
          (try simp only [W0])
          exact quiet w (fun hn => hz (by rw [hn.1]; rfl)) H
      have hb0 : ∀ {A B : List Chunk}, Has (A ++ (B ++ (⟨b1, .t 49, m.enc⟩ :: ⟨rb, .t 75, r.cells sm ss sr⟩ :: (cm ++ (cs ++ (cr ++ F)))))) b1 (.t 49) m.enc := fun {A B} => Has.app (Has.app Has.here)
      have hq0 : ∀ {A B : List Chunk}, Has (A ++ (B ++ (⟨b1, .t 49, m.enc⟩ :: ⟨rb, .t 75, r.cells sm ss sr⟩ :: (cm ++ (cs ++ (cr ++ F)))))) rb (.t 75) (r.cells sm ss sr) := fun {A B} => Has.app (Has.app (Has.cons Has.here))
      have hq1 : (r.cells sm ss sr)[2]? = some sm := rfl
      refine ⟨?_, ?_⟩
      · refine lit0_t (C := cMs) elRMs H fun w s0 H hs0 => ?_
        refine rd1_m H (hq0 (A := []) (B := [])) hq1 ?_
        refine rdA_m H (hb0 (A := []) (B := [])) rfl ?_
        refine rd1_m H (hq0 (A := []) (B := [])) hq1 ?_
        refine ⟨?_, ?_⟩
        · refine append_t (C := cMs) (F := ⟨b1, .t 49, m.enc⟩ :: ⟨rb, .t 75, r.cells sm ss sr⟩ :: (cm ++ (cs ++ (cr ++ F)))) elRMs H hs0 Split.nil t1 (m1 (A := [])) (by simp; omega) (by simp; omega) fun w s3 c3 H h3 => ?_
          rw [List.nil_append] at h3
          refine rd1_m H (hq0 (A := []) (B := c3)) hq1 ?_
          refine rdA_m H (hb0 (A := []) (B := c3)) rfl ?_
          (try simp only [W0])
          refine lit1_t (C := cMs) (x := m) elRMs H rfl (by decide) fun w s5 c5 H h5 => ?_
          refine rd1_m H (hq0 (A := c5) (B := c3)) hq1 ?_
          refine rd1_m H (hq0 (A := c5) (B := c3)) hq1 ?_
          (try simp only [W0])
          refine append_t (C := cMs) (F := c5 ++ (⟨b1, .t 49, m.enc⟩ :: ⟨rb, .t 75, r.cells sm ss sr⟩ :: (cm ++ (cs ++ (cr ++ F))))) elRMs H h3 (Split.app Split.here) h5.tr (fun c hc => List.mem_append_left _ hc) (by simp; omega) (by simp; omega) fun w s6 c6 H h6 => ?_
          refine rd1_m H (hq0 (A := c6) (B := c5)) hq1 ?_
          (try simp only [W0])
          refine append_t (C := cMs) (F := c5 ++ (⟨b1, .t 49, m.enc⟩ :: ⟨rb, .t 75, r.cells sm ss sr⟩ :: (cm ++ (cs ++ (cr ++ F))))) elRMs H h6 Split.here t2 (by rw [← List.append_assoc]; exact m1) (by simp; omega) (by simp; omega) fun w s7 c7 H h7 => ?_
          (try simp only [W0])
          exact fin w c5 c7 s7 (by unfold insM; simpa using h7) H
        · (try simp only [allW, W0])
          refine lit1_t (C := cMs) (x := m) elRMs H rfl (by decide) fun w s5 c5 H h5 => ?_
          refine rd1_m H (hq0 (A := []) (B := c5)) hq1 ?_
          refine rd1_m H (hq0 (A := []) (B := c5)) hq1 ?_
          (try simp only [W0])
          refine append_t (C := cMs) (F := c5 ++ (⟨b1, .t 49, m.enc⟩ :: ⟨rb, .t 75, r.cells sm ss sr⟩ :: (cm ++ (cs ++ (cr ++ F))))) elRMs H hs0 Split.nil t1 m1 (by simp; omega) (by simp; omega) fun w s3 c3 H h3 => ?_
          rw [List.nil_append] at h3
          refine rd1_m H (hq0 (A := c3) (B := c5)) hq1 ?_
          refine rdA_m H (hb0 (A := c3) (B := c5)) rfl ?_
          (try simp only [W0])
          refine append_t (C := cMs) (F := c5 ++ (⟨b1, .t 49, m.enc⟩ :: ⟨rb, .t 75, r.cells sm ss sr⟩ :: (cm ++ (cs ++ (cr ++ F))))) elRMs H h3 Split.here h5.tr (fun c hc => List.mem_append_right _ (List.mem_append_left _ hc)) (by simp; omega) (by simp; omega) fun w s6 c6 H h6 => ?_
          refine rd1_m H (hq0 (A := c6) (B := c5)) hq1 ?_
          (try simp only [W0])
          refine append_t (C := cMs) (F := c5 ++ (⟨b1, .t 49, m.enc⟩ :: ⟨rb, .t 75, r.cells sm ss sr⟩ :: (cm ++ (cs ++ (cr ++ F))))) elRMs H h6 Split.here t2 (by rw [← List.append_assoc]; exact m1) (by simp; omega) (by simp; omega) fun w s7 c7 H h7 => ?_
          (try simp only [W0])
          exact fin w c5 c7 s7 (by unfold insM; simpa using h7) H
      · (try simp only [allW, W0])
        refine lit1_t (C := cMs) (x := m) elRMs H rfl (by decide) fun w s5 c5 H h5 => ?_
        refine rd1_m H (hq0 (A := []) (B := c5)) hq1 ?_
        refine rd1_m H (hq0 (A := []) (B := c5)) hq1 ?_
        (try simp only [W0])
        refine lit0_t (C := cMs) elRMs H fun w s0 H hs0 => ?_
        refine rd1_m H (hq0 (A := []) (B := c5)) hq1 ?_
        refine rdA_m H (hb0 (A := []) (B := c5)) rfl ?_
        refine rd1_m H (hq0 (A := []) (B := c5)) hq1 ?_
        (try simp only [W0])
        refine append_t (C := cMs) (F := c5 ++ (⟨b1, .t 49, m.enc⟩ :: ⟨rb, .t 75, r.cells sm ss sr⟩ :: (cm ++ (cs ++ (cr ++ F))))) elRMs H hs0 Split.nil t1 m1 (by simp; omega) (by simp; omega) fun w s3 c3 H h3 => ?_
        rw [List.nil_append] at h3
        refine rd1_m H (hq0 (A := c3) (B := c5)) hq1 ?_
        refine rdA_m H (hb0 (A := c3) (B := c5)) rfl ?_
        (try simp only [W0])
        refine append_t (C := cMs) (F := c5 ++ (⟨b1, .t 49, m.enc⟩ :: ⟨rb, .t 75, r.cells sm ss sr⟩ :: (cm ++ (cs ++ (cr ++ F))))) elRMs H h3 Split.here h5.tr (fun c hc => List.mem_append_right _ (List.mem_append_left _ hc)) (by simp; omega) (by simp; omega) fun w s6 c6 H h6 => ?_
        refine rd1_m H (hq0 (A := c6) (B := c5)) hq1 ?_
        (try simp only [W0])
        refine append_t (C := cMs) (F := c5 ++ (⟨b1, .t 49, m.enc⟩ :: ⟨rb, .t 75, r.cells sm ss sr⟩ :: (cm ++ (cs ++ (cr ++ F))))) elRMs H h6 Split.here t2 (by rw [← List.append_assoc]; exact m1) (by simp; omega) (by simp; omega) fun w s7 c7 H h7 => ?_
        (try simp only [W0])
        exact fin w c5 c7 s7 (by unfold insM; simpa using h7) H
    refine gtr_k (fun hg => ?_) (fun hg => ?_)
    · (try simp only [W0])
      have hx : r.ms[k - 1]? = some (r.ms[k - 1]'(by omega)) := List.getElem?_eq_getElem (by omega)
      generalize r.ms[k - 1]'(by omega) = y at hx
      refine ld_m H (Has.cons Has.here) (o := 2) (v := sm) rfl ?_
      (try simp only [W0])
      refine sub_k (z := ((k - 1 : Nat) : Int)) (by omega) (by omega) (by omega) ?_
      (try simp only [W0])
      refine ixF_t (C := cMs) (f := 0) (v := I y.pri) h.m.tr H (m1 (A := [])) hx rfl ?_
      (try simp only [W0])
      refine ld_m H Has.here (o := 0) (v := I m.pri) rfl ?_
      (try simp only [W0])
      refine lss_k (fun hl => ?_) (fun hl => ?_)
      · (try simp only [W0])
        refine sub_k (z := ((k - 1 : Nat) : Int)) (by omega) (by omega) (by omega) ?_
        refine hk1 (k - 1) _ _ _ _ (by omega) ⟨k - 1, rfl, rfl, rfl, rfl, by omega, fun z hz => ?_, H⟩
        have ed : r.ms.drop (k - 1) = y :: r.ms.drop k := by
          obtain ⟨hlt2, e⟩ := List.getElem?_eq_some_iff.1 hx
          rw [List.drop_eq_getElem_cons hlt2, e, show k - 1 + 1 = k from by omega]
        rw [ed] at hz
        rcases List.mem_cons.1 hz with rfl | hz
        · exact hl
        · exact hdn z hz
      · (try simp only [W0])
        exact stop w H ⟨hk, .inr ⟨y, hx, hl⟩, hdn⟩
    · (try simp only [W0])
      exact stop w H ⟨hk, .inl (by omega), hdn⟩
end
end Go.Proofs.YthcekppbbanfeaaGreat.Den
