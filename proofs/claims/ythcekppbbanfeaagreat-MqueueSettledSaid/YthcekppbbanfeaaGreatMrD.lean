/- Message queue, the reference: Cancel, Register, Unregister, Messages. Conditions: none. -/
import Derived.Test.YthcekppbbanfeaaGreatMrC
set_option linter.unusedVariables false
set_option linter.unusedSimpArgs false
set_option maxRecDepth 8000
set_option maxHeartbeats 4000000
namespace Go.Proofs.YthcekppbbanfeaaGreat.Den
open Go Go.RowKit
def eraTh (th : Int) (xs : List Wt) : List Wt := match xs.findIdx? (fun x => decide (x.th = th)) with | some k => xs.eraseIdx k | none => xs
def RQ.cancel (r : RQ) (th : Int) : RRs :=
  if th ∈ r.sn.map Wt.th then ⟨false, [⟨th, ms0, 13⟩], [], 0, { r with sn := eraTh th r.sn }⟩
  else if th ∈ r.rc.map Wt.th then ⟨false, [⟨th, ms0, 13⟩], [], 0, { r with rc := eraTh th r.rc }⟩
  else ⟨false, [], [], 22, r⟩
def rregE (r : RQ) (n : Nc) : Int := if n.ow < 0 ∨ 256 ≤ n.ow then 34 else if n.ki < 0 ∨ 5 ≤ n.ki then 17 else if r.reg = true then 5 else 0
def runregE (r : RQ) (ow : Int) : Int := if r.reg = false ∨ r.nt.ow ≠ ow then 22 else 0
theorem AtW.era {th : Int} {xs : List Wt} {k : Nat} (h : AtW th xs (k : Int)) : k < xs.length ∧ eraTh th xs = xs.eraseIdx k ∧ th ∈ xs.map Wt.th := by
  rcases h with ⟨_, h⟩ | ⟨k', x, h1, h2, h3, h4⟩
  · omega
  · obtain rfl : k = k' := by omega
    have hk := (List.getElem?_eq_some_iff.1 h1).1
    refine ⟨hk, ?_, h2 ▸ List.mem_map_of_mem (List.mem_of_getElem? h1)⟩
    have : xs.findIdx? (fun x => decide (x.th = th)) = some k := by
      rw [List.findIdx?_eq_some_iff_getElem]
      refine ⟨hk, ?_, fun j hj => ?_⟩
      · have e := (List.getElem?_eq_some_iff.1 h1).2
        rw [e]; simp [h2]
      · have := h3 (xs[j]'(by omega)) (List.mem_iff_getElem.2 ⟨j, by rw [List.length_take]; omega, by rw [List.getElem_take]⟩)
        simp [this]
    unfold eraTh
    rw [this]
theorem eraTh_sub {th : Int} {xs : List Wt} : ∀ x ∈ eraTh th xs, x ∈ xs := by
  intro x hx
  unfold eraTh at hx
  split at hx
  · exact List.mem_of_mem_eraseIdx hx
  · exact hx
theorem eraTh_len {th : Int} {xs : List Wt} : (eraTh th xs).length ≤ xs.length := by
  unfold eraTh
  split
  · exact List.length_eraseIdx_le _ _
  · exact Nat.le_refl _
section
variable {w w' w0 : World} {L L' F cs cs2 A X Y cm cr D : List Chunk} {s s2 sm sr ss : Value} {K : VK} {R : ER} {b i j rb : Nat} {r : RQ} {m : Ms} {th dl now : Int} {wait : Bool} {xs : List Wt}
theorem rcancel_spec (h : RAt w0 D r sm ss sr cm cs cr) (H : Hp w0 w (r.mem rb sm ss sr cm cs cr F)) :
    Calls Pg 31 ⟨[ptr rb 0, I th]⟩ w fun e w' => ∃ (se : Value), e = .returned (.tuple ⟨[se, .slice none 0 0, I (r.cancel th).err]⟩) ∧ RAfter w0 w' D F rb (r.cancel th).r (r.cancel th).es [] se (.slice none 0 0) := by
  generalize hQ : (fun (e : Ending) (w' : World) => ∃ (se : Value), e = .returned (.tuple ⟨[se, .slice none 0 0, I (r.cancel th).err]⟩) ∧ RAfter w0 w' D F rb (r.cancel th).r (r.cancel th).es [] se (.slice none 0 0) : ER) = Q
  have lr := h.lr
  have ls := h.ls
  apply F31_calls
  unfold F31 F31_j2
  (try simp only [W0])
  unfold RQ.mem at H
  refine ld_m H Has.here (o := 3) (v := ss) rfl ?_
  refine cal_h (rindex_spec (th := th) h.s.tr (fun c hc => List.mem_cons_of_mem _ (List.mem_append_right _ (List.mem_append_left _ hc))) (by omega) H) ?_
  rintro _ w ⟨i, rfl, hi, H⟩
  (try simp only [W0])
  have fin : ∀ w (r' : RQ) sm ss sr cm cs cr, r.cancel th = ⟨false, [⟨th, ms0, 13⟩], [], 0, r'⟩ → RAt w0 D r' sm ss sr cm cs cr → Hp w0 w (r'.mem rb sm ss sr cm cs cr F) → (pv (bldO [I 0, I 0, .slice none 0 0, I 0] [(0, 1, I th), (3, 1, I 13)]) fun v13 => valV Pg Q (Instr.buildSlice 77 1 ⟨[(0, v13)]⟩) fun v14 => Q (.returned (.tuple ⟨[v14, .slice none 0 0, I 0]⟩))) w := by
    intro w r' sm ss sr cm cs cr e hq' H
    refine bld_a ?_
    refine lit1_t (C := cEn) (x := ⟨th, ms0, 13⟩) elREn H rfl (by decide) fun w sx cx H hx2 => ?_
    subst hQ
    refine ⟨sx, ?_⟩
    rw [e]
    refine ⟨rfl, [], sm, ss, sr, cm, cs, cr, cx, [], hx2, TS.nil, hq', ?_, H⟩
    intro z hz
    rw [List.mem_singleton.1 hz]
    exact ⟨TR.nil, by simp [ms0]⟩
  unfold F31_j3
  refine geq_k (fun h1 => ?_) (fun h1 => ?_)
  · (try simp only [W0])
    obtain ⟨k, rfl⟩ : ∃ k : Nat, i = (k : Int) := ⟨i.toNat, by omega⟩
    obtain ⟨hk, he, hmem⟩ := hi.era
    unfold F31_j4
    (try simp only [W0])
    refine ld_m H Has.here (o := 3) (v := ss) rfl ?_
    refine cal_h (rwithout_spec h.s.tr (fun c hc => List.mem_cons_of_mem _ (List.mem_append_right _ (List.mem_append_left _ hc))) (by omega) hk H) ?_
    rintro _ w ⟨s2, c2, rfl, h2, H⟩
    have hs2 : scalar s2 = true := h2.sc
    (try simp only [W0])
    refine st_m (o := 3) H (Upd.app Upd.here) (by simp [RQ.cells]) hs2 fun w H => ?_
    rw [← he] at h2
    refine fin w { r with sn := eraTh th r.sn } sm s2 sr cm c2 cr (by unfold RQ.cancel; rw [if_pos hmem]) ⟨h.m, h2.to, h.q, h.dm, fun z hz => h.ds z (eraTh_sub z hz), h.lm, h.lr, Nat.le_trans eraTh_len h.ls⟩ (H.to fun q => ?_)
    simp only [RQ.mem, RQ.cells, List.set_cons_zero, List.set_cons_succ, List.map_append, List.map_cons, List.sum_append, List.sum_cons]; omega
  · (try simp only [W0])
    have hn1 : th ∉ r.sn.map Wt.th := by
      have := hi.ge
      rw [decide_eq_false h1] at this
      simpa using this.symm
    unfold F31_j1
    (try simp only [W0])
    refine ld_m H Has.here (o := 4) (v := sr) rfl ?_
    refine cal_h (rindex_spec (th := th) h.q.tr (fun c hc => List.mem_cons_of_mem _ (List.mem_append_right _ (List.mem_append_right _ (List.mem_append_left _ hc)))) (by omega) H) ?_
    rintro _ w ⟨j, rfl, hj, H⟩
    (try simp only [W0])
    refine geq_k (fun h2 => ?_) (fun h2 => ?_)
    · (try simp only [W0])
      obtain ⟨k, rfl⟩ : ∃ k : Nat, j = (k : Int) := ⟨j.toNat, by omega⟩
      obtain ⟨hk, he, hmem⟩ := hj.era
      refine ld_m H Has.here (o := 4) (v := sr) rfl ?_
      refine cal_h (rwithout_spec h.q.tr (fun c hc => List.mem_cons_of_mem _ (List.mem_append_right _ (List.mem_append_right _ (List.mem_append_left _ hc)))) (by omega) hk H) ?_
      rintro _ w ⟨s2, c2, rfl, h2', H⟩
      have hs2 : scalar s2 = true := h2'.sc
      (try simp only [W0])
      refine st_m (o := 4) H (Upd.app Upd.here) (by simp [RQ.cells]) hs2 fun w H => ?_
      rw [← he] at h2'
      refine fin w { r with rc := eraTh th r.rc } sm ss s2 cm cs c2 (by unfold RQ.cancel; rw [if_neg hn1, if_pos hmem]) ⟨h.m, h.s, h2'.to, h.dm, h.ds, h.lm, Nat.le_trans eraTh_len h.lr, h.ls⟩ (H.to fun q => ?_)
      simp only [RQ.mem, RQ.cells, List.set_cons_zero, List.set_cons_succ, List.map_append, List.map_cons, List.sum_append, List.sum_cons]; omega
    · (try simp only [W0])
      have hn2 : th ∉ r.rc.map Wt.th := by
        have := hj.ge
        rw [decide_eq_false h2] at this
        simpa using this.symm
      subst hQ
      refine ⟨.slice none 0 0, ?_⟩
      have e : r.cancel th = ⟨false, [], [], 22, r⟩ := by unfold RQ.cancel; rw [if_neg hn1, if_neg hn2]
      rw [e]
      exact ⟨rfl, RAfter.same h H⟩
theorem rregister_spec {n : Nc} (h : RAt w0 D r sm ss sr cm cs cr) (H : Hp w0 w (r.mem rb sm ss sr cm cs cr F)) :
    Calls Pg 35 ⟨[ptr rb 0, .agg ⟨n.enc⟩]⟩ w fun e w' => e = .returned (I (rregE r n)) ∧ RAfter w0 w' D F rb (if rregE r n = 0 then { r with nt := n, reg := true } else r) [] [] (.slice none 0 0) (.slice none 0 0) := by
  generalize hQ : (fun (e : Ending) (w' : World) => e = .returned (I (rregE r n)) ∧ RAfter w0 w' D F rb (if rregE r n = 0 then { r with nt := n, reg := true } else r) [] [] (.slice none 0 0) (.slice none 0 0) : ER) = Q
  apply F35_calls
  unfold F35
  refine bx_m (vs := n.enc) H fun w b1 H => ?_
  (try simp only [W0])
  have quiet : ∀ (w : World) (err : Int), err ≠ 0 → rregE r n = err → Hp w0 w (⟨b1, .t 73, n.enc⟩ :: r.mem rb sm ss sr cm cs cr F) → Q (.returned (I err)) w := by
    intro w err h0 he H
    subst hQ
    refine ⟨by rw [he], ?_⟩
    rw [he, if_neg h0]
    exact RAfter.same h H.tail
  refine ld_m H Has.here (o := 0) (v := I n.ow) rfl ?_
  refine lss_k (fun h1 => ?_) (fun h1 => ?_)
  · (try simp only [W0])
    exact quiet w 34 (by decide) (by unfold rregE; rw [if_pos (.inl h1)]) H
  (try simp only [W0])
  refine ld_m H Has.here (o := 0) (v := I n.ow) rfl ?_
  refine geq_k (fun h2 => ?_) (fun h2 => ?_)
  · (try simp only [W0])
    exact quiet w 34 (by decide) (by unfold rregE; rw [if_pos (.inr h2)]) H
  (try simp only [W0])
  have e1 : ¬ (n.ow < 0 ∨ 256 ≤ n.ow) := by omega
  unfold F35_j1
  (try simp only [W0])
  refine ld_m H Has.here (o := 1) (v := I n.ki) rfl ?_
  refine lss_k (fun h3 => ?_) (fun h3 => ?_)
  · (try simp only [W0])
    exact quiet w 17 (by decide) (by unfold rregE; rw [if_neg e1, if_pos (.inl h3)]) H
  (try simp only [W0])
  refine ld_m H Has.here (o := 1) (v := I n.ki) rfl ?_
  refine geq_k (fun h4 => ?_) (fun h4 => ?_)
  · (try simp only [W0])
    exact quiet w 17 (by decide) (by unfold rregE; rw [if_neg e1, if_pos (.inr h4)]) H
  (try simp only [W0])
  have e2 : ¬ (n.ki < 0 ∨ 5 ≤ n.ki) := by omega
  unfold F35_j2
  unfold RQ.mem at H
  (try simp only [W0])
  refine ld_m H (Has.cons Has.here) (o := 12) (v := .bool r.reg) rfl ?_
  cases hrg : r.reg with
  | true =>
    (try simp only [W0])
    exact quiet w 5 (by decide) (by unfold rregE; rw [if_neg e1, if_neg e2, if_pos hrg]) H
  | false =>
    (try simp only [W0])
    unfold F35_j3
    refine ldA_m (l := n.enc) H Has.here rfl ?_
    (try simp only [W0])
    refine stP_m (vs := n.enc) (o := 6) H (Upd.cons Upd.here) rfl (by simp [RQ.cells]) (cNc.sc n) fun w H => ?_
    (try simp only [W0])
    refine st_m (o := 12) H (Upd.cons Upd.here) (by simp [RQ.cells, lay, Nc.enc]) rfl fun w H => ?_
    have e : rregE r n = 0 := by unfold rregE; rw [if_neg e1, if_neg e2, if_neg (by rw [hrg]; decide)]
    subst hQ
    refine ⟨by rw [e], ?_⟩
    rw [if_pos e]
    refine ⟨[], sm, ss, sr, cm, cs, cr, [], [], TS.nil, TS.nil, ⟨h.m, h.s, h.q, h.dm, h.ds, h.lm, h.lr, h.ls⟩, by simp, H.to fun q => ?_⟩
    have e3 : (lay (r.cells sm ss sr) 6 n.enc).set 12 (.bool true) = ({ r with nt := n, reg := true } : RQ).cells sm ss sr := rfl
    rw [e3]
    simp only [RQ.mem, List.nil_append, List.map_append, List.map_cons, List.sum_append, List.sum_cons]; omega
theorem runregister_spec {ow : Int} (h : RAt w0 D r sm ss sr cm cs cr) (H : Hp w0 w (r.mem rb sm ss sr cm cs cr F)) :
    Calls Pg 37 ⟨[ptr rb 0, I ow]⟩ w fun e w' => e = .returned (I (runregE r ow)) ∧ RAfter w0 w' D F rb (if runregE r ow = 0 then { r with reg := false } else r) [] [] (.slice none 0 0) (.slice none 0 0) := by
  generalize hQ : (fun (e : Ending) (w' : World) => e = .returned (I (runregE r ow)) ∧ RAfter w0 w' D F rb (if runregE r ow = 0 then { r with reg := false } else r) [] [] (.slice none 0 0) (.slice none 0 0) : ER) = Q
  apply F37_calls
  unfold F37
  (try simp only [W0])
  have quiet : ∀ (w : World), runregE r ow = 22 → Hp w0 w (r.mem rb sm ss sr cm cs cr F) → Q (.returned (I 22)) w := by
    intro w he H
    subst hQ
    refine ⟨by rw [he], ?_⟩
    rw [he, if_neg (by decide)]
    exact RAfter.same h H
  unfold RQ.mem at H
  refine ld_m H Has.here (o := 12) (v := .bool r.reg) rfl ?_
  cases hrg : r.reg with
  | false =>
    (try simp only [W0])
    exact quiet w (by unfold runregE; rw [if_pos (.inl hrg)]) H
  | true =>
    (try simp only [W0])
    refine ld_m H Has.here (o := 6) (v := I r.nt.ow) rfl ?_
    (try simp only [W0])
    refine neq_k (fun h1 => ?_) (fun h1 => ?_)
    · (try simp only [W0])
      exact quiet w (by unfold runregE; rw [if_pos (.inr h1)]) H
    · (try simp only [W0])
      refine st_m (o := 12) H Upd.here (by simp [RQ.cells]) rfl fun w H => ?_
      have e : runregE r ow = 0 := by unfold runregE; rw [if_neg (by rw [hrg]; simp [h1])]
      subst hQ
      refine ⟨by rw [e], ?_⟩
      rw [if_pos e]
      refine ⟨[], sm, ss, sr, cm, cs, cr, [], [], TS.nil, TS.nil, ⟨h.m, h.s, h.q, h.dm, h.ds, h.lm, h.lr, h.ls⟩, by simp, H.to fun q => ?_⟩
      simp only [RQ.mem, RQ.cells, List.set_cons_zero, List.set_cons_succ, List.nil_append, List.map_append, List.map_cons, List.sum_append, List.sum_cons]; omega
theorem rmessages_spec (hD : ∀ c ∈ D, c ∈ F) (h : RAt w0 D r sm ss sr cm cs cr) (H : Hp w0 w (r.mem rb sm ss sr cm cs cr F)) :
    Calls Pg 19 ⟨[ptr rb 0]⟩ w fun e w' => ∃ (s' : Value) (c' D' : List Chunk) (ys : List Ms), e = .returned s' ∧ TS cMs 49 s' ys c' ∧ ys.map Ms.say = r.ms.map Ms.say ∧ (∀ y ∈ ys, MsOK w0 D' y) ∧ Hp w0 w' (c' ++ (D' ++ r.mem rb sm ss sr cm cs cr F)) := by
  have hlm := h.lm
  apply F19_calls
  unfold F19 F19_j2 F19_j3
  refine loop3 (F19_l1_succ _) (fun q x0 x3 x4 w => ∃ (i : Nat) (c' D' : List Chunk) (ys : List Ms), x0 = ptr rb 0 ∧ x4 = I (i : Int) ∧ q + i = r.ms.length ∧ TS cMs 49 x3 ys c' ∧ ys.map Ms.say = (r.ms.take i).map Ms.say ∧ (∀ y ∈ ys, MsOK w0 D' y) ∧ Hp w0 w (c' ++ (D' ++ r.mem rb sm ss sr cm cs cr F))) ?_ (m := r.ms.length) ⟨0, [], [], [], rfl, rfl, rfl, TS.nil, rfl, by simp, H⟩
  clear H
  rintro q k _ x3 _ w ⟨i, c', D', ys, rfl, rfl, hqi, hT, hsay, hok, H⟩ hk
  have hyl : ys.length = i := by
    have := congrArg List.length hsay
    rw [List.length_map, List.length_map, List.length_take] at this; omega
  unfold F19_b1
  (try simp only [W0])
  unfold RQ.mem at H
  refine ld_m H (Has.app (Has.app Has.here)) (o := 2) (v := sm) rfl ?_
  refine pv_of (lenS_ts h.m) ?_
  refine lss_k (fun hi => ?_) (fun hi => ?_)
  · (try simp only [W0])
    have hx : r.ms[i]? = some r.ms[i] := List.getElem?_eq_getElem (by omega)
    generalize r.ms[i] = z at hx
    unfold F19_j4
    (try simp only [W0])
    refine ld_m H (Has.app (Has.app Has.here)) (o := 2) (v := sm) rfl ?_
    refine ixN_t (C := cMs) h.m.tr H (fun c hc => List.mem_append_right _ (List.mem_append_right _ (List.mem_cons_of_mem _ (List.mem_append_left _ hc)))) hx (by decide) ?_
    refine cal_h (rcopied_spec (h.dm z (List.mem_of_getElem? hx)) (fun c hc => List.mem_append_right _ (List.mem_append_right _ (mem_RF (hD c hc)))) H) ?_
    rintro _ w ⟨sh, D2, rfl, hok2, H⟩
    (try simp only [W0])
    refine app1_t (C := cMs) (x := { z with sh := sh }) (F := D2 ++ (D' ++ r.mem rb sm ss sr cm cs cr F)) elRMs H hT (Split.app Split.here) rfl (by decide) (by omega) (by omega) fun w s' c3 H h3 => ?_
    refine add_k (z := ((i + 1 : Nat) : Int)) (by omega) (by omega) (by omega) ?_
    refine hk (q - 1) _ _ _ _ (by omega) ⟨i + 1, c3, D2 ++ D', ys ++ [{ z with sh := sh }], rfl, rfl, by omega, h3, ?_, ?_, H.to fun q => ?_⟩
    · rw [List.take_add_one, hx, List.map_append, List.map_append, hsay]; rfl
    · intro y hy
      rcases List.mem_append.1 hy with hy | hy
      · exact (hok y hy).mono fun c hc => List.mem_append_right _ hc
      · rw [List.mem_singleton.1 hy]; exact hok2.mono fun c hc => List.mem_append_left _ hc
    · simp only [List.map_append, List.map_cons, List.sum_append, List.sum_cons]; omega
  · (try simp only [W0])
    unfold F19_j1
    rw [List.take_of_length_le (by omega)] at hsay
    exact ⟨x3, c', D', ys, rfl, hT, hsay, hok, H⟩
end
end Go.Proofs.YthcekppbbanfeaaGreat.Den
