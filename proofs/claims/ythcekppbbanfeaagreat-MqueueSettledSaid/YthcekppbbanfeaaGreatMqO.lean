/- Message queue: Advance, walked. Conditions: none. -/
import Derived.Test.YthcekppbbanfeaaGreatMqN
set_option linter.unusedVariables false
set_option linter.unusedSimpArgs false
set_option maxRecDepth 8000
set_option maxHeartbeats 2000000
namespace Go.Proofs.YthcekppbbanfeaaGreat.Den
open Go Go.RowKit
def Q25.lates (q : Q25) (now : Int) : List Pr := (q.sn.filter fun x => passed now x.dl).map (fun x => (x.th, x.dl)) ++ (q.rc.filter fun x => passed now x.dl).map (fun x => (x.th, x.dl))
def dlK (p : Pr) : Int := p.2
def outE (p : Pr) : En := ⟨p.1, ms0, 37⟩
def Q25.late (q : Q25) (now : Int) : Q25 := { q with now := now, sn := q.sn.filter (fun x => !passed now x.dl), rc := q.rc.filter (fun x => !passed now x.dl) }
/-- What Advance answers. -/
def AdvOK (q : Q25) (now : Int) (r : SRes) : Prop :=
  if now < 0 ∨ 1099511627776 < now then r = ⟨false, [], [], 34, q⟩ else if now < q.now then r = ⟨false, [], [], 30, q⟩
  else ∃ C, Srt dlK C ∧ Same dlK (q.lates now) C ∧ r = ⟨false, C.map outE, [], 0, q.late now⟩
theorem elLate : ElT 133 136 cPr.sz 16 [I 0, I 0] := ⟨by kernel_rfl, by kernel_rfl, rfl⟩
section
variable {w w' w0 : World} {L L' F cs cs2 A X Y cm cr D : List Chunk} {s s2 sm sr ss : Value} {K : VK} {R : ER} {b i j qb : Nat} {q : Q25} {m : Ms} {th dl now : Int} {wait : Bool}
theorem cmpAdv : CmpLate dlK 69 := by
  refine ⟨by kernel_rfl, fun x y w0 w L H => ?_⟩
  apply F69_calls
  unfold F69
  refine bx_m (vs := x.enc) H fun w b1 H => ?_
  refine bx_m (vs := y.enc) H fun w b2 H => ?_
  (try simp only [W0])
  refine ld_m H (Has.cons Has.here) (o := 1) (v := I x.2) rfl ?_
  (try simp only [W0])
  refine ld_m H Has.here (o := 1) (v := I y.2) rfl ?_
  refine cal_h (cmp6_spec H) ?_
  rintro _ w ⟨rfl, H⟩
  exact ⟨_, (by first | rfl | trivial), cmpZ_lt _ _, H.tail.tail⟩
theorem adv_spec (hq : QAt w0 D q sm sr ss cm cr cs) (H : Hp w0 w (q.mem qb sm sr ss cm cr cs F)) :
    Calls Pg 32 ⟨[ptr qb 0, I now]⟩ w fun e w' => ∃ (r : SRes) (se : Value), AdvOK q now r ∧ e = .returned (.tuple ⟨[se, .slice none 0 0, I r.err]⟩) ∧ After w0 w' D F qb r.q r.es [] se (.slice none 0 0) := by
  generalize hQ : (fun (e : Ending) (w' : World) => ∃ (r : SRes) (se : Value), AdvOK q now r ∧ e = .returned (.tuple ⟨[se, .slice none 0 0, I r.err]⟩) ∧ After w0 w' D F qb r.q r.es [] se (.slice none 0 0) : ER) = Q
  have lr := hq.lr
  have ls := hq.ls
  have hsr : scalar sr = true := hq.r.sc
  have hss : scalar ss = true := hq.s.sc
  have quiet : ∀ (w : World) (err : Int), AdvOK q now ⟨false, [], [], err, q⟩ → Hp w0 w (q.mem qb sm sr ss cm cr cs F) → Q (.returned (.tuple ⟨[.slice none 0 0, .slice none 0 0, I err]⟩)) w := by
    intro w err h H
    subst hQ
    exact ⟨_, .slice none 0 0, h, rfl, After.same hq H⟩
  apply F32_calls
  unfold F32 F32_j14
  (try simp only [W0])
  unfold F32_j15
  (try simp only [W0])
  unfold F32_j16
  refine lss_k (fun h1 => ?_) (fun h1 => ?_)
  · (try simp only [W0])
    unfold F32_j17
    (try simp only [W0])
    exact quiet w 34 (by unfold AdvOK; rw [if_pos (.inl h1)]) H
  (try simp only [W0])
  refine gtr_k (fun h2 => ?_) (fun h2 => ?_)
  · (try simp only [W0])
    unfold F32_j17
    (try simp only [W0])
    exact quiet w 34 (by unfold AdvOK; rw [if_pos (.inr h2)]) H
  (try simp only [W0])
  have e1 : ¬ (now < 0 ∨ 1099511627776 < now) := by omega
  unfold F32_j17
  (try simp only [W0])
  unfold F32_j18
  (try simp only [W0])
  unfold Q25.mem at H
  refine ld_m H Has.here (o := 4) (v := I q.now) rfl ?_
  refine lss_k (fun h3 => ?_) (fun h3 => ?_)
  · (try simp only [W0])
    exact quiet w 30 (by unfold AdvOK; rw [if_neg e1, if_pos h3]) H
  (try simp only [W0])
  unfold F32_j1
  (try simp only [W0])
  refine st_m (o := 4) H Upd.here (by simp [Q25.rest]) rfl fun w H => ?_
  unfold F32_j11
  (try simp only [W0])
  have H2 : Hp w0 w (⟨qb, .t 62, sm :: ({ q with now := now } : Q25).rest sr ss⟩ :: (cs ++ (cm ++ (cr ++ F)))) := H.to fun q => by simp only [Q25.rest, List.set_cons_zero, List.set_cons_succ, List.map_append, List.map_cons, List.sum_append, List.sum_cons]; omega
  refine cal_h (lateS_spec (o := 6) hq.s rfl (by simp [Q25.rest]) (by omega) H2) ?_
  clear H H2
  rintro _ w ⟨ss', cs', s1, c1, rfl, h1s, hS, H⟩
  (try simp only [W0])
  refine pv_of (lenS_ts h1s) ?_
  have hl1 : (q.sn.filter fun x => passed now x.dl).length ≤ 64 := Nat.le_trans (List.length_filter_le _ _) ls
  have hl2 : (q.rc.filter fun x => passed now x.dl).length ≤ 64 := Nat.le_trans (List.length_filter_le _ _) lr
  unfold F32_j12
  have hb6 : (sm :: ({ q with now := now } : Q25).rest sr ss).set 6 ss' = sm :: ({ q with now := now } : Q25).rest sr ss' := rfl
  rw [hb6] at H
  generalize hxs : (q.sn.filter fun x => passed now x.dl) = xs at *
  generalize hys : (q.rc.filter fun x => passed now x.dl) = ys at *
  refine loop6 (F32_l3_succ _) (fun m x0 x1 x7 x40 x41 x42 w => ∃ (i : Nat) (ca : List Chunk), x0 = ptr qb 0 ∧ x1 = I now ∧ x40 = s1 ∧ x41 = I (xs.length : Int) ∧ x42 = I (i : Int) ∧ m + i = xs.length ∧ TS cPr 136 x7 ((xs.take i).map fun x => (x.th, x.dl)) ca ∧
    Hp w0 w (ca ++ (c1 ++ (⟨qb, .t 62, sm :: ({ q with now := now } : Q25).rest sr ss'⟩ :: (cs' ++ (cm ++ (cr ++ F))))))) ?_ (m := xs.length) ⟨0, [], rfl, rfl, rfl, rfl, rfl, rfl, TS.nil, H⟩
  clear H
  rintro m k _ _ x7 _ _ _ w ⟨i, ca, rfl, rfl, rfl, rfl, rfl, hm, hT, H⟩ hk
  unfold F32_b3
  refine lss_k (fun hi => ?_) (fun hi => ?_)
  · (try simp only [W0])
    have hx : xs[i]? = some xs[i] := List.getElem?_eq_getElem (by omega)
    generalize xs[i] = x at hx
    unfold F32_j13
    refine ixN_t (C := cSw) h1s.tr H (fun c hc => List.mem_append_right _ (List.mem_append_left _ hc)) hx (by decide) ?_
    refine al_m (ys := zvS) H (by kernel_rfl) fun w b4 H => ?_
    refine stA_m (vs := x.enc) H Upd.here rfl rfl (cSw.sc x) fun w H => ?_
    (try simp only [W0])
    refine ld_m H Has.here (o := 0) (v := I x.th) rfl ?_
    (try simp only [W0])
    refine ld_m H Has.here (o := 1) (v := I x.dl) rfl ?_
    refine bld_a ?_
    refine app1_t (C := cPr) (x := (x.th, x.dl)) (F := ⟨b4, .t 113, x.enc⟩ :: (c1 ++ (⟨qb, .t 62, sm :: ({ q with now := now } : Q25).rest sr ss'⟩ :: (cs' ++ (cm ++ (cr ++ F)))))) elLate H hT (Split.cons Split.here) rfl (by decide) (by rw [List.length_map, List.length_take]; omega) (by rw [List.length_map, List.length_take]; omega) fun w s' c3 H h3 => ?_
    refine add_k (z := ((i + 1 : Nat) : Int)) (by omega) (by omega) (by omega) ?_
    refine hk (m - 1) _ _ _ _ _ _ _ (by omega) ⟨i + 1, c3, rfl, rfl, rfl, rfl, rfl, by omega, ?_, H.to fun q => ?_⟩
    · rw [List.take_add_one, hx, List.map_append]; exact h3
    · simp only [List.map_append, List.map_cons, List.sum_append, List.sum_cons]; omega
  (try simp only [W0])
  rw [List.take_of_length_le (by omega)] at hT
  clear hk hi
  unfold F32_j2 F32_j8
  (try simp only [W0])
  have H2 : Hp w0 w (⟨qb, .t 62, sm :: ({ q with now := now } : Q25).rest sr ss'⟩ :: (cr ++ (ca ++ (cm ++ (cs' ++ F))))) := H.to fun q => by simp only [List.map_append, List.map_cons, List.sum_append, List.sum_cons]; omega
  refine cal_h (lateR_spec (o := 5) hq.r rfl (by simp [Q25.rest]) (by omega) H2) ?_
  clear H H2
  rintro _ w ⟨sr', cr', s2, c2, rfl, h2s, hR, H⟩
  rw [hys] at h2s
  (try simp only [W0])
  refine pv_of (lenS_ts h2s) ?_
  unfold F32_j9
  have hb5 : (sm :: ({ q with now := now } : Q25).rest sr ss').set 5 sr' = sm :: ({ q with now := now } : Q25).rest sr' ss' := rfl
  rw [hb5] at H
  refine loop4 (F32_l2_succ _) (fun m x7 x59 x60 x61 w => ∃ (i : Nat) (ca : List Chunk), x59 = s2 ∧ x60 = I (ys.length : Int) ∧ x61 = I (i : Int) ∧ m + i = ys.length ∧ TS cPr 136 x7 ((xs.map fun x => (x.th, x.dl)) ++ (ys.take i).map fun x => (x.th, x.dl)) ca ∧
    Hp w0 w (ca ++ (c2 ++ (⟨qb, .t 62, sm :: ({ q with now := now } : Q25).rest sr' ss'⟩ :: (cr' ++ (cm ++ (cs' ++ F))))))) ?_ (m := ys.length) ⟨0, ca, rfl, rfl, rfl, rfl, by simpa using hT, H.to fun q => by simp only [List.map_append, List.map_cons, List.sum_append, List.sum_cons]; omega⟩
  clear H hT
  rintro m k x7 _ _ _ w ⟨i, ca, rfl, rfl, rfl, hm, hT, H⟩ hk
  unfold F32_b2
  refine lss_k (fun hi => ?_) (fun hi => ?_)
  · (try simp only [W0])
    have hx : ys[i]? = some ys[i] := List.getElem?_eq_getElem (by omega)
    generalize ys[i] = x at hx
    unfold F32_j10
    refine ixN_t (C := cRw) h2s.tr H (fun c hc => List.mem_append_right _ (List.mem_append_left _ hc)) hx (by decide) ?_
    refine al_m (ys := zvR) H (by kernel_rfl) fun w b4 H => ?_
    refine stA_m (vs := x.enc) H Upd.here rfl rfl (cRw.sc x) fun w H => ?_
    (try simp only [W0])
    refine ld_m H Has.here (o := 0) (v := I x.th) rfl ?_
    (try simp only [W0])
    refine ld_m H Has.here (o := 1) (v := I x.dl) rfl ?_
    refine bld_a ?_
    refine app1_t (C := cPr) (x := (x.th, x.dl)) (F := ⟨b4, .t 115, x.enc⟩ :: (c2 ++ (⟨qb, .t 62, sm :: ({ q with now := now } : Q25).rest sr' ss'⟩ :: (cr' ++ (cm ++ (cs' ++ F)))))) elLate H hT (Split.cons Split.here) rfl (by decide) (by rw [List.length_append, List.length_map, List.length_map, List.length_take]; omega) (by rw [List.length_append, List.length_map, List.length_map, List.length_take]; omega) fun w s' c3 H h3 => ?_
    refine add_k (z := ((i + 1 : Nat) : Int)) (by omega) (by omega) (by omega) ?_
    refine hk (m - 1) _ _ _ _ _ (by omega) ⟨i + 1, c3, rfl, rfl, rfl, by omega, ?_, H.to fun q => ?_⟩
    · rw [List.take_add_one, hx, List.map_append, ← List.append_assoc]; exact h3
    · simp only [List.map_append, List.map_cons, List.sum_append, List.sum_cons]; omega
  (try simp only [W0])
  rw [List.take_of_length_le (by omega)] at hT
  clear hk hi
  unfold F32_j3
  refine cal_h (sortLate_spec cmpAdv hT (by rw [List.length_append, List.length_map, List.length_map]; omega) H) ?_
  clear H hT
  rintro _ w ⟨C, cc, rfl, hT, hsrt, hsame, H⟩
  (try simp only [W0])
  have hCl : C.length ≤ 128 := by rw [hsame.len, List.length_append, List.length_map, List.length_map]; omega
  unfold F32_j5
  refine pv_of (lenS_ts hT) ?_
  unfold F32_j6
  refine loop4 (F32_l1_succ _) (fun m x12 x76 x77 x78 w => ∃ (i : Nat) (ce : List Chunk), x76 = x7 ∧ x77 = I (C.length : Int) ∧ x78 = I (i : Int) ∧ m + i = C.length ∧ TS cEn 119 x12 ((C.take i).map outE) ce ∧
    Hp w0 w (ce ++ (cc ++ (c2 ++ (⟨qb, .t 62, sm :: ({ q with now := now } : Q25).rest sr' ss'⟩ :: (cr' ++ (cm ++ (cs' ++ F)))))))) ?_ (m := C.length) ⟨0, [], rfl, rfl, rfl, rfl, TS.nil, H⟩
  clear H
  rintro m k x12 _ _ _ w ⟨i, ce, rfl, rfl, rfl, hm, hE, H⟩ hk
  unfold F32_b1
  refine lss_k (fun hi => ?_) (fun hi => ?_)
  · (try simp only [W0])
    have hx : C[i]? = some C[i] := List.getElem?_eq_getElem (by omega)
    generalize C[i] = x at hx
    unfold F32_j7
    refine ixN_t (C := cPr) hT.tr H (fun c hc => List.mem_append_right _ (List.mem_append_left _ hc)) hx (by decide) ?_
    refine al_m (ys := [I 0, I 0]) H (by kernel_rfl) fun w b4 H => ?_
    refine stA_m (vs := x.enc) H Upd.here rfl rfl (cPr.sc x) fun w H => ?_
    (try simp only [W0])
    refine ld_m H Has.here (o := 0) (v := I x.1) rfl ?_
    refine bld_a ?_
    refine app1_t (C := cEn) (x := outE x) (F := ⟨b4, .t 136, x.enc⟩ :: (cc ++ (c2 ++ (⟨qb, .t 62, sm :: ({ q with now := now } : Q25).rest sr' ss'⟩ :: (cr' ++ (cm ++ (cs' ++ F))))))) elEn H hE (Split.cons Split.here) rfl (by decide) (by rw [List.length_map, List.length_take]; omega) (by rw [List.length_map, List.length_take]; omega) fun w s' c3 H h3 => ?_
    refine add_k (z := ((i + 1 : Nat) : Int)) (by omega) (by omega) (by omega) ?_
    refine hk (m - 1) _ _ _ _ _ (by omega) ⟨i + 1, c3, rfl, rfl, rfl, by omega, ?_, H.to fun q => ?_⟩
    · rw [List.take_add_one, hx, List.map_append]; exact h3
    · simp only [List.map_append, List.map_cons, List.sum_append, List.sum_cons]; omega
  (try simp only [W0])
  rw [List.take_of_length_le (by omega)] at hE
  unfold F32_j4
  subst hQ
  have hlates : q.lates now = (xs.map fun x => (x.th, x.dl)) ++ (ys.map fun x => (x.th, x.dl)) := by unfold Q25.lates; rw [hxs, hys]
  refine ⟨⟨false, C.map outE, [], 0, q.late now⟩, x12, ?_, rfl, [], sm, sr', ss', cm, cr', cs', ce, [], hE, TS.nil, ⟨hq.m, hR, hS, hq.dm, fun k hk => hq.ds k (List.mem_filter.1 hk).1, hq.n, hq.lm, Nat.le_trans (List.length_filter_le _ _) lr, Nat.le_trans (List.length_filter_le _ _) ls⟩, ?_, H.to fun q => ?_⟩
  · unfold AdvOK
    rw [if_neg e1, if_neg h3, hlates]
    exact ⟨C, hsrt, hsame, rfl⟩
  · intro e he
    obtain ⟨p, _, rfl⟩ := List.mem_map.1 he
    exact ⟨TR.nil, by simp [outE, ms0]⟩
  · simp only [Q25.mem, Q25.rest, Q25.late, List.nil_append, List.map_append, List.map_cons, List.sum_append, List.sum_cons]; omega
end
end Go.Proofs.YthcekppbbanfeaaGreat.Den
