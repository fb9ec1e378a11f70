/- Message queue: Send, Receive. Conditions: none. -/
import Derived.Test.YthcekppbbanfeaaGreatMqE
set_option linter.unusedVariables false
set_option linter.unusedSimpArgs false
set_option maxRecDepth 8000
set_option maxHeartbeats 1000000
namespace Go.Proofs.YthcekppbbanfeaaGreat.Den
open Go Go.RowKit
structure SRes where
  blk : Bool
  es : List En
  ns : List Nc
  err : Int
  q : Q25
def Q25.send (q : Q25) (th : Int) (m : Ms) (wait : Bool) (dl : Int) : SRes :=
  if validT th dl = false ∨ m.pri < 0 ∨ 31 < m.pri then ⟨false, [], [], 34, q⟩
  else if q.size < (m.bs.length : Int) then ⟨false, [], [], 20, q⟩
  else if q.blocked th = true then ⟨false, [], [], 5, q⟩
  else if (q.ms.length : Int) < q.max then ⟨false, (q.put m).1.1, (q.put m).1.2, 0, (q.put m).2⟩
  else if blockE q wait dl (q.sn.length : Int) ≠ 0 then ⟨false, [], [], blockE q wait dl (q.sn.length : Int), q⟩
  else ⟨true, [], [], 0, { q with sn := q.sn ++ [⟨th, dl, m⟩] }⟩
def ms0 : Ms := ⟨0, ⟨none, 0, 0⟩, []⟩
structure RRes where
  m : Ms
  r : SRes
def Q25.recv (q : Q25) (th : Int) (wait : Bool) (dl : Int) (cp : Ms → Ms) : RRes :=
  if validT th dl = false then ⟨ms0, ⟨false, [], [], 34, q⟩⟩
  else if q.blocked th = true then ⟨ms0, ⟨false, [], [], 5, q⟩⟩
  else match (popK q.ms)[q.ms.length - 1]? with
    | none => if blockE q wait dl (q.rc.length : Int) ≠ 0 then ⟨ms0, ⟨false, [], [], blockE q wait dl (q.rc.length : Int), q⟩⟩ else ⟨ms0, ⟨true, [], [], 0, { q with rc := q.rc ++ [⟨th, dl⟩] }⟩⟩
    | some x => match q.sn with
      | [] => ⟨x.m, ⟨false, [], [], 0, { q with ms := (popK q.ms).take (q.ms.length - 1) }⟩⟩
      | y :: ys => ⟨x.m, ⟨false, [⟨y.th, ms0, 0⟩], (({ q with ms := (popK q.ms).take (q.ms.length - 1), sn := ys } : Q25).put (cp y.m)).1.2, 0, (({ q with ms := (popK q.ms).take (q.ms.length - 1), sn := ys } : Q25).put (cp y.m)).2⟩⟩
theorem blockE_lim {q : Q25} {wait : Bool} {dl n : Int} (h : blockE q wait dl n = 0) : n < 64 := by
  unfold blockE at h
  split at h
  · cases h
  split at h
  · cases h
  split at h
  · cases h
  · omega
section
variable {w w' w0 : World} {L L' F cs cs2 A X Y cm cr D : List Chunk} {s s2 sm sr ss : Value} {K : VK} {R : ER} {b i j qb : Nat} {q : Q25} {m : Ms} {th dl : Int} {wait : Bool}
theorem After.same (hq : QAt w0 D q sm sr ss cm cr cs) (H : Hp w0 w (q.mem qb sm sr ss cm cr cs F)) : After w0 w D F qb q [] [] (.slice none 0 0) (.slice none 0 0) :=
  ⟨[], sm, sr, ss, cm, cr, cs, [], [], TS.nil, TS.nil, hq, by simp, H⟩
theorem QAt.grow {D' : List Chunk} (hq : QAt w0 D q sm sr ss cm cr cs) : QAt w0 (D' ++ D) q sm sr ss cm cr cs :=
  ⟨hq.m, hq.r, hq.s, fun k hk => (hq.dm k hk).mono fun c hc => List.mem_append_right _ hc, fun k hk => (hq.ds k hk).mono fun c hc => List.mem_append_right _ hc, fun x hx => (hq.n x hx).app, hq.lm, hq.lr, hq.ls⟩
theorem After.drop {c : Chunk} {es : List En} {ns : List Nc} {se sn : Value} (h : After w0 w D (c :: F) qb q es ns se sn) : After w0 w D F qb q es ns se sn := by
  obtain ⟨D', sm, sr, ss, cm, cr, cs, ce, cn, h1, h2, h3, h4, H⟩ := h
  refine ⟨D', sm, sr, ss, cm, cr, cs, ce, cn, h1, h2, h3, h4, H.to fun q => ?_⟩
  simp only [Q25.mem, List.map_append, List.map_cons, List.sum_append, List.sum_cons]; omega
theorem send_spec (hm : MsOK w0 D m) (hD : ∀ c ∈ D, c ∈ F) (hq : QAt w0 D q sm sr ss cm cr cs) (hmx : q.max ≤ 64) (hnum : 0 ≤ q.num ∧ q.num < 2 ^ 60) (H : Hp w0 w (q.mem qb sm sr ss cm cr cs F)) :
    Calls Pg 23 ⟨[ptr qb 0, I th, .agg ⟨m.enc⟩, .bool wait, I dl]⟩ w fun e w' => ∃ (sh : Sh) (se sn : Value), e = .returned (.tuple ⟨[.bool (q.send th { m with sh := sh } wait dl).blk, se, sn, I (q.send th { m with sh := sh } wait dl).err]⟩) ∧
      After w0 w' D F qb (q.send th { m with sh := sh } wait dl).q (q.send th { m with sh := sh } wait dl).es (q.send th { m with sh := sh } wait dl).ns se sn := by
  generalize hQ : (fun (e : Ending) (w' : World) => ∃ (sh : Sh) (se sn : Value), e = .returned (.tuple ⟨[.bool (q.send th { m with sh := sh } wait dl).blk, se, sn, I (q.send th { m with sh := sh } wait dl).err]⟩) ∧
      After w0 w' D F qb (q.send th { m with sh := sh } wait dl).q (q.send th { m with sh := sh } wait dl).es (q.send th { m with sh := sh } wait dl).ns se sn : ER) = Q
  have hsr : scalar sr = true := hq.r.sc
  have hss : scalar ss = true := hq.s.sc
  have hsm : scalar sm = true := hq.m.sc
  apply F23_calls
  unfold F23
  refine bx_m (vs := m.enc) H fun w b1 H => ?_
  replace H : Hp w0 w (q.mem qb sm sr ss cm cr cs (⟨b1, .t 43, m.enc⟩ :: F)) := H.to fun q => by simp only [Q25.mem, List.map_append, List.map_cons, List.sum_append, List.sum_cons]; omega
  have hb1 : ∀ {A : List Chunk} {l : List Value}, Has (⟨qb, .t 62, l⟩ :: (cm ++ (cr ++ (cs ++ (⟨b1, .t 43, m.enc⟩ :: F))))) b1 (.t 43) m.enc := fun {A l} => Has.cons (Has.app (Has.app (Has.app Has.here)))
  have quiet : ∀ (w : World) (err : Int), (∀ sh, q.send th { m with sh := sh } wait dl = ⟨false, [], [], err, q⟩) → Hp w0 w (q.mem qb sm sr ss cm cr cs (⟨b1, .t 43, m.enc⟩ :: F)) → Q (.returned (.tuple ⟨[.bool false, .slice none 0 0, .slice none 0 0, I err]⟩)) w := by
    intro w err h H
    subst hQ
    refine ⟨m.sh, .slice none 0 0, .slice none 0 0, ?_⟩
    rw [h]
    exact ⟨rfl, After.drop (After.same hq H)⟩
  unfold F23_j8
  (try simp only [W0])
  unfold F23_j9
  (try simp only [W0])
  unfold F23_j10
  refine cal_h (valid_spec H) ?_
  rintro _ w ⟨rfl, H⟩
  (try simp only [W0])
  cases hv : validT th dl with
  | false =>
    (try simp only [W0])
    unfold F23_j11
    (try simp only [W0])
    exact quiet w 34 (fun sh => by unfold Q25.send; rw [if_pos (.inl hv)]) H
  | true =>
  (try simp only [W0])
  have h0 := H
  unfold Q25.mem at H
  refine ld_m H (hb1 (A := [])) (o := 0) (v := I m.pri) rfl ?_
  refine lss_k (fun h1 => ?_) (fun h1 => ?_)
  · (try simp only [W0])
    unfold F23_j11
    (try simp only [W0])
    exact quiet w 34 (fun sh => by unfold Q25.send; rw [if_pos (.inr (.inl h1))]) H
  (try simp only [W0])
  refine ld_m H (hb1 (A := [])) (o := 0) (v := I m.pri) rfl ?_
  refine gtr_k (fun h2 => ?_) (fun h2 => ?_)
  · (try simp only [W0])
    unfold F23_j11
    (try simp only [W0])
    exact quiet w 34 (fun sh => by unfold Q25.send; rw [if_pos (.inr (.inr h2))]) H
  (try simp only [W0])
  have e1 : ¬ (validT th dl = false ∨ m.pri < 0 ∨ 31 < m.pri) := by rw [hv]; simp; omega
  unfold F23_j11
  (try simp only [W0])
  unfold F23_j12
  refine drew_k H fun w H => ?_
  (try simp only [W0])
  refine ld_m H (hb1 (A := [])) (o := 1) (v := m.sh.val) rfl ?_
  refine pv_of (lenS_tr hm.1) ?_
  (try simp only [W0])
  refine ld_m H Has.here (o := 2) (v := I q.size) rfl ?_
  refine gtr_k (fun h3 => ?_) (fun h3 => ?_)
  · (try simp only [W0])
    exact quiet w 20 (fun sh => by unfold Q25.send; rw [if_neg e1, if_pos h3]) H
  (try simp only [W0])
  refine cal_h (blocked_spec hq H) ?_
  rintro _ w ⟨rfl, H⟩
  (try simp only [W0])
  cases hb : q.blocked th with
  | true =>
    (try simp only [W0])
    exact quiet w 5 (fun sh => by unfold Q25.send; rw [if_neg e1, if_neg h3, if_pos hb]) H
  | false =>
  (try simp only [W0])
  have hb' : ¬ q.blocked th = true := by rw [hb]; decide
  unfold F23_j1 F23_j5
  refine drew_k H fun w H => ?_
  unfold Q25.mem at H
  have c1 : w.cell? ⟨qb, 1, none⟩ = some (I q.max) := H.cellM (t := 62) (l := sm :: q.rest sr ss) Has.here rfl
  (try simp only [W0])
  refine ld_m H Has.here (o := 0) (v := sm) rfl ?_
  refine cal_h (len_spec hq.m.tr H) ?_
  rintro _ w ⟨rfl, H⟩
  (try simp only [W0])
  refine ldS_m H Has.here (o := 1) (v := I q.max) rfl (by intro z hz; rw [List.mem_singleton.1 hz]; exact c1) ?_
  refine lss_k (fun h4 => ?_) (fun h4 => ?_)
  · (try simp only [W0])
    unfold F23_j6
    (try simp only [W0])
    unfold F23_j7
    refine ldA_m (l := m.enc) H (hb1 (A := [])) rfl ?_
    refine cal_h (put_spec (q := q) (F := ⟨b1, .t 43, m.enc⟩ :: F) hm (fun c hc => List.mem_cons_of_mem _ (hD c hc)) hq (.inr (by omega)) hnum H) ?_
    rintro _ w ⟨sh, se, sn, rfl, HA⟩
    (try simp only [W0])
    have e : q.send th { m with sh := sh } wait dl = ⟨false, (q.put { m with sh := sh }).1.1, (q.put { m with sh := sh }).1.2, 0, (q.put { m with sh := sh }).2⟩ := by
      unfold Q25.send; rw [if_neg e1, if_neg h3, if_neg hb', if_pos h4]
    subst hQ
    refine ⟨sh, se, sn, ?_⟩
    rw [e]
    exact ⟨rfl, HA.drop⟩
  · (try simp only [W0])
    unfold F23_j6
    (try simp only [W0])
    unfold F23_j2 F23_j4
    (try simp only [W0])
    refine ld_m H Has.here (o := 6) (v := ss) rfl ?_
    refine pv_of (lenS_ts hq.s) ?_
    refine cal_h (block_spec (q := q) (l := sm :: q.rest sr ss) Has.here rfl H) ?_
    rintro _ w ⟨rfl, H⟩
    (try simp only [W0])
    refine neq_k (fun h5 => ?_) (fun h5 => ?_)
    · (try simp only [W0])
      exact quiet w _ (fun sh => by unfold Q25.send; rw [if_neg e1, if_neg h3, if_neg hb', if_neg h4, if_pos h5]) H
    · (try simp only [W0])
      have hlim := blockE_lim h5
      unfold F23_j3
      refine drew_k H fun w H => ?_
      (try simp only [W0])
      refine ld_m H Has.here (o := 6) (v := ss) rfl ?_
      refine ldA_m (l := m.enc) H (hb1 (A := [])) rfl ?_
      (try simp only [W0])
      refine cal_h (copied_spec hm (fun c hc => List.mem_cons_of_mem _ (List.mem_append_right _ (List.mem_append_right _ (List.mem_append_right _ (List.mem_cons_of_mem _ (hD c hc)))))) H) ?_
      rintro _ w ⟨sh, D', rfl, hok, H⟩
      (try simp only [W0])
      refine rd1_m H (Has.app Has.here) (o := 6) rfl ?_
      refine bld_a ?_
      refine lit1_t (C := cSw) (x := ⟨th, dl, { m with sh := sh }⟩) elSw H rfl (by decide) fun w sx cx H hx => ?_
      refine rd1_m H (Has.app (Has.app Has.here)) (o := 6) rfl ?_
      refine append_t (C := cSw) (F := cx ++ (D' ++ (⟨qb, .t 62, sm :: q.rest sr ss⟩ :: (cm ++ (cr ++ (⟨b1, .t 43, m.enc⟩ :: F)))))) elSw H hq.s (Split.app (Split.app (Split.cons (Split.app (Split.app Split.here))))) hx.tr (fun c hc => List.mem_append_left _ hc) (by have := hq.ls; simp; omega) (by have := hq.ls; simp; omega) fun w ss' cs' H hs' => ?_
      have hss' : scalar ss' = true := hs'.sc
      (try simp only [W0])
      refine st_m (o := 6) H (Upd.app (Upd.app (Upd.app Upd.here))) (by simp [Q25.rest]) hss' fun w H => ?_
      have e : q.send th { m with sh := sh } wait dl = ⟨true, [], [], 0, { q with sn := q.sn ++ [⟨th, dl, { m with sh := sh }⟩] }⟩ := by
        unfold Q25.send; rw [if_neg e1, if_neg h3, if_neg hb', if_neg h4, if_neg (by simpa using h5)]
      subst hQ
      refine ⟨sh, .slice none 0 0, .slice none 0 0, ?_⟩
      rw [e]
      refine ⟨rfl, D', sm, sr, ss', cm, cr, cs', [], [], TS.nil, TS.nil, ⟨hq.m, hq.r, hs', hq.grow.dm, fun k hk => ?_, hq.grow.n, hq.lm, hq.lr, by simp; omega⟩, by simp, H.to fun q => ?_⟩
      · rcases List.mem_append.1 hk with hk | hk
        · exact hq.grow.ds k hk
        · rw [List.mem_singleton.1 hk]; exact hok.mono fun c hc => List.mem_append_left _ hc
      · simp only [Q25.mem, Q25.rest, List.set_cons_zero, List.set_cons_succ, List.nil_append, List.map_append, List.map_cons, List.sum_append, List.sum_cons]; omega
end
end Go.Proofs.YthcekppbbanfeaaGreat.Den
