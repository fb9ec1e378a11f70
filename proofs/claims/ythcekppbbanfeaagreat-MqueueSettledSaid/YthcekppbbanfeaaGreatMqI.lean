/- Message queue: Cancel, Register, Unregister, Now, Senders, Receivers. Conditions: none. -/
import Derived.Test.YthcekppbbanfeaaGreatMqH
set_option linter.unusedVariables false
set_option linter.unusedSimpArgs false
set_option maxRecDepth 8000
set_option maxHeartbeats 2000000
namespace Go.Proofs.YthcekppbbanfeaaGreat.Den
open Go Go.RowKit
theorem filter_th {α : Type} {f : α → Int} {th : Int} {l : List α} (h : th ∉ l.map f) : (l.filter fun x => !decide (f x = th)) = l := by
  rw [List.filter_eq_self]
  intro a ha
  have : f a ≠ th := fun e => h (e ▸ List.mem_map_of_mem ha)
  simp [this]
section
variable {w w' w0 : World} {L L' F cs cs2 A X Y cm cr D : List Chunk} {s s2 sm sr ss : Value} {K : VK} {R : ER} {b i j qb : Nat} {q : Q25} {m : Ms} {th dl : Int} {wait : Bool}
theorem cancel_spec (hq : QAt w0 D q sm sr ss cm cr cs) (H : Hp w0 w (q.mem qb sm sr ss cm cr cs F)) :
    Calls Pg 30 ⟨[ptr qb 0, I th]⟩ w fun e w' => ∃ (se : Value), e = .returned (.tuple ⟨[se, .slice none 0 0, I (q.cancel th).err]⟩) ∧ After w0 w' D F qb (q.cancel th).q (q.cancel th).es [] se (.slice none 0 0) := by
  generalize hQ : (fun (e : Ending) (w' : World) => ∃ (se : Value), e = .returned (.tuple ⟨[se, .slice none 0 0, I (q.cancel th).err]⟩) ∧ After w0 w' D F qb (q.cancel th).q (q.cancel th).es [] se (.slice none 0 0) : ER) = Q
  have lr := hq.lr
  have ls := hq.ls
  apply F30_calls
  unfold F30
  (try simp only [W0])
  unfold Q25.mem at H
  replace H : Hp w0 w (⟨qb, .t 62, sm :: q.rest sr ss⟩ :: (cs ++ (cm ++ (cr ++ F)))) := H.to fun q => by simp only [List.map_append, List.map_cons, List.sum_append, List.sum_cons]; omega
  refine cal_h (dropS_spec (o := 6) hq.s rfl (by simp [Q25.rest]) (by omega) H) ?_
  rintro _ w ⟨ss', cs', rfl, hS, H⟩
  (try simp only [W0])
  have fin : ∀ w (q' : Q25) sm sr ss cm cr cs, q.cancel th = ⟨false, [⟨th, ms0, 13⟩], [], 0, q'⟩ → QAt w0 D q' sm sr ss cm cr cs → Hp w0 w (q'.mem qb sm sr ss cm cr cs F) → (pv (bldO [I 0, I 0, .slice none 0 0, I 0] [(0, 1, I th), (3, 1, I 13)]) fun v13 => valV Pg Q (Instr.buildSlice 65 1 ⟨[(0, v13)]⟩) fun v14 => Q (.returned (.tuple ⟨[v14, .slice none 0 0, I 0]⟩))) w := by
    intro w q' sm sr ss cm cr cs e hq' H
    refine bld_a ?_
    refine lit1_t (C := cEn) (x := ⟨th, ms0, 13⟩) elEn H rfl (by decide) fun w sx cx H hx2 => ?_
    subst hQ
    refine ⟨sx, ?_⟩
    rw [e]
    refine ⟨rfl, [], sm, sr, ss, cm, cr, cs, cx, [], hx2, TS.nil, hq', ?_, H⟩
    intro z hz
    rw [List.mem_singleton.1 hz]
    exact ⟨TR.nil, by simp [ms0]⟩
  by_cases h1 : th ∈ q.sn.map Sw.th
  · rw [decide_eq_true h1]
    (try simp only [W0])
    refine fin w { q with sn := q.sn.filter fun x => !decide (x.th = th) } sm sr ss' cm cr cs' (by unfold Q25.cancel; rw [if_pos h1]) ⟨hq.m, hq.r, hS, hq.dm, fun k hk => hq.ds k (List.mem_filter.1 hk).1, hq.n, hq.lm, hq.lr, Nat.le_trans (List.length_filter_le _ _) hq.ls⟩ (H.to fun q => ?_)
    simp only [Q25.mem, Q25.rest, List.set_cons_zero, List.set_cons_succ, List.map_append, List.map_cons, List.sum_append, List.sum_cons]; omega
  · rw [decide_eq_false h1]
    rw [filter_th h1] at hS
    (try simp only [W0])
    replace H : Hp w0 w (⟨qb, .t 62, sm :: q.rest sr ss'⟩ :: (cr ++ (cm ++ (cs' ++ F)))) := H.to fun q => by simp only [Q25.rest, List.set_cons_zero, List.set_cons_succ, List.map_append, List.map_cons, List.sum_append, List.sum_cons]; omega
    refine cal_h (dropR_spec (o := 5) hq.r rfl (by simp [Q25.rest]) (by omega) H) ?_
    rintro _ w ⟨sr', cr', rfl, hR, H⟩
    (try simp only [W0])
    by_cases h2 : th ∈ q.rc.map Rw.th
    · rw [decide_eq_true h2]
      (try simp only [W0])
      refine fin w { q with rc := q.rc.filter fun x => !decide (x.th = th) } sm sr' ss' cm cr' cs' (by unfold Q25.cancel; rw [if_neg h1, if_pos h2]) ⟨hq.m, hR, hS, hq.dm, hq.ds, hq.n, hq.lm, Nat.le_trans (List.length_filter_le _ _) hq.lr, hq.ls⟩ (H.to fun q => ?_)
      simp only [Q25.mem, Q25.rest, List.set_cons_zero, List.set_cons_succ, List.map_append, List.map_cons, List.sum_append, List.sum_cons]; omega
    · rw [decide_eq_false h2]
      rw [filter_th h2] at hR
      (try simp only [W0])
      subst hQ
      refine ⟨.slice none 0 0, ?_⟩
      have e : q.cancel th = ⟨false, [], [], 22, q⟩ := by unfold Q25.cancel; rw [if_neg h1, if_neg h2]
      rw [e]
      refine ⟨rfl, After.same (sm := sm) (sr := sr') (ss := ss') (cm := cm) (cr := cr') (cs := cs') ⟨hq.m, hR, hS, hq.dm, hq.ds, hq.n, hq.lm, hq.lr, hq.ls⟩ (H.to fun q => ?_)⟩
      simp only [Q25.mem, Q25.rest, List.set_cons_zero, List.set_cons_succ, List.map_append, List.map_cons, List.sum_append, List.sum_cons]; omega
theorem register_spec {n : Nc} (hD : ∀ c ∈ D, c ∈ F) (hq : QAt w0 D q sm sr ss cm cr cs) (H : Hp w0 w (q.mem qb sm sr ss cm cr cs F)) :
    Calls Pg 34 ⟨[ptr qb 0, .agg ⟨n.enc⟩]⟩ w fun e w' => ∃ b, e = .returned (I (regE q n)) ∧ After w0 w' D F qb (if regE q n = 0 then { q with nt := some (b, n) } else q) [] [] (.slice none 0 0) (.slice none 0 0) := by
  generalize hQ : (fun (e : Ending) (w' : World) => ∃ b, e = .returned (I (regE q n)) ∧ After w0 w' D F qb (if regE q n = 0 then { q with nt := some (b, n) } else q) [] [] (.slice none 0 0) (.slice none 0 0) : ER) = Q
  apply F34_calls
  unfold F34
  refine bx_m (vs := n.enc) H fun w b1 H => ?_
  (try simp only [W0])
  have quiet : ∀ (w : World) (err : Int), err ≠ 0 → regE q n = err → Hp w0 w (⟨b1, .t 92, n.enc⟩ :: q.mem qb sm sr ss cm cr cs F) → Q (.returned (I err)) w := by
    intro w err h0 h H
    subst hQ
    refine ⟨b1, by rw [h], ?_⟩
    rw [h, if_neg h0]
    exact After.same hq H.tail
  refine ld_m H Has.here (o := 0) (v := I n.ow) rfl ?_
  refine lss_k (fun h1 => ?_) (fun h1 => ?_)
  · (try simp only [W0])
    exact quiet w 34 (by decide) (by unfold regE; rw [if_pos (.inl h1)]) H
  (try simp only [W0])
  refine ld_m H Has.here (o := 0) (v := I n.ow) rfl ?_
  refine geq_k (fun h2 => ?_) (fun h2 => ?_)
  · (try simp only [W0])
    exact quiet w 34 (by decide) (by unfold regE; rw [if_pos (.inr h2)]) H
  (try simp only [W0])
  have e1 : ¬ (n.ow < 0 ∨ 256 ≤ n.ow) := by omega
  refine ld_m H Has.here (o := 1) (v := I n.ki) rfl ?_
  refine lss_k (fun h3 => ?_) (fun h3 => ?_)
  · (try simp only [W0])
    exact quiet w 17 (by decide) (by unfold regE; rw [if_neg e1, if_pos (.inl h3)]) H
  (try simp only [W0])
  refine ld_m H Has.here (o := 1) (v := I n.ki) rfl ?_
  refine geq_k (fun h4 => ?_) (fun h4 => ?_)
  · (try simp only [W0])
    exact quiet w 17 (by decide) (by unfold regE; rw [if_neg e1, if_pos (.inr h4)]) H
  (try simp only [W0])
  have e2 : ¬ (n.ki < 0 ∨ 5 ≤ n.ki) := by omega
  unfold Q25.mem at H
  refine ld_m H (Has.cons Has.here) (o := 7) (v := npv q.nt) rfl ?_
  cases hn : q.nt with
  | some x =>
    unfold npv
    (try simp only [W0])
    exact quiet w 5 (by decide) (by unfold regE; rw [if_neg e1, if_neg e2, hn]; rfl) H
  | none =>
    have e3 : npv none = .pointer none := rfl
    rw [e3]
    (try simp only [W0])
    refine st_m (o := 7) H (Upd.cons Upd.here) (by simp [Q25.rest]) rfl fun w H => ?_
    have e : regE q n = 0 := by unfold regE; rw [if_neg e1, if_neg e2, hn]; rfl
    subst hQ
    refine ⟨b1, by rw [e], ?_⟩
    rw [if_pos e]
    refine ⟨[⟨b1, .t 92, n.enc⟩], sm, sr, ss, cm, cr, cs, [], [], TS.nil, TS.nil, ⟨hq.m, hq.r, hq.s, hq.grow.dm, hq.grow.ds, ?_, hq.lm, hq.lr, hq.ls⟩, by simp, H.to fun q => ?_⟩
    · intro x hx
      injection hx with hx
      subst hx
      exact Has.here
    · simp only [Q25.mem, Q25.rest, npv, Option.map_some, List.set_cons_zero, List.set_cons_succ, List.nil_append, List.map_append, List.map_cons, List.sum_append, List.sum_cons, List.map_nil, List.sum_nil]; omega
theorem unregister_spec {ow : Int} (hD : ∀ c ∈ D, c ∈ F) (hq : QAt w0 D q sm sr ss cm cr cs) (H : Hp w0 w (q.mem qb sm sr ss cm cr cs F)) :
    Calls Pg 36 ⟨[ptr qb 0, I ow]⟩ w fun e w' => e = .returned (I (unregE q ow)) ∧ After w0 w' D F qb (if unregE q ow = 0 then { q with nt := none } else q) [] [] (.slice none 0 0) (.slice none 0 0) := by
  generalize hQ : (fun (e : Ending) (w' : World) => e = .returned (I (unregE q ow)) ∧ After w0 w' D F qb (if unregE q ow = 0 then { q with nt := none } else q) [] [] (.slice none 0 0) (.slice none 0 0) : ER) = Q
  apply F36_calls
  unfold F36
  (try simp only [W0])
  have quiet : ∀ (w : World), unregE q ow = 22 → Hp w0 w (q.mem qb sm sr ss cm cr cs F) → Q (.returned (I 22)) w := by
    intro w h H
    subst hQ
    refine ⟨by rw [h], ?_⟩
    rw [h, if_neg (by decide)]
    exact After.same hq H
  unfold Q25.mem at H
  cases hn : q.nt with
  | none =>
    have hr1 : (sm :: q.rest sr ss)[7]? = some (.pointer none) := by simp [Q25.rest, hn, npv]
    refine ld_m H Has.here (o := 7) hr1 ?_
    (try simp only [W0])
    exact quiet w (by unfold unregE; rw [hn]) H
  | some x =>
    obtain ⟨nb, nc⟩ := x
    have hr1 : (sm :: q.rest sr ss)[7]? = some (ptr nb 0) := by simp [Q25.rest, hn, npv]
    have hnb := hq.n _ hn
    refine ld_m H Has.here (o := 7) hr1 ?_
    (try simp only [W0])
    refine ld_m H Has.here (o := 7) hr1 ?_
    (try simp only [W0])
    refine ld_m (l := nc.enc) H (Has.cons (Has.app (Has.app (Has.app (hD _ hnb))))) (o := 0) (v := I nc.ow) rfl ?_
    refine neq_k (fun h1 => ?_) (fun h1 => ?_)
    · (try simp only [W0])
      exact quiet w (by unfold unregE; rw [hn]; simp only; rw [if_pos h1]) H
    · (try simp only [W0])
      refine st_m (o := 7) H Upd.here (by simp [Q25.rest]) rfl fun w H => ?_
      have e : unregE q ow = 0 := by unfold unregE; rw [hn]; simp only; rw [if_neg (by simpa using h1)]
      subst hQ
      refine ⟨by rw [e], ?_⟩
      rw [if_pos e]
      refine ⟨[], sm, sr, ss, cm, cr, cs, [], [], TS.nil, TS.nil, ⟨hq.m, hq.r, hq.s, hq.dm, hq.ds, (by intro x hx; cases hx), hq.lm, hq.lr, hq.ls⟩, by simp, H.to fun q => ?_⟩
      simp only [Q25.mem, Q25.rest, npv, Option.map_none, List.set_cons_zero, List.set_cons_succ, List.nil_append, List.map_append, List.map_cons, List.sum_append, List.sum_cons]; omega
theorem now_spec (H : Hp w0 w (q.mem qb sm sr ss cm cr cs F)) : Calls Pg 13 ⟨[ptr qb 0]⟩ w fun e w' => e = .returned (I q.now) ∧ Hp w0 w' (q.mem qb sm sr ss cm cr cs F) := by
  apply F13_calls
  unfold F13
  (try simp only [W0])
  unfold Q25.mem at H
  refine ld_m H Has.here (o := 4) (v := I q.now) rfl ?_
  exact ⟨(by first | rfl | trivial), H⟩
theorem senders_spec (hq : QAt w0 D q sm sr ss cm cr cs) (H : Hp w0 w (q.mem qb sm sr ss cm cr cs F)) : Calls Pg 12 ⟨[ptr qb 0]⟩ w fun e w' => ∃ s' c', e = .returned s' ∧ TS cI 3 s' (q.sn.map Sw.th) c' ∧ Hp w0 w' (c' ++ q.mem qb sm sr ss cm cr cs F) := by
  have ls := hq.ls
  apply F12_calls
  unfold F12
  (try simp only [W0])
  refine cal_h (thS_spec (o := 6) (l := sm :: q.rest sr ss) Has.here rfl hq.s.tr (fun c hc => List.mem_cons_of_mem _ (List.mem_append_right _ (List.mem_append_right _ (List.mem_append_left _ hc)))) (by omega) H) ?_
  rintro _ w ⟨s1, c1, rfl, h1, H⟩
  exact ⟨s1, c1, (by first | rfl | trivial), h1, H⟩
theorem receivers_spec (hq : QAt w0 D q sm sr ss cm cr cs) (H : Hp w0 w (q.mem qb sm sr ss cm cr cs F)) : Calls Pg 11 ⟨[ptr qb 0]⟩ w fun e w' => ∃ s' c', e = .returned s' ∧ TS cI 3 s' (q.rc.map Rw.th) c' ∧ Hp w0 w' (c' ++ q.mem qb sm sr ss cm cr cs F) := by
  have lr := hq.lr
  apply F11_calls
  unfold F11
  (try simp only [W0])
  refine cal_h (thR_spec (o := 5) (l := sm :: q.rest sr ss) Has.here rfl hq.r.tr (fun c hc => List.mem_cons_of_mem _ (List.mem_append_right _ (List.mem_append_left _ hc))) (by omega) H) ?_
  rintro _ w ⟨s1, c1, rfl, h1, H⟩
  exact ⟨s1, c1, (by first | rfl | trivial), h1, H⟩
end
end Go.Proofs.YthcekppbbanfeaaGreat.Den
