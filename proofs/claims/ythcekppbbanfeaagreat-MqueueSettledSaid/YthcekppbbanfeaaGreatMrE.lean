/- Message queue, the reference: Advance. Conditions: none. -/
import Derived.Test.YthcekppbbanfeaaGreatMrD
set_option linter.unusedVariables false
set_option linter.unusedSimpArgs false
set_option maxRecDepth 8000
set_option maxHeartbeats 4000000
namespace Go.Proofs.YthcekppbbanfeaaGreat.Den
open Go Go.RowKit
/-- The first of the least deadlines that have passed. -/
def Earl (now : Int) (l : List Wt) (a : Int) : Prop := ((∀ x ∈ l, passed now x.dl = false) ∧ a = -1) ∨
  ∃ (k : Nat) (x : Wt), l[k]? = some x ∧ passed now x.dl = true ∧ (∀ y ∈ l.take k, passed now y.dl = true → x.dl < y.dl) ∧ (∀ y ∈ l, passed now y.dl = true → x.dl ≤ y.dl) ∧ a = (k : Int)
theorem Earl.skip {now : Int} {l : List Wt} {a : Int} {y : Wt} (h : Earl now l a) (hn : passed now y.dl = false ∨ ∃ (k : Nat) (x : Wt), a = (k : Int) ∧ l[k]? = some x ∧ x.dl ≤ y.dl) : Earl now (l ++ [y]) a := by
  rcases h with ⟨h1, h2⟩ | ⟨k, x, h1, h2, h3, h4, h5⟩
  · left
    refine ⟨fun z hz => ?_, h2⟩
    rcases List.mem_append.1 hz with hz | hz
    · exact h1 z hz
    · rw [List.mem_singleton.1 hz]
      rcases hn with hn | ⟨k, x, e, _⟩
      · exact hn
      · omega
  · right
    have hk := (List.getElem?_eq_some_iff.1 h1).1
    refine ⟨k, x, by rw [List.getElem?_append_left hk]; exact h1, h2, ?_, fun z hz hp => ?_, h5⟩
    · rw [List.take_append_of_le_length (by omega)]; exact h3
    · rcases List.mem_append.1 hz with hz | hz
      · exact h4 z hz hp
      · rw [List.mem_singleton.1 hz] at hp ⊢
        rcases hn with hn | ⟨k', x', e, e2, e3⟩
        · rw [hn] at hp; cases hp
        · obtain rfl : k = k' := by omega
          rw [h1] at e2; injection e2 with e2; subst e2; exact e3
theorem Earl.take {now : Int} {l : List Wt} {a : Int} {y : Wt} (h : Earl now l a) (hp : passed now y.dl = true) (hn : a < 0 ∨ ∃ (k : Nat) (x : Wt), a = (k : Int) ∧ l[k]? = some x ∧ y.dl < x.dl) : Earl now (l ++ [y]) (l.length : Int) := by
  right
  have hall : ∀ z ∈ l, passed now z.dl = true → y.dl < z.dl := by
    rcases h with ⟨h1, h2⟩ | ⟨k, x, h1, h2, h3, h4, h5⟩
    · intro z hz hzp; rw [h1 z hz] at hzp; cases hzp
    · intro z hz hzp
      rcases hn with hn | ⟨k', x', e, e2, e3⟩
      · omega
      · obtain rfl : k = k' := by omega
        rw [h1] at e2; injection e2 with e2; subst e2
        have := h4 z hz hzp; omega
  refine ⟨l.length, y, by rw [List.getElem?_append_right (Nat.le_refl _), Nat.sub_self]; rfl, hp, ?_, fun z hz hzp => ?_, rfl⟩
  · rw [List.take_left]; exact hall
  · rcases List.mem_append.1 hz with hz | hz
    · have := hall z hz hzp; omega
    · rw [List.mem_singleton.1 hz]; exact Int.le_refl _
def prW (x : Wt) : Pr := (x.th, x.dl)
def latW (now : Int) (l : List Wt) : List Pr := (l.filter fun x => passed now x.dl).map prW
def RQ.lates (r : RQ) (now : Int) : List Pr := latW now r.sn ++ latW now r.rc
def RQ.late (r : RQ) (now : Int) : RQ := { r with now := now, sn := r.sn.filter (fun x => !passed now x.dl), rc := r.rc.filter (fun x => !passed now x.dl) }
def RAdvOK (r : RQ) (now : Int) (q : RRs) : Prop :=
  if now < 0 ∨ 1099511627776 < now then q = ⟨false, [], [], 34, r⟩ else if now < r.now then q = ⟨false, [], [], 30, r⟩
  else ∃ C, Srt dlK C ∧ Same dlK (r.lates now) C ∧ q = ⟨false, C.map outE, [], 0, r.late now⟩
/-- One of the late threads taken out. -/
theorem lat_cut {now : Int} {l : List Wt} {k : Nat} {x : Wt} (h : l[k]? = some x) (hp : passed now x.dl = true) :
    ∃ A B, latW now l = A ++ prW x :: B ∧ latW now (l.eraseIdx k) = A ++ B ∧ (l.eraseIdx k).filter (fun x => !passed now x.dl) = l.filter (fun x => !passed now x.dl) ∧ A = latW now (l.take k) := by
  have hk := (List.getElem?_eq_some_iff.1 h).1
  have e : l = l.take k ++ x :: l.drop (k + 1) := by
    have e2 : l.drop k = x :: l.drop (k + 1) := by rw [List.drop_eq_getElem_cons hk, (List.getElem?_eq_some_iff.1 h).2]
    rw [← e2, List.take_append_drop]
  refine ⟨latW now (l.take k), latW now (l.drop (k + 1)), ?_, ?_, ?_, rfl⟩
  · conv => lhs; rw [e]
    unfold latW
    simp [List.filter_append, List.filter_cons, hp]
  · rw [List.eraseIdx_eq_take_drop_succ]
    unfold latW
    rw [List.filter_append, List.map_append]
  · rw [List.eraseIdx_eq_take_drop_succ, List.filter_append]
    conv => rhs; rw [e]
    simp [List.filter_append, List.filter_cons, hp]
theorem lat_mem {now : Int} {l : List Wt} {p : Pr} (h : p ∈ latW now l) : ∃ x ∈ l, passed now x.dl = true ∧ p = prW x := by
  obtain ⟨x, hx, e⟩ := List.mem_map.1 h
  obtain ⟨h1, h2⟩ := List.mem_filter.1 hx
  exact ⟨x, h1, h2, e.symm⟩
/-- The lists while they shrink. -/
structure Shr (sn0 rc0 sn rc : List Wt) (now : Int) (O : List Pr) : Prop where
  srt : Srt dlK O
  le : ∀ x ∈ O, ∀ y ∈ latW now sn ++ latW now rc, dlK x ≤ dlK y
  same : Same dlK (latW now sn0 ++ latW now rc0) (O ++ (latW now sn ++ latW now rc))
  k1 : sn.filter (fun x => !passed now x.dl) = sn0.filter (fun x => !passed now x.dl)
  k2 : rc.filter (fun x => !passed now x.dl) = rc0.filter (fun x => !passed now x.dl)
  m1 : ∀ x ∈ sn, x ∈ sn0
theorem Shr.step {sn0 rc0 sn rc sn' rc' : List Wt} {now : Int} {O : List Pr} {A B : List Pr} {p : Pr} (h : Shr sn0 rc0 sn rc now O) (e1 : latW now sn ++ latW now rc = A ++ p :: B) (e2 : latW now sn' ++ latW now rc' = A ++ B)
    (h1 : ∀ a ∈ A, dlK p < dlK a) (h2 : ∀ a ∈ B, dlK p ≤ dlK a) (k1 : sn'.filter (fun x => !passed now x.dl) = sn.filter (fun x => !passed now x.dl)) (k2 : rc'.filter (fun x => !passed now x.dl) = rc.filter (fun x => !passed now x.dl)) (m1 : ∀ x ∈ sn', x ∈ sn) :
    Shr sn0 rc0 sn' rc' now (O ++ [p]) := by
  refine ⟨?_, ?_, ?_, k1.trans h.k1, k2.trans h.k2, fun x hx => h.m1 x (m1 x hx)⟩
  · refine h.srt.app Srt.one fun x hx y hy => ?_
    rw [List.mem_singleton.1 hy]
    exact h.le x hx p (by rw [e1]; simp)
  · intro x hx y hy
    rw [e2] at hy
    rcases List.mem_append.1 hx with hx | hx
    · refine h.le x hx y ?_
      rw [e1]
      rcases List.mem_append.1 hy with hy | hy
      · exact List.mem_append_left _ hy
      · exact List.mem_append_right _ (List.mem_cons_of_mem _ hy)
    · rw [List.mem_singleton.1 hx]
      rcases List.mem_append.1 hy with hy | hy
      · have := h1 y hy; omega
      · exact h2 y hy
  · refine h.same.trans ?_
    rw [e1, e2, List.append_assoc]
    refine Same.refl.app ?_
    have : Same dlK (A ++ [p]) ([p] ++ A) := Same.swap fun x hx y hy => by rw [List.mem_singleton.1 hy]; exact h1 x hx
    have h3 := this.app (Same.refl (key := dlK) (l := B))
    simpa using h3
section
variable {w w' w0 : World} {L L' F cs cs2 A X Y cm cr D : List Chunk} {s s2 sm sr ss : Value} {K : VK} {R : ER} {b i j rb : Nat} {r : RQ} {m : Ms} {th dl now : Int} {wait : Bool} {xs : List Wt}
theorem rearliest_spec (h : TR cWt w0 cs s xs) (m1 : ∀ c ∈ cs, c ∈ L) (hn : xs.length ≤ 2 ^ 20) (H : Hp w0 w L) : Calls Pg 71 ⟨[s, I now]⟩ w fun e w' => ∃ a, e = .returned (I a) ∧ Earl now xs a ∧ Hp w0 w' L := by
  generalize hQ : (fun (e : Ending) (w' : World) => ∃ a, e = .returned (I a) ∧ Earl now xs a ∧ Hp w0 w' L : ER) = Q
  apply F71_calls
  unfold F71 F71_j2 F71_j3
  refine loop4 (F71_l1_succ _) (fun q x0 x1 x5 x6 w => ∃ (i : Nat) (a : Int), s = x0 ∧ x1 = I now ∧ x5 = I a ∧ x6 = I (i : Int) ∧ q + i = xs.length ∧ Earl now (xs.take i) a ∧ Hp w0 w L) ?_ (m := xs.length) ⟨0, -1, rfl, rfl, rfl, rfl, rfl, .inl ⟨by simp, rfl⟩, H⟩
  clear H
  rintro q k _ _ _ _ w ⟨i, a, rfl, rfl, rfl, rfl, hm, hE, H⟩ hk
  unfold F71_b1
  refine pv_of (lenS_tr h) ?_
  refine lss_k (fun hi => ?_) (fun hi => ?_)
  · (try simp only [W0])
    have hx : xs[i]? = some xs[i] := List.getElem?_eq_getElem (by omega)
    have htk : xs.take (i + 1) = xs.take i ++ [xs[i]] := by rw [List.take_add_one, hx]; rfl
    generalize xs[i] = y at *
    have hil : (xs.take i).length = i := by rw [List.length_take]; omega
    have next : ∀ w a', Earl now (xs.take (i + 1)) a' → Hp w0 w L → F71_j5 Q k s (I now) (I a') (I (i : Int)) w := by
      intro w a' hE H
      unfold F71_j5
      refine add_k (z := ((i + 1 : Nat) : Int)) (by omega) (by omega) (by omega) ?_
      exact hk (q - 1) _ _ _ _ _ (by omega) ⟨i + 1, a', rfl, rfl, rfl, rfl, by omega, hE, H⟩
    have skip : ∀ w, (passed now y.dl = false ∨ ∃ (k : Nat) (x : Wt), a = (k : Int) ∧ (xs.take i)[k]? = some x ∧ x.dl ≤ y.dl) → Hp w0 w L → F71_j5 Q k s (I now) (I a) (I (i : Int)) w := fun w hn H => next w a (by rw [htk]; exact hE.skip hn) H
    unfold F71_j4 F71_j6
    refine drew_k H fun w H => ?_
    refine ixF_t (C := cWt) (f := 3) (v := I y.dl) h H m1 hx rfl ?_
    refine neq_k (fun c1 => ?_) (fun c1 => ?_)
    · (try simp only [W0])
      refine ixF_t (C := cWt) (f := 3) (v := I y.dl) h H m1 hx rfl ?_
      (try simp only [W0])
      refine leq_k (fun c2 => ?_) (fun c2 => ?_)
      · (try simp only [W0])
        have hp : passed now y.dl = true := by unfold passed; rw [decide_eq_true c1, decide_eq_true c2]; rfl
        refine lss_k (fun c3 => ?_) (fun c3 => ?_)
        · (try simp only [W0])
          refine next w i ?_ H
          rw [htk]
          have := hE.take hp (.inl c3)
          rwa [hil] at this
        · (try simp only [W0])
          refine ixF_t (C := cWt) (f := 3) (v := I y.dl) h H m1 hx rfl ?_
          (try simp only [W0])
          rcases hE with ⟨_, h2⟩ | ⟨k2, x, h1, h2, h3, h4, rfl⟩
          · omega
          have hx2 : xs[k2]? = some x := by
            have hk2 := (List.getElem?_eq_some_iff.1 h1).1
            rw [List.getElem?_take_of_lt (by omega)] at h1; exact h1
          refine ixF_t (C := cWt) (f := 3) (v := I x.dl) h H m1 hx2 rfl ?_
          (try simp only [W0])
          refine lss_k (fun c4 => ?_) (fun c4 => ?_)
          · (try simp only [W0])
            refine next w i ?_ H
            rw [htk]
            have := Earl.take (now := now) (l := xs.take i) (a := (k2 : Int)) (.inr ⟨k2, x, h1, h2, h3, h4, rfl⟩) hp (.inr ⟨k2, x, rfl, h1, c4⟩)
            rwa [hil] at this
          · (try simp only [W0])
            exact skip w (.inr ⟨k2, x, rfl, h1, by omega⟩) H
      · (try simp only [W0])
        exact skip w (.inl (by unfold passed; rw [decide_eq_false c2, Bool.and_false])) H
    · (try simp only [W0])
      exact skip w (.inl (by unfold passed; rw [c1]; rfl)) H
  · (try simp only [W0])
    unfold F71_j1
    rw [List.take_of_length_le (by omega)] at hE
    subst hQ
    exact ⟨a, rfl, hE, H⟩
theorem radv_spec (h : RAt w0 D r sm ss sr cm cs cr) (H : Hp w0 w (r.mem rb sm ss sr cm cs cr F)) :
    Calls Pg 33 ⟨[ptr rb 0, I now]⟩ w fun e w' => ∃ (q : RRs) (se : Value), RAdvOK r now q ∧ e = .returned (.tuple ⟨[se, .slice none 0 0, I q.err]⟩) ∧ RAfter w0 w' D F rb q.r q.es [] se (.slice none 0 0) := by
  generalize hQ : (fun (e : Ending) (w' : World) => ∃ (q : RRs) (se : Value), RAdvOK r now q ∧ e = .returned (.tuple ⟨[se, .slice none 0 0, I q.err]⟩) ∧ RAfter w0 w' D F rb q.r q.es [] se (.slice none 0 0) : ER) = Q
  have quiet : ∀ (w : World) (err : Int), RAdvOK r now ⟨false, [], [], err, r⟩ → Hp w0 w (r.mem rb sm ss sr cm cs cr F) → Q (.returned (.tuple ⟨[.slice none 0 0, .slice none 0 0, I err]⟩)) w := by
    intro w err he H
    subst hQ
    exact ⟨_, .slice none 0 0, he, rfl, RAfter.same h H⟩
  apply F33_calls
  unfold F33
  refine lss_k (fun h1 => ?_) (fun h1 => ?_)
  · (try simp only [W0])
    exact quiet w 34 (by unfold RAdvOK; rw [if_pos (.inl h1)]) H
  (try simp only [W0])
  refine gtr_k (fun h2 => ?_) (fun h2 => ?_)
  · (try simp only [W0])
    exact quiet w 34 (by unfold RAdvOK; rw [if_pos (.inr h2)]) H
  (try simp only [W0])
  have e1 : ¬ (now < 0 ∨ 1099511627776 < now) := by omega
  unfold F33_j1
  (try simp only [W0])
  unfold RQ.mem at H
  refine ld_m H Has.here (o := 5) (v := I r.now) rfl ?_
  refine lss_k (fun h3 => ?_) (fun h3 => ?_)
  · (try simp only [W0])
    exact quiet w 30 (by unfold RAdvOK; rw [if_neg e1, if_pos h3]) H
  (try simp only [W0])
  unfold F33_j2
  (try simp only [W0])
  refine st_m (o := 5) H Upd.here (by simp [RQ.cells]) rfl fun w H => ?_
  unfold F33_j3
  refine loop3 (F33_l1_succ _) (fun q x0 x1 x7 w => ∃ (sn rc : List Wt) (O : List Pr) (ss sr : Value) (cs cr ce : List Chunk), x0 = ptr rb 0 ∧ x1 = I now ∧ q = (latW now sn ++ latW now rc).length ∧ Shr r.sn r.rc sn rc now O ∧ O.length + q ≤ 128 ∧ sn.length ≤ 64 ∧ rc.length ≤ 64 ∧
    TO cWt 124 ss sn cs ∧ TO cWt 124 sr rc cr ∧ TS cEn 127 x7 (O.map outE) ce ∧ Hp w0 w (ce ++ ({ r with now := now, sn := sn, rc := rc } : RQ).mem rb sm ss sr cm cs cr F)) ?_ (m := (latW now r.sn ++ latW now r.rc).length)
    ⟨r.sn, r.rc, [], ss, sr, cs, cr, [], rfl, rfl, rfl, ⟨Srt.nil, by simp, Same.refl, rfl, rfl, fun x hx => hx⟩, ?_, h.ls, h.lr, h.s, h.q, TS.nil, H.to fun q => by simp only [RQ.mem, RQ.cells, List.set_cons_zero, List.set_cons_succ, List.nil_append, List.map_append, List.map_cons, List.sum_append, List.sum_cons]; omega⟩
  rotate_left
  · have h5 : (latW now r.sn).length ≤ r.sn.length := by unfold latW; rw [List.length_map]; exact List.length_filter_le _ _
    have h6 : (latW now r.rc).length ≤ r.rc.length := by unfold latW; rw [List.length_map]; exact List.length_filter_le _ _
    have := h.ls
    have := h.lr
    rw [List.length_append, List.length_nil]; omega
  clear H
  rintro q k _ _ x7 w ⟨sn, rc, O, ss, sr, cs, cr, ce, rfl, rfl, hq, hS, hlen, hsl, hrl, hs, hr, hE, H⟩ hk
  have hss : scalar ss = true := hs.sc
  have hsr : scalar sr = true := hr.sc
  unfold F33_b1
  refine drew_k H fun w H => ?_
  unfold RQ.mem at H
  have c4 : w.cell? ⟨rb, 4, none⟩ = some sr := H.cellM (t := 75) (Has.app Has.here) rfl
  (try simp only [W0])
  refine ld_m H (Has.app Has.here) (o := 3) (v := ss) rfl ?_
  have hsub1 : ∀ c ∈ cs, c ∈ ce ++ (⟨rb, .t 75, ({ r with now := now, sn := sn, rc := rc } : RQ).cells sm ss sr⟩ :: (cm ++ (cs ++ (cr ++ F)))) := fun c hc => List.mem_append_right _ (List.mem_cons_of_mem _ (List.mem_append_right _ (List.mem_append_left _ hc)))
  have hsub2 : ∀ c ∈ cr, c ∈ ce ++ (⟨rb, .t 75, ({ r with now := now, sn := sn, rc := rc } : RQ).cells sm ss sr⟩ :: (cm ++ (cs ++ (cr ++ F)))) := fun c hc => List.mem_append_right _ (List.mem_cons_of_mem _ (List.mem_append_right _ (List.mem_append_right _ (List.mem_append_left _ hc))))
  (try simp only [W0])
  refine cal_h (rearliest_spec (now := now) hs.tr hsub1 (by omega) H) ?_
  rintro _ w ⟨a, rfl, ha, H⟩
  (try simp only [W0])
  refine ldS_m H (Has.app Has.here) (o := 4) (v := sr) rfl (by intro z hz; rw [List.mem_singleton.1 hz]; exact c4) ?_
  (try simp only [W0])
  refine cal_h (rearliest_spec (now := now) hr.tr hsub2 (by omega) H) ?_
  rintro _ w ⟨b, rfl, hb, H⟩
  (try simp only [W0])
  have nolate : ∀ {l : List Wt} {a : Int}, Earl now l a → a < 0 → latW now l = [] := by
    intro l a ha h0
    rcases ha with ⟨h1, _⟩ | ⟨k, x, _, _, _, _, h2⟩
    · unfold latW
      rw [List.filter_eq_nil_iff.2 (fun x hx => by rw [h1 x hx]; decide)]; rfl
    · omega
  -- a sender ends
  have doS : ∀ w, 0 ≤ a → (b < 0 ∨ ∃ (k1 k2 : Nat) (x y : Wt), a = (k1 : Int) ∧ b = (k2 : Int) ∧ sn[k1]? = some x ∧ rc[k2]? = some y ∧ x.dl ≤ y.dl) → Hp w0 w (ce ++ (⟨rb, .t 75, ({ r with now := now, sn := sn, rc := rc } : RQ).cells sm ss sr⟩ :: (cm ++ (cs ++ (cr ++ F))))) → F33_j6 Q k (ptr rb 0) (I now) x7 (I a) w := by
    intro w h0 hcase H
    rcases ha with ⟨_, h2⟩ | ⟨k1, x, g1, g2, g3, g4, rfl⟩
    · omega
    obtain ⟨A, B, q1, q2, q3, q4⟩ := lat_cut g1 g2
    have hk1 := (List.getElem?_eq_some_iff.1 g1).1
    unfold F33_j6
    (try simp only [W0])
    refine ld_m H (Has.app Has.here) (o := 3) (v := ss) rfl ?_
    refine ixF_t (C := cWt) (f := 0) (v := I x.th) hs.tr H hsub1 g1 rfl ?_
    refine bld_a ?_
    refine app1_t (C := cEn) (x := outE (prW x)) (F := ⟨rb, .t 75, ({ r with now := now, sn := sn, rc := rc } : RQ).cells sm ss sr⟩ :: (cm ++ (cs ++ (cr ++ F)))) elREn H hE Split.here rfl (by decide) (by rw [List.length_map]; omega) (by rw [List.length_map]; omega) fun w s3 c3 H h3 => ?_
    (try simp only [W0])
    refine ld_m H (Has.app Has.here) (o := 3) (v := ss) rfl ?_
    refine cal_h (rwithout_spec hs.tr (fun c hc => List.mem_append_right _ (List.mem_cons_of_mem _ (List.mem_append_right _ (List.mem_append_left _ hc)))) (by omega) hk1 H) ?_
    rintro _ w ⟨s4, c4, rfl, h4, H⟩
    have hs4 : scalar s4 = true := h4.sc
    (try simp only [W0])
    refine st_m (o := 3) H (Upd.app (Upd.app Upd.here)) (by simp [RQ.cells]) hs4 fun w H => ?_
    have hql : (latW now (sn.eraseIdx k1) ++ latW now rc).length + 1 = (latW now sn ++ latW now rc).length := by rw [q1, q2]; simp; omega
    refine hk ((latW now (sn.eraseIdx k1) ++ latW now rc).length) _ _ _ _ (by omega) ⟨sn.eraseIdx k1, rc, O ++ [prW x], s4, sr, c4, cr, c3, rfl, rfl, rfl, ?_, by rw [List.length_append, List.length_singleton]; omega, by rw [List.length_eraseIdx_of_lt hk1]; omega, hrl, h4.to, hr, by rw [List.map_append]; exact h3, H.to fun q => ?_⟩
    · refine hS.step (A := A) (B := B ++ latW now rc) (p := prW x) (by rw [q1]; simp) (by rw [q2]; simp) ?_ ?_ q3 rfl (fun z hz => List.mem_of_mem_eraseIdx hz)
      · intro z hz
        rw [q4] at hz
        obtain ⟨y, hy, hyp, rfl⟩ := lat_mem hz
        exact g3 y hy hyp
      · intro z hz
        rcases List.mem_append.1 hz with hz | hz
        · have : z ∈ latW now sn := by rw [q1]; exact List.mem_append_right _ (List.mem_cons_of_mem _ hz)
          obtain ⟨y, hy, hyp, rfl⟩ := lat_mem this
          exact g4 y hy hyp
        · rcases hcase with hcase | ⟨_, k2, x', y', e1, e2, e3, e4, e5⟩
          · rw [nolate hb hcase] at hz; cases hz
          · obtain ⟨y, hy, hyp, rfl⟩ := lat_mem hz
            rcases hb with ⟨_, h9⟩ | ⟨k3, y3, j1, j2, j3, j4, j5⟩
            · omega
            · obtain rfl : k2 = k3 := by omega
              rw [e4] at j1; injection j1 with j1; subst j1
              have := j4 y hy hyp
              have hxx : x' = x := by
                have : k1 = _ := Int.ofNat.inj e1
                subst this
                rw [g1] at e3; injection e3 with e3; exact e3.symm
              subst hxx
              show x'.dl ≤ y.dl; omega
    · simp only [RQ.mem, RQ.cells, List.set_cons_zero, List.set_cons_succ, List.map_append, List.map_cons, List.sum_append, List.sum_cons]; omega
  -- a receiver ends
  have doR : ∀ w, 0 ≤ b → (a < 0 ∨ ∃ (k1 k2 : Nat) (x y : Wt), a = (k1 : Int) ∧ b = (k2 : Int) ∧ sn[k1]? = some x ∧ rc[k2]? = some y ∧ y.dl < x.dl) → Hp w0 w (ce ++ (⟨rb, .t 75, ({ r with now := now, sn := sn, rc := rc } : RQ).cells sm ss sr⟩ :: (cm ++ (cs ++ (cr ++ F))))) → F33_j7 Q k (ptr rb 0) (I now) x7 (I b) w := by
    intro w h0 hcase H
    rcases hb with ⟨_, h2⟩ | ⟨k1, x, g1, g2, g3, g4, rfl⟩
    · omega
    obtain ⟨A, B, q1, q2, q3, q4⟩ := lat_cut g1 g2
    have hk1 := (List.getElem?_eq_some_iff.1 g1).1
    unfold F33_j7
    (try simp only [W0])
    refine ld_m H (Has.app Has.here) (o := 4) (v := sr) rfl ?_
    refine ixF_t (C := cWt) (f := 0) (v := I x.th) hr.tr H hsub2 g1 rfl ?_
    refine bld_a ?_
    refine app1_t (C := cEn) (x := outE (prW x)) (F := ⟨rb, .t 75, ({ r with now := now, sn := sn, rc := rc } : RQ).cells sm ss sr⟩ :: (cm ++ (cs ++ (cr ++ F)))) elREn H hE Split.here rfl (by decide) (by rw [List.length_map]; omega) (by rw [List.length_map]; omega) fun w s3 c3 H h3 => ?_
    (try simp only [W0])
    refine ld_m H (Has.app Has.here) (o := 4) (v := sr) rfl ?_
    refine cal_h (rwithout_spec hr.tr (fun c hc => List.mem_append_right _ (List.mem_cons_of_mem _ (List.mem_append_right _ (List.mem_append_right _ (List.mem_append_left _ hc))))) (by omega) hk1 H) ?_
    rintro _ w ⟨s4, c4, rfl, h4, H⟩
    have hs4 : scalar s4 = true := h4.sc
    (try simp only [W0])
    refine st_m (o := 4) H (Upd.app (Upd.app Upd.here)) (by simp [RQ.cells]) hs4 fun w H => ?_
    have hql : (latW now sn ++ latW now (rc.eraseIdx k1)).length + 1 = (latW now sn ++ latW now rc).length := by rw [q1, q2]; simp; omega
    refine hk ((latW now sn ++ latW now (rc.eraseIdx k1)).length) _ _ _ _ (by omega) ⟨sn, rc.eraseIdx k1, O ++ [prW x], ss, s4, cs, c4, c3, rfl, rfl, rfl, ?_, by rw [List.length_append, List.length_singleton]; omega, hsl, by rw [List.length_eraseIdx_of_lt hk1]; omega, hs, h4.to, by rw [List.map_append]; exact h3, H.to fun q => ?_⟩
    · refine hS.step (A := latW now sn ++ A) (B := B) (p := prW x) (by rw [q1]; simp) (by rw [q2]; simp) ?_ ?_ rfl q3 (fun z hz => hz)
      · intro z hz
        rcases List.mem_append.1 hz with hz | hz
        · rcases hcase with hcase | ⟨k2, _, x', y', e1, e2, e3, e4, e5⟩
          · rw [nolate ha hcase] at hz; cases hz
          · obtain ⟨y, hy, hyp, rfl⟩ := lat_mem hz
            rcases ha with ⟨_, h9⟩ | ⟨k3, y3, j1, j2, j3, j4, j5⟩
            · omega
            · obtain rfl : k2 = k3 := by omega
              rw [e3] at j1; injection j1 with j1; subst j1
              have := j4 y hy hyp
              have hxx : y' = x := by
                have : k1 = _ := Int.ofNat.inj e2
                subst this
                rw [g1] at e4; injection e4 with e4; exact e4.symm
              subst hxx
              show y'.dl < y.dl; omega
        · rw [q4] at hz
          obtain ⟨y, hy, hyp, rfl⟩ := lat_mem hz
          exact g3 y hy hyp
      · intro z hz
        have : z ∈ latW now rc := by rw [q1]; exact List.mem_append_right _ (List.mem_cons_of_mem _ hz)
        obtain ⟨y, hy, hyp, rfl⟩ := lat_mem this
        exact g4 y hy hyp
    · simp only [RQ.mem, RQ.cells, List.set_cons_zero, List.set_cons_succ, List.map_append, List.map_cons, List.sum_append, List.sum_cons]; omega
  have stop : ∀ w, a < 0 → b < 0 → Hp w0 w (ce ++ (⟨rb, .t 75, ({ r with now := now, sn := sn, rc := rc } : RQ).cells sm ss sr⟩ :: (cm ++ (cs ++ (cr ++ F))))) → Q (.returned (.tuple ⟨[x7, .slice none 0 0, I 0]⟩)) w := by
    intro w ha0 hb0 H
    have n1 := nolate ha ha0
    have n2 := nolate hb hb0
    have hsame := hS.same
    rw [n1, n2, List.append_nil, List.append_nil] at hsame
    have f1 : r.sn.filter (fun x => !passed now x.dl) = sn := by
      rw [← hS.k1, List.filter_eq_self]
      intro x hx
      cases hp : passed now x.dl with
      | false => rfl
      | true =>
        have : prW x ∈ latW now sn := List.mem_map_of_mem (List.mem_filter.2 ⟨hx, hp⟩)
        rw [n1] at this; cases this
    have f2 : r.rc.filter (fun x => !passed now x.dl) = rc := by
      rw [← hS.k2, List.filter_eq_self]
      intro x hx
      cases hp : passed now x.dl with
      | false => rfl
      | true =>
        have : prW x ∈ latW now rc := List.mem_map_of_mem (List.mem_filter.2 ⟨hx, hp⟩)
        rw [n2] at this; cases this
    have hl : r.late now = { r with now := now, sn := sn, rc := rc } := by unfold RQ.late; rw [f1, f2]
    subst hQ
    refine ⟨⟨false, O.map outE, [], 0, r.late now⟩, x7, ?_, rfl, ?_⟩
    · unfold RAdvOK
      rw [if_neg e1, if_neg h3]
      exact ⟨O, hS.srt, hsame, rfl⟩
    · refine ⟨[], sm, ss, sr, cm, cs, cr, ce, [], hE, TS.nil, ?_, ?_, ?_⟩
      · show RAt w0 ([] ++ D) (r.late now) sm ss sr cm cs cr
        rw [hl]
        exact ⟨h.m, hs, hr, h.dm, fun z hz => h.ds z (hS.m1 z hz), h.lm, hrl, hsl⟩
      · intro e he
        obtain ⟨p, _, rfl⟩ := List.mem_map.1 he
        exact ⟨TR.nil, by simp [outE, ms0]⟩
      · rw [hl]; exact H
  refine lss_k (fun ca => ?_) (fun ca => ?_)
  · (try simp only [W0])
    refine lss_k (fun cb => ?_) (fun cb => ?_)
    · (try simp only [W0])
      exact stop w ca cb H
    · (try simp only [W0])
      unfold F33_j4
      refine drew_k H fun w H => ?_
      refine lss_n cb ?_
      (try simp only [W0])
      refine geq_n (by omega) ?_
      (try simp only [W0])
      unfold F33_j5
      (try simp only [W0])
      exact doR w (by omega) (.inl ca) H
  · (try simp only [W0])
    unfold F33_j4
    refine drew_k H fun w H => ?_
    refine lss_k (fun cb => ?_) (fun cb => ?_)
    · (try simp only [W0])
      unfold F33_j5
      (try simp only [W0])
      exact doS w (by omega) (.inl cb) H
    · (try simp only [W0])
      refine geq_y (by omega) ?_
      (try simp only [W0])
      have ha' := ha
      have hb' := hb
      rcases ha' with ⟨_, h2⟩ | ⟨k1, x, g1, g2, g3, g4, rfl⟩
      · omega
      rcases hb' with ⟨_, h2⟩ | ⟨k2, y, j1, j2, j3, j4, rfl⟩
      · omega
      refine ld_m H (Has.app Has.here) (o := 3) (v := ss) rfl ?_
      (try simp only [W0])
      refine ixF_t (C := cWt) (f := 3) (v := I x.dl) hs.tr H hsub1 g1 rfl ?_
      (try simp only [W0])
      refine ld_m H (Has.app Has.here) (o := 4) (v := sr) rfl ?_
      (try simp only [W0])
      refine ixF_t (C := cWt) (f := 3) (v := I y.dl) hr.tr H hsub2 j1 rfl ?_
      (try simp only [W0])
      refine leq_k (fun c => ?_) (fun c => ?_)
      · (try simp only [W0])
        unfold F33_j5
        (try simp only [W0])
        exact doS w (by omega) (.inr ⟨k1, k2, x, y, rfl, rfl, g1, j1, c⟩) H
      · (try simp only [W0])
        unfold F33_j5
        (try simp only [W0])
        exact doR w (by omega) (.inr ⟨k1, k2, x, y, rfl, rfl, g1, j1, by omega⟩) H
end
end Go.Proofs.YthcekppbbanfeaaGreat.Den
