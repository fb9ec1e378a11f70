/- Message queue: pop, put. Conditions: none. -/
import Derived.Test.YthcekppbbanfeaaGreatMqD
set_option linter.unusedVariables false
set_option linter.unusedSimpArgs false
set_option maxRecDepth 8000
set_option maxHeartbeats 1000000
namespace Go.Proofs.YthcekppbbanfeaaGreat.Den
open Go Go.RowKit
def Q25.put (q : Q25) (m : Ms) : (List En × List Nc) × Q25 := match q.rc with
  | r :: rs => (([⟨r.th, m, 0⟩], []), { q with rc := rs })
  | [] => match q.nt with
    | none => (([], []), { q with num := q.num + 1, ms := pushK q.ms ⟨m, q.num + 1⟩ })
    | some x => if q.ms = [] then (([], [x.2]), { q with num := q.num + 1, ms := pushK q.ms ⟨m, q.num + 1⟩, nt := none }) else (([], []), { q with num := q.num + 1, ms := pushK q.ms ⟨m, q.num + 1⟩ })
/-- What a call leaves. -/
def After (w0 w' : World) (D F : List Chunk) (qb : Nat) (q' : Q25) (es : List En) (ns : List Nc) (se sn : Value) : Prop := ∃ (D' : List Chunk) (sm sr ss : Value) (cm cr cs ce cn : List Chunk),
  TS cEn 119 se es ce ∧ TS cNc 92 sn ns cn ∧ QAt w0 (D' ++ D) q' sm sr ss cm cr cs ∧ (∀ e ∈ es, MsOK w0 (D' ++ D) e.m) ∧ Hp w0 w' (ce ++ (cn ++ q'.mem qb sm sr ss cm cr cs (D' ++ F)))
theorem pushK_len (l : List Kp) (x : Kp) : (pushK l x).length = l.length + 1 := by unfold pushK; rw [upK_len, List.length_append]; rfl
theorem swapK_mem {l : List Kp} {i j : Nat} {x : Kp} (h : x ∈ swapK l i j) : x ∈ l := by
  unfold swapK at h
  split at h
  · rename_i a b h1 h2
    rcases List.mem_or_eq_of_mem_set h with h | h
    · rcases List.mem_or_eq_of_mem_set h with h | h
      · exact h
      · subst h; exact List.mem_of_getElem? h2
    · subst h; exact List.mem_of_getElem? h1
  · exact h
theorem upK_mem {x : Kp} : ∀ {n : Nat} {l : List Kp} {j : Nat}, x ∈ upK n l j → x ∈ l := by
  intro n
  induction n with
  | zero => intro l j h; exact h
  | succ n ih =>
    intro l j h
    unfold upK at h
    split at h
    · exact h
    · exact swapK_mem (ih h)
theorem dnK_mem {x : Kp} {m : Nat} : ∀ {n : Nat} {l : List Kp} {j : Nat}, x ∈ dnK m n l j → x ∈ l := by
  intro n
  induction n with
  | zero => intro l j h; exact h
  | succ n ih =>
    intro l j h
    unfold dnK at h
    split at h
    · exact h
    split at h
    · exact h
    · exact swapK_mem (ih h)
theorem pushK_mem {l : List Kp} {x y : Kp} (h : y ∈ pushK l x) : y ∈ l ∨ y = x := by
  have := upK_mem h
  simpa using this
theorem popK_mem {l : List Kp} {y : Kp} (h : y ∈ popK l) : y ∈ l := swapK_mem (dnK_mem h)
theorem popK_len (l : List Kp) : (popK l).length = l.length := by unfold popK; rw [dnK_len, swapK_len]
section
variable {w w' w0 : World} {L L' F cs cs2 A X Y cm cr D : List Chunk} {s s2 sm sr ss : Value} {K : VK} {R : ER} {b i j qb : Nat} {q : Q25} {m : Ms} {th dl : Int}
theorem popS_spec {y : Sw} {ys : List Sw} {o : Nat} {l : List Value} (h : TS cSw 113 s (y :: ys) cs) (hl : l[o]? = some s) (ho : o < l.length) (hn : ys.length < 2 ^ 20) (H : Hp w0 w (⟨qb, .t 62, l⟩ :: (cs ++ F))) :
    Calls Pg 54 ⟨[ptr qb o]⟩ w fun e w' => ∃ s' cs', e = .returned (.agg ⟨y.enc⟩) ∧ TS cSw 113 s' ys cs' ∧ Hp w0 w' (⟨qb, .t 62, l.set o s'⟩ :: (cs' ++ F)) := by
  have hsc : scalar s = true := h.sc
  apply F54_calls
  unfold F54
  refine al_m (ys := zvS) H (by kernel_rfl) fun w b1 H => ?_
  (try simp only [W0])
  refine ld_m H (Has.cons Has.here) (o := o) hl ?_
  refine ixN_t (C := cSw) (i := 0) h.tr H (fun c hc => List.mem_cons_of_mem _ (List.mem_cons_of_mem _ (List.mem_append_left _ hc))) rfl (by decide) ?_
  refine al_m (ys := zvS) H (by kernel_rfl) fun w b2 H => ?_
  refine stA_m (vs := y.enc) H Upd.here rfl rfl (cSw.sc y) fun w H => ?_
  (try simp only [W0])
  refine ld_m H (Has.cons (Has.cons Has.here)) (o := o) hl ?_
  replace H : Hp w0 w (cs ++ (⟨b2, .t 113, y.enc⟩ :: ⟨b1, .t 113, zvS⟩ :: ⟨qb, .t 62, l⟩ :: F)) := H.to fun q => by simp only [List.map_append, List.map_cons, List.sum_append, List.sum_cons]; omega
  refine cal_h (sDelS_spec (k := 0) h (by simp) (by simp; omega) H) ?_
  rintro _ w ⟨s', c', rfl, H, h'⟩
  have hs' : scalar s' = true := h'.sc
  (try simp only [W0])
  refine st_m (o := o) H (Upd.app (Upd.cons (Upd.cons Upd.here))) ho hs' fun w H => ?_
  refine ldA_m (l := y.enc) H (Has.app Has.here) rfl ?_
  refine stA_m (vs := y.enc) H (Upd.app (Upd.cons Upd.here)) rfl rfl (cSw.sc y) fun w H => ?_
  refine ldA_m (l := y.enc) H (Has.app (Has.cons Has.here)) rfl ?_
  refine ⟨s', c', (by first | rfl | trivial), by simpa using h', H.to fun q => ?_⟩
  simp only [List.map_append, List.map_cons, List.sum_append, List.sum_cons]; omega
theorem popR_spec {y : Rw} {ys : List Rw} {o : Nat} {l : List Value} (h : TS cRw 115 s (y :: ys) cs) (hl : l[o]? = some s) (ho : o < l.length) (hn : ys.length < 2 ^ 20) (H : Hp w0 w (⟨qb, .t 62, l⟩ :: (cs ++ F))) :
    Calls Pg 77 ⟨[ptr qb o]⟩ w fun e w' => ∃ s' cs', e = .returned (.agg ⟨y.enc⟩) ∧ TS cRw 115 s' ys cs' ∧ Hp w0 w' (⟨qb, .t 62, l.set o s'⟩ :: (cs' ++ F)) := by
  have hsc : scalar s = true := h.sc
  apply F77_calls
  unfold F77
  refine al_m (ys := zvR) H (by kernel_rfl) fun w b1 H => ?_
  (try simp only [W0])
  refine ld_m H (Has.cons Has.here) (o := o) hl ?_
  refine ixN_t (C := cRw) (i := 0) h.tr H (fun c hc => List.mem_cons_of_mem _ (List.mem_cons_of_mem _ (List.mem_append_left _ hc))) rfl (by decide) ?_
  refine al_m (ys := zvR) H (by kernel_rfl) fun w b2 H => ?_
  refine stA_m (vs := y.enc) H Upd.here rfl rfl (cRw.sc y) fun w H => ?_
  (try simp only [W0])
  refine ld_m H (Has.cons (Has.cons Has.here)) (o := o) hl ?_
  replace H : Hp w0 w (cs ++ (⟨b2, .t 115, y.enc⟩ :: ⟨b1, .t 115, zvR⟩ :: ⟨qb, .t 62, l⟩ :: F)) := H.to fun q => by simp only [List.map_append, List.map_cons, List.sum_append, List.sum_cons]; omega
  refine cal_h (sDelR_spec (k := 0) h (by simp) (by simp; omega) H) ?_
  rintro _ w ⟨s', c', rfl, H, h'⟩
  have hs' : scalar s' = true := h'.sc
  (try simp only [W0])
  refine st_m (o := o) H (Upd.app (Upd.cons (Upd.cons Upd.here))) ho hs' fun w H => ?_
  refine ldA_m (l := y.enc) H (Has.app Has.here) rfl ?_
  refine stA_m (vs := y.enc) H (Upd.app (Upd.cons Upd.here)) rfl rfl (cRw.sc y) fun w H => ?_
  refine ldA_m (l := y.enc) H (Has.app (Has.cons Has.here)) rfl ?_
  refine ⟨s', c', (by first | rfl | trivial), by simpa using h', H.to fun q => ?_⟩
  simp only [List.map_append, List.map_cons, List.sum_append, List.sum_cons]; omega
theorem fld_end {y : Rw} : fld1 0 (.agg ⟨y.enc⟩) = some (I y.th) := rfl
theorem put_spec (hm : MsOK w0 D m) (hD : ∀ c ∈ D, c ∈ F) (hq : QAt w0 D q sm sr ss cm cr cs) (hr : q.rc ≠ [] ∨ q.ms.length < 64) (hnum : 0 ≤ q.num ∧ q.num < 2 ^ 60) (H : Hp w0 w (q.mem qb sm sr ss cm cr cs F)) :
    Calls Pg 51 ⟨[ptr qb 0, .agg ⟨m.enc⟩]⟩ w fun e w' => ∃ (sh : Sh) (se sn : Value), e = .returned (.tuple ⟨[se, sn]⟩) ∧ After w0 w' D F qb (q.put { m with sh := sh }).2 (q.put { m with sh := sh }).1.1 (q.put { m with sh := sh }).1.2 se sn := by
  generalize hQ : (fun (e : Ending) (w' : World) => ∃ (sh : Sh) (se sn : Value), e = .returned (.tuple ⟨[se, sn]⟩) ∧ After w0 w' D F qb (q.put { m with sh := sh }).2 (q.put { m with sh := sh }).1.1 (q.put { m with sh := sh }).1.2 se sn : ER) = Q
  have hsr : scalar sr = true := hq.r.sc
  have hss : scalar ss = true := hq.s.sc
  have hsm : scalar sm = true := hq.m.sc
  have llr := hq.lr
  apply F51_calls
  unfold F51
  refine bx_m (vs := m.enc) H fun w b1 H => ?_
  have h0 := H
  unfold Q25.mem at H
  unfold F51_j4
  (try simp only [W0])
  refine ld_m H (Has.cons Has.here) (o := 5) (v := sr) rfl ?_
  refine pv_of (lenS_ts hq.r) ?_
  refine gtr_k (fun hp => ?_) (fun hp => ?_)
  · (try simp only [W0])
    obtain ⟨y, ys, hy⟩ : ∃ y ys, q.rc = y :: ys := by
      cases hc : q.rc with
      | nil => rw [hc] at hp; simp at hp
      | cons y ys => exact ⟨y, ys, rfl⟩
    have hR := hq.r
    rw [hy] at hR llr
    refine drew_k H fun w H => ?_
    have c1 : cellsAt w ⟨b1, 0, none⟩ 0 2 = some m.enc := H.cellsM (t := 43) Has.here rfl
    (try simp only [W0])
    replace H : Hp w0 w (⟨qb, .t 62, sm :: q.rest sr ss⟩ :: (cr ++ (cm ++ (cs ++ (⟨b1, .t 43, m.enc⟩ :: F))))) := H.to fun q => by simp only [List.map_append, List.map_cons, List.sum_append, List.sum_cons]; omega
    refine cal_h (popR_spec (o := 5) hR rfl (by simp [Q25.rest]) (by simp at llr; omega) H) ?_
    rintro _ w ⟨sr', cr', rfl, hR', H⟩
    (try simp only [W0])
    refine pv_of fld_end ?_
    refine ldNS_m (l := m.enc) H (Has.cons (Has.app (Has.app (Has.app Has.here)))) rfl (by intro z hz; rw [List.mem_singleton.1 hz]; exact c1) ?_
    refine cal_h (copied_spec hm (fun c hc => List.mem_cons_of_mem _ (List.mem_append_right _ (List.mem_append_right _ (List.mem_append_right _ (List.mem_cons_of_mem _ (hD c hc)))))) H) ?_
    rintro _ w ⟨sh, D', rfl, hok, H⟩
    (try simp only [W0])
    refine bld_a ?_
    refine lit1_t (C := cEn) (x := ⟨y.th, { m with sh := sh }, 0⟩) elEn H rfl (by decide) fun w se ce H he => ?_
    have e : q.put { m with sh := sh } = (([⟨y.th, { m with sh := sh }, 0⟩], []), { q with rc := ys }) := by unfold Q25.put; rw [hy]
    subst hQ
    refine ⟨sh, se, .slice none 0 0, (by first | rfl | trivial), ?_⟩
    rw [e]
    refine ⟨D', sm, sr', ss, cm, cr', cs, ce, [], he, TS.nil, ⟨hq.m, hR', hq.s, fun k hk => (hq.dm k hk).mono fun c hc => List.mem_append_right _ hc, fun k hk => (hq.ds k hk).mono fun c hc => List.mem_append_right _ hc, fun x hx => (hq.n x hx).app, hq.lm, by show ys.length ≤ 64; simp at llr; omega, hq.ls⟩, ?_, H.to fun q => ?_⟩
    · intro e he2
      rw [List.mem_singleton.1 he2]
      exact hok.mono fun c hc => List.mem_append_left _ hc
    · simp only [Q25.mem, Q25.rest, List.set_cons_zero, List.set_cons_succ, List.nil_append, List.map_append, List.map_cons, List.sum_append, List.sum_cons]; omega
  · (try simp only [W0])
    have hrc : q.rc = [] := by
      cases hc : q.rc with
      | nil => rfl
      | cons y ys => rw [hc] at hp; simp at hp
    have hlt : q.ms.length < 64 := by
      rcases hr with h | h
      · exact absurd hrc h
      · exact h
    unfold F51_j1
    (try simp only [W0])
    refine ld_m H (Has.cons Has.here) (o := 3) (v := I q.num) rfl ?_
    refine add_k (by omega) (by omega) rfl ?_
    (try simp only [W0])
    refine st_m (o := 3) H (Upd.cons Upd.here) (by simp [Q25.rest]) rfl fun w H => ?_
    replace H : Hp w0 w (⟨b1, .t 43, m.enc⟩ :: (({ q with num := q.num + 1 } : Q25).mem qb sm sr ss cm cr cs F)) := H
    refine drew_k H fun w H => ?_
    unfold Q25.mem at H
    refine ldA_m (l := m.enc) H Has.here rfl ?_
    have c1 : w.cell? ⟨qb, 3, none⟩ = some (I (q.num + 1)) := H.cellM (t := 62) (Has.cons Has.here) rfl
    (try simp only [W0])
    refine cal_h (copied_spec hm (fun c hc => List.mem_cons_of_mem _ (List.mem_cons_of_mem _ (List.mem_append_right _ (List.mem_append_right _ (List.mem_append_right _ (hD c hc)))))) H) ?_
    rintro _ w ⟨sh, D', rfl, hok, H⟩
    (try simp only [W0])
    refine ldS_m H (Has.app (Has.cons Has.here)) (o := 3) (v := I (q.num + 1)) rfl (by intro z hz; rw [List.mem_singleton.1 hz]; exact c1) ?_
    (try simp only [W0])
    refine bld_a ?_
    replace H : Hp w0 w (Den.hq qb sm (({ q with num := q.num + 1 } : Q25).rest sr ss) cm (cr ++ (cs ++ (D' ++ (⟨b1, .t 43, m.enc⟩ :: F))))) := H.to fun q => by simp only [Den.hq, List.map_append, List.map_cons, List.sum_append, List.sum_cons]; omega
    refine cal_h (push_spec (x := ⟨{ m with sh := sh }, q.num + 1⟩) (mx := I 0) (sz := I 0) (nu := I 0) (nw := I 0) (sr := I 0) (ss := I 0) (no := I 0) hq.m (by omega) H) ?_
    rintro _ w ⟨sm', cm', rfl, hM, H⟩
    have hlen := pushK_len q.ms ⟨{ m with sh := sh }, q.num + 1⟩
    have hD' : ∀ k ∈ pushK q.ms ⟨{ m with sh := sh }, q.num + 1⟩, MsOK w0 (D' ++ D) k.m := by
      intro k hk
      rcases pushK_mem hk with h | h
      · exact (hq.dm k h).mono fun c hc => List.mem_append_right _ hc
      · subst h; exact hok.mono fun c hc => List.mem_append_left _ hc
    have hat : ∀ no : Option (Nat × Nc), (∀ x, no = some x → Has D x.1 (.t 92) x.2.enc) → QAt w0 (D' ++ D) { q with num := q.num + 1, ms := pushK q.ms ⟨{ m with sh := sh }, q.num + 1⟩, nt := no } sm' sr ss cm' cr cs := fun no hno =>
      ⟨hM, hq.r, hq.s, hD', fun k hk => (hq.ds k hk).mono fun c hc => List.mem_append_right _ hc, fun x hx => (hno x hx).app, by show (pushK _ _).length ≤ 64; rw [hlen]; omega, hq.lr, hq.ls⟩
    unfold F51_j3
    unfold Den.hq at H
    (try simp only [W0])
    refine ld_m H Has.here (o := 0) (v := sm') rfl ?_
    refine cal_h (len_spec hM.tr H) ?_
    rintro _ w ⟨rfl, H⟩
    (try simp only [W0])
    have quiet : ∀ w, q.put { m with sh := sh } = (([], []), { q with num := q.num + 1, ms := pushK q.ms ⟨{ m with sh := sh }, q.num + 1⟩ }) → Hp w0 w (⟨qb, .t 62, sm' :: ({ q with num := q.num + 1 } : Q25).rest sr ss⟩ :: (cm' ++ (cr ++ (cs ++ (D' ++ (⟨b1, .t 43, m.enc⟩ :: F)))))) → Q (.returned (.tuple ⟨[.slice none 0 0, .slice none 0 0]⟩)) w := by
      intro w e H
      subst hQ
      refine ⟨sh, .slice none 0 0, .slice none 0 0, rfl, ?_⟩
      rw [e]
      refine ⟨D', sm', sr, ss, cm', cr, cs, [], [], TS.nil, TS.nil, hat q.nt hq.n, by simp, H.to fun q => ?_⟩
      simp only [Q25.mem, Q25.rest, List.nil_append, List.map_append, List.map_cons, List.sum_append, List.sum_cons]; omega
    refine gtr_k (fun h1 => ?_) (fun h1 => ?_)
    · (try simp only [W0])
      refine quiet w ?_ H
      unfold Q25.put; rw [hrc]
      simp only
      cases hn : q.nt with
      | none => rfl
      | some x =>
        simp only
        rw [if_neg]
        intro h
        have h0 : q.ms.length = 0 := by rw [h]; rfl
        omega
    · (try simp only [W0])
      have hms : q.ms = [] := List.length_eq_zero_iff.1 (by omega)
      cases hn : q.nt with
      | none =>
        have hr1 : (sm' :: ({ q with num := q.num + 1 } : Q25).rest sr ss)[7]? = some (.pointer none) := by simp [Q25.rest, hn, npv]
        refine ld_m H Has.here (o := 7) hr1 ?_
        (try simp only [W0])
        refine quiet w ?_ H
        unfold Q25.put; rw [hrc]
        simp only [hn]
      | some x =>
        obtain ⟨nb, nc⟩ := x
        have hr1 : (sm' :: ({ q with num := q.num + 1 } : Q25).rest sr ss)[7]? = some (ptr nb 0) := by simp [Q25.rest, hn, npv]
        refine ld_m H Has.here (o := 7) hr1 ?_
        (try simp only [W0])
        unfold F51_j2
        (try simp only [W0])
        refine ld_m H Has.here (o := 7) hr1 ?_
        (try simp only [W0])
        have hnb := hq.n _ hn
        refine ldA_m (l := nc.enc) H (Has.cons (Has.app (Has.app (Has.app (Has.app (Has.cons (hD _ hnb))))))) rfl ?_
        refine al_m (ys := [I 0, I 0, I 0, I 0, I 0, I 0]) H (by kernel_rfl) fun w b7 H => ?_
        refine stA_m (vs := nc.enc) H Upd.here rfl rfl (cNc.sc nc) fun w H => ?_
        (try simp only [W0])
        refine st_m (o := 7) H (Upd.cons Upd.here) (by simp [Q25.rest]) rfl fun w H => ?_
        refine drew_k H fun w H => ?_
        refine ldA_m (l := nc.enc) H Has.here rfl ?_
        (try simp only [W0])
        refine lit1_t (C := cNc) (x := nc) elNc H rfl (by decide) fun w sn cn H he => ?_
        have e : q.put { m with sh := sh } = (([], [nc]), { q with num := q.num + 1, ms := pushK q.ms ⟨{ m with sh := sh }, q.num + 1⟩, nt := none }) := by unfold Q25.put; rw [hrc, hn]; simp only; rw [if_pos hms]
        subst hQ
        refine ⟨sh, .slice none 0 0, sn, (by first | rfl | trivial), ?_⟩
        rw [e]
        refine ⟨D', sm', sr, ss, cm', cr, cs, [], cn, TS.nil, he, hat none (by intro x hx; cases hx), by simp, H.to fun q => ?_⟩
        simp only [Q25.mem, Q25.rest, npv, Option.map_none, List.set_cons_zero, List.set_cons_succ, List.nil_append, List.map_append, List.map_cons, List.sum_append, List.sum_cons]; omega
end
end Go.Proofs.YthcekppbbanfeaaGreat.Den
