/- Message queue: slices.DeleteFunc over the waiting threads, drop, late. Conditions: none. -/
import Derived.Test.YthcekppbbanfeaaGreatMqF
set_option linter.unusedVariables false
set_option linter.unusedSimpArgs false
set_option maxRecDepth 8000
set_option maxHeartbeats 2000000
namespace Go.Proofs.YthcekppbbanfeaaGreat.Den
open Go Go.RowKit
/-- Has a deadline passed? -/
def passed (now dl : Int) : Bool := decide (dl ≠ 0) && decide (dl ≤ now)
section
variable {w w' w0 : World} {L L' F cs cs2 cs3 : List Chunk} {s s2 : Value} {K : VK} {R : ER} {b qb : Nat} {th dl now : Int}
theorem idxFS_spec {xs : List Sw} {St : Nat → List Chunk → Prop} {del : Sw → Bool} {f : Nat} {cap : List Value} (h : TS cSw 113 s xs cs) (hok : enterOk Pg f = true) (hl : xs.length < 2 ^ 30)
    (hcl : ∀ i x, xs[i]? = some x → ∀ w c F, St i F → Hp w0 w (c ++ F) → Calls Pg f ⟨[] ++ [.agg ⟨x.enc⟩] ++ cap⟩ w fun e w' => ∃ F', e = .returned (.bool (del x)) ∧ Hp w0 w' (c ++ F') ∧ St (i + 1) F') (hS : St 0 F) (H : Hp w0 w (cs ++ F)) :
    Calls Pg 103 ⟨[s, .func (.func f) ⟨[]⟩ ⟨cap⟩]⟩ w fun e w' => ∃ F', Hp w0 w' (cs ++ F') ∧ ((e = .returned (I (-1)) ∧ (∀ x ∈ xs, del x = false) ∧ St xs.length F') ∨
      ∃ i : Nat, e = .returned (I (i : Int)) ∧ i < xs.length ∧ (∀ x ∈ xs.take i, del x = false) ∧ (∀ x, xs[i]? = some x → del x = true) ∧ St (i + 1) F') := by
  apply F103_calls
  unfold F103 F103_j2
  refine pv_of (lenS_ts h) ?_
  unfold F103_j3
  refine loop4 (F103_l1_succ _) (fun m x0 x1 x7 x8 w => ∃ (i : Nat) (F' : List Chunk), x0 = s ∧ x1 = .func (.func f) ⟨[]⟩ ⟨cap⟩ ∧ x7 = I (xs.length : Int) ∧ x8 = I (i : Int) ∧ m + i = xs.length ∧ (∀ x ∈ xs.take i, del x = false) ∧ St i F' ∧ Hp w0 w (cs ++ F')) ?_ (m := xs.length)
    ⟨0, F, rfl, rfl, rfl, rfl, rfl, by simp, hS, H⟩
  clear H
  rintro m k x0 x1 x7 x8 w ⟨i, F', rfl, rfl, rfl, rfl, hmi, hlo, hSt, H⟩ hk
  unfold F103_b1
  refine lss_k (fun hi => ?_) (fun hi => ?_)
  · (try simp only [W0])
    unfold F103_j4
    obtain ⟨x, hx⟩ : ∃ x, xs[i]? = some x := ⟨_, List.getElem?_eq_getElem (by omega)⟩
    refine ixN_t (C := cSw) h.tr H (fun c hc => List.mem_append_left _ hc) hx (by decide) ?_
    refine calD_k (a := []) hok ?_
    refine cal_h (hcl i x hx w cs F' hSt H) ?_
    rintro _ w ⟨F2, rfl, H, hSt⟩
    (try simp only [W0])
    cases hd : del x with
    | true =>
      (try simp only [W0])
      refine ⟨F2, H, .inr ⟨i, rfl, by omega, hlo, fun y hy => ?_, hSt⟩⟩
      rw [hx] at hy; injection hy with hy; rw [← hy]; exact hd
    | false =>
      (try simp only [W0])
      refine add_k (z := ((i + 1 : Nat) : Int)) (by omega) (by omega) (by omega) ?_
      refine hk (m - 1) _ _ _ _ _ (by omega) ⟨i + 1, F2, rfl, rfl, rfl, rfl, by omega, fun y hy => ?_, hSt, H⟩
      rw [List.take_add_one, hx] at hy
      rcases List.mem_append.1 hy with h1 | h1
      · exact hlo y h1
      · simp at h1; subst h1; exact hd
  · (try simp only [W0])
    unfold F103_j1
    obtain rfl : i = xs.length := by omega
    exact ⟨F', H, .inl ⟨rfl, by simpa using hlo, hSt⟩⟩
theorem sDelFS_spec {xs : List Sw} {St : Nat → List Chunk → Prop} {del : Sw → Bool} {f : Nat} {cap : List Value} (h : TS cSw 113 s xs cs) (hok : enterOk Pg f = true) (hl : xs.length < 2 ^ 30)
    (hcl : ∀ i x, xs[i]? = some x → ∀ w c F, St i F → Hp w0 w (c ++ F) → Calls Pg f ⟨[] ++ [.agg ⟨x.enc⟩] ++ cap⟩ w fun e w' => ∃ F', e = .returned (.bool (del x)) ∧ Hp w0 w' (c ++ F') ∧ St (i + 1) F') (hS : St 0 F) (H : Hp w0 w (cs ++ F)) :
    Calls Pg 81 ⟨[s, .func (.func f) ⟨[]⟩ ⟨cap⟩]⟩ w fun e w' => ∃ s' cs' F', e = .returned s' ∧ TS cSw 113 s' (xs.filter fun x => !del x) cs' ∧ Hp w0 w' (cs' ++ F') ∧ St xs.length F' := by
  apply F81_calls
  unfold F81
  refine cal_h (idxFS_spec h hok hl hcl hS H) ?_
  rintro _ w ⟨F1, H, ⟨rfl, hno, hSt⟩ | ⟨i, rfl, hi, hlo, hat, hSt⟩⟩
  · (try simp only [W0])
    refine eql_y (by decide) ?_
    (try simp only [W0])
    exact ⟨s, cs, F1, (by first | rfl | trivial), by rw [filter_none hno]; exact h, H, hSt⟩
  (try simp only [W0])
  refine eql_n (by omega) ?_
  (try simp only [W0])
  unfold F81_j1 F81_j3
  refine add_k (z := ((i + 1 : Nat) : Int)) (by omega) (by omega) (by omega) ?_
  unfold F81_j4
  obtain ⟨x0, hx0⟩ : ∃ x, xs[i]? = some x := ⟨_, List.getElem?_eq_getElem hi⟩
  have hti : (xs.take (i + 1)).filter (fun x => !del x) = xs.take i := by
    rw [List.take_add_one, hx0, List.filter_append, filter_none hlo]
    simp [hat x0 hx0]
  refine loop4 (F81_l1_succ _) (fun m x0 x1 x5 x6 w => ∃ (a j : Nat) (ys : List Sw) (cs' F' : List Chunk), x0 = s ∧ x1 = .func (.func f) ⟨[]⟩ ⟨cap⟩ ∧ x5 = I (a : Int) ∧ x6 = I (j : Int) ∧ m + j = xs.length ∧ a < j ∧ ys.length = xs.length ∧ ys.take a = (xs.take j).filter (fun x => !del x) ∧ ys.drop j = xs.drop j ∧
      TS cSw 113 s ys cs' ∧ St j F' ∧ Hp w0 w (cs' ++ F')) ?_ (m := xs.length - (i + 1))
    ⟨i, i + 1, xs, cs, F1, rfl, rfl, rfl, rfl, by omega, by omega, rfl, hti.symm, rfl, h, hSt, H⟩
  clear H
  rintro m k y0 y1 y5 y6 w ⟨a, j, ys, cs', F', rfl, rfl, rfl, rfl, hmj, haj, hyl, hya, hyd, hT, hSt, H⟩ hk
  unfold F81_b1
  refine pv_of (lenS_ts hT) ?_
  refine lss_k (fun hj => ?_) (fun hj => ?_)
  · (try simp only [W0])
    have hj' : j < xs.length := by omega
    unfold F81_j5 F81_j7
    obtain ⟨x, hx⟩ : ∃ x, xs[j]? = some x := ⟨_, List.getElem?_eq_getElem hj'⟩
    have hyx : ys[j]? = some x := by
      have := congrArg (fun l : List Sw => l[0]?) hyd
      simpa [hx] using this
    refine ixN_t (C := cSw) hT.tr H (fun c hc => List.mem_append_left _ hc) hyx (by decide) ?_
    refine al_m (ys := zvS) H (by kernel_rfl) fun w b6 H => ?_
    refine stA_m (vs := x.enc) H Upd.here rfl rfl (cSw.sc x) fun w H => ?_
    refine ldA_m (l := x.enc) H Has.here rfl ?_
    refine calD_k (a := []) hok ?_
    refine cal_h (hcl j x hx w (⟨b6, .t 113, x.enc⟩ :: cs') F' hSt H) ?_
    rintro _ w ⟨F2, rfl, H, hSt⟩
    (try simp only [W0])
    have htj : xs.take (j + 1) = xs.take j ++ [x] := by rw [List.take_add_one, hx]; rfl
    have hal : a = ((xs.take j).filter fun x => !del x).length := by rw [← hya, List.length_take]; omega
    have hd1 : ys.drop (j + 1) = xs.drop (j + 1) := by
      have := congrArg (List.drop 1) hyd
      simpa [List.drop_drop] using this
    cases hd : del x with
    | true =>
      (try simp only [W0])
      unfold F81_j6
      refine add_k (z := ((j + 1 : Nat) : Int)) (by omega) (by omega) (by omega) ?_
      refine hk (m - 1) _ _ _ _ _ (by omega) ⟨a, j + 1, ys, cs', F2, rfl, rfl, rfl, rfl, by omega, by omega, hyl, ?_, hd1, hT, hSt, H.tail⟩
      rw [htj, List.filter_append, hya]; simp [hd]
    | false =>
      (try simp only [W0])
      refine ldA_m (l := x.enc) H Has.here rfl ?_
      refine istN_t (C := cSw) (x := x) hT H (Split.cons Split.here) (by omega) fun w cs2 H hT => ?_
      refine add_k (z := ((a + 1 : Nat) : Int)) (by omega) (by omega) (by omega) ?_
      unfold F81_j6
      refine add_k (z := ((j + 1 : Nat) : Int)) (by omega) (by omega) (by omega) ?_
      refine hk (m - 1) _ _ _ _ _ (by omega) ⟨a + 1, j + 1, ys.set a x, cs2, F2, rfl, rfl, rfl, rfl, by omega, by omega, by simp [hyl], ?_, ?_, hT, hSt, H.to fun q => by simp only [List.map_append, List.map_cons, List.sum_append, List.sum_cons]; omega⟩
      · rw [htj, List.filter_append, ← hya, List.take_add_one, List.take_set_of_le (Nat.le_refl _)]
        simp [hd, show a < ys.length by omega]
      · rw [List.drop_set_of_lt (by omega)]; exact hd1
  · (try simp only [W0])
    unfold F81_j2
    have hj' : j = xs.length := by omega
    subst hj'
    obtain ⟨b, cap', rest, rfl, rfl, hc1, hc2⟩ := hT.chunk (by omega)
    have hfl : (cSw.all ys).length = ys.length * cSw.sz := all_len
    have hll : (cSw.all ys ++ rest).length = cap' * cSw.sz := by rw [List.length_append, hfl, hc2, ← Nat.add_mul]; congr 1; omega
    refine pv_of (slFrom (sz := cSw.sz) (o := 0) (by omega) hc1 (by omega)) ?_
    refine clear_h (z := zvS) elSw H (by omega) (by rw [hll, Nat.zero_add, ← Nat.add_mul]; exact Nat.mul_le_mul_right _ (by omega)) (by intro c hc; simp at hc; rcases hc with rfl | rfl | rfl | rfl <;> rfl) fun w l' hl1 hl2 H => ?_
    refine pv_of (slTo (by omega)) ?_
    have htake : l'.take (a * cSw.sz) = cSw.all (ys.take a) := by
      rw [Nat.zero_add] at hl2
      rw [hl2, List.take_append_of_le_length (by rw [hfl]; exact Nat.mul_le_mul_right _ (by omega)), all_take]
    have hys : xs.filter (fun x => !del x) = ys.take a := by rw [hya, List.take_length]
    refine ⟨_, [⟨b, .t 113, l'⟩], F', rfl, ?_, H, hSt⟩
    rw [hys]
    have hrl : (l'.drop (a * cSw.sz)).length = (cap' - a) * cSw.sz := by rw [List.length_drop, hl1, hll, ← Nat.sub_mul]
    have := TS.mk (C := cSw) (el := 113) (xs := ys.take a) (b := b) (cap := cap') (n := a) (rest := l'.drop (a * cSw.sz)) (by simp; omega) (by omega) hrl
    rw [← htake, List.take_append_drop] at this
    exact this
theorem dropS_spec {xs : List Sw} {o : Nat} {l : List Value} (h : TS cSw 113 s xs cs) (hl : l[o]? = some s) (ho : o < l.length) (hn : xs.length < 2 ^ 20) (H : Hp w0 w (⟨qb, .t 62, l⟩ :: (cs ++ F))) :
    Calls Pg 62 ⟨[ptr qb o, I th]⟩ w fun e w' => ∃ s' cs', e = .returned (.bool (decide (th ∈ xs.map Sw.th))) ∧ TS cSw 113 s' (xs.filter fun x => !decide (x.th = th)) cs' ∧ Hp w0 w' (⟨qb, .t 62, l.set o s'⟩ :: (cs' ++ F)) := by
  have hsc : scalar s = true := h.sc
  apply F62_calls
  unfold F62
  refine bxs_h H rfl fun w b1 H => ?_
  (try simp only [W0])
  refine ld_m H (Has.cons Has.here) (o := o) hl ?_
  refine pv_of (lenS_ts h) ?_
  (try simp only [W0])
  refine ld_m H (Has.cons Has.here) (o := o) hl ?_
  replace H : Hp w0 w (cs ++ (⟨b1, .t 3, [I th]⟩ :: ⟨qb, .t 62, l⟩ :: F)) := H.to fun q => by simp only [List.map_append, List.map_cons, List.sum_append, List.sum_cons]; omega
  refine cal_h (sDelFS_spec (St := fun _ G => G = ⟨b1, .t 3, [I th]⟩ :: ⟨qb, .t 62, l⟩ :: F) (del := fun x => decide (x.th = th)) (f := 82) (cap := [ptr b1 0]) h (by kernel_rfl) (by omega) ?_ rfl H) ?_
  · clear H
    rintro i x hx w c G rfl H
    apply F82_calls
    unfold F82
    refine bx_m (vs := x.enc) H fun w b2 H => ?_
    (try simp only [W0])
    refine ld_m H Has.here (o := 0) (v := I x.th) rfl ?_
    refine ld_m H (Has.cons (Has.app Has.here)) (o := 0) (v := I th) rfl ?_
    rw [bin_eql, pv_some]
    exact ⟨_, (by first | rfl | trivial), H.tail, rfl⟩
  rintro _ w ⟨s', c', G, rfl, h', H, rfl⟩
  have hs' : scalar s' = true := h'.sc
  (try simp only [W0])
  refine st_m (o := o) H (Upd.app (Upd.cons Upd.here)) ho hs' fun w H => ?_
  refine ld_m H (Has.app (Has.cons Has.here)) (o := o) (v := s') (by rw [List.getElem?_set_self ho]) ?_
  refine pv_of (lenS_ts h') ?_
  rw [bin_lss, pv_some]
  refine ⟨s', c', ?_, h', H.to fun q => ?_⟩
  · congr 2
    rw [decide_eq_decide]
    have key : ∀ (l : List Sw), (l.filter fun x => !decide (x.th = th)).length < l.length ↔ th ∈ l.map Sw.th := by
      intro l
      induction l with
      | nil => simp
      | cons y l ih =>
        have hle := List.length_filter_le (fun x : Sw => !decide (x.th = th)) l
        by_cases e : y.th = th
        · simp only [List.filter_cons, e, decide_true, Bool.not_true, List.map_cons, List.mem_cons, true_or, iff_true, List.length_cons]
          simp only [Bool.false_eq_true, if_false]; omega
        · have e2 : ¬ th = y.th := fun h => e h.symm
          simp only [List.filter_cons, e, decide_false, Bool.not_false, if_true, List.map_cons, List.mem_cons, e2, false_or, List.length_cons, ← ih]; omega
    rw [← key xs]; omega
  · simp only [List.map_append, List.map_cons, List.sum_append, List.sum_cons]; omega
theorem lateS_spec {xs : List Sw} {o : Nat} {l : List Value} (h : TS cSw 113 s xs cs) (hl : l[o]? = some s) (ho : o < l.length) (hn : xs.length < 2 ^ 20) (H : Hp w0 w (⟨qb, .t 62, l⟩ :: (cs ++ F))) :
    Calls Pg 66 ⟨[ptr qb o, I now]⟩ w fun e w' => ∃ s' cs' so co, e = .returned so ∧ TS cSw 113 so (xs.filter fun x => passed now x.dl) co ∧ TS cSw 113 s' (xs.filter fun x => !passed now x.dl) cs' ∧ Hp w0 w' (co ++ (⟨qb, .t 62, l.set o s'⟩ :: (cs' ++ F))) := by
  have hsc : scalar s = true := h.sc
  apply F66_calls
  unfold F66
  refine bxs_h H rfl fun w b1 H => ?_
  refine al_m (ys := [.slice none 0 0]) H (by kernel_rfl) fun w b2 H => ?_
  (try simp only [W0])
  refine ld_m H (Has.cons (Has.cons Has.here)) (o := o) hl ?_
  replace H : Hp w0 w (cs ++ (⟨b2, .t 57, [.slice none 0 0]⟩ :: ([] ++ (⟨b1, .t 2, [I now]⟩ :: ⟨qb, .t 62, l⟩ :: F)))) := H.to fun q => by simp only [List.nil_append, List.map_append, List.map_cons, List.sum_append, List.sum_cons]; omega
  refine cal_h (sDelFS_spec (St := fun i G => ∃ so co, TS cSw 113 so ((xs.take i).filter fun x => passed now x.dl) co ∧ G = ⟨b2, .t 57, [so]⟩ :: (co ++ (⟨b1, .t 2, [I now]⟩ :: ⟨qb, .t 62, l⟩ :: F))) (del := fun x => passed now x.dl) (f := 85) (cap := [ptr b1 0, ptr b2 0]) h (by kernel_rfl) (by omega) ?_ ⟨.slice none 0 0, [], TS.nil, rfl⟩ H) ?_
  · clear H
    rintro i x hx w c G ⟨so, co, ho, rfl⟩ H
    have hso : scalar so = true := ho.sc
    have hlen : ((xs.take i).filter fun x => passed now x.dl).length ≤ xs.length := Nat.le_trans (List.length_filter_le _ _) (by rw [List.length_take]; omega)
    have htk : xs.take (i + 1) = xs.take i ++ [x] := by rw [List.take_add_one, hx]; rfl
    apply F85_calls
    unfold F85
    refine bx_m (vs := x.enc) H fun w b3 H => ?_
    (try simp only [W0])
    refine ld_m H Has.here (o := 1) (v := I x.dl) rfl ?_
    rw [bin_neq, pv_some]
    have fin0 : ∀ w, passed now x.dl = false → Hp w0 w (⟨b3, .t 113, x.enc⟩ :: (c ++ (⟨b2, .t 57, [so]⟩ :: (co ++ (⟨b1, .t 2, [I now]⟩ :: ⟨qb, .t 62, l⟩ :: F))))) →
        ∃ F', Ending.returned (.bool false) = .returned (.bool (passed now x.dl)) ∧ Hp w0 w (c ++ F') ∧ ∃ so co, TS cSw 113 so ((xs.take (i + 1)).filter fun x => passed now x.dl) co ∧ F' = ⟨b2, .t 57, [so]⟩ :: (co ++ (⟨b1, .t 2, [I now]⟩ :: ⟨qb, .t 62, l⟩ :: F)) := by
      intro w hp H
      refine ⟨_, by rw [hp], H.tail, so, co, ?_, rfl⟩
      rw [htk, List.filter_append]
      simpa [hp] using ho
    by_cases e1 : x.dl ≠ 0
    · rw [decide_eq_true e1]
      (try simp only [W0])
      refine ld_m H Has.here (o := 1) (v := I x.dl) rfl ?_
      (try simp only [W0])
      refine ld_m H (Has.cons (Has.app (Has.cons (Has.app Has.here)))) (o := 0) (v := I now) rfl ?_
      (try simp only [W0])
      refine leq_k (fun e2 => ?_) (fun e2 => ?_)
      · (try simp only [W0])
        have hp : passed now x.dl = true := by unfold passed; rw [decide_eq_true e1, decide_eq_true e2]; rfl
        refine ld_m H (Has.cons (Has.app Has.here)) (o := 0) (v := so) rfl ?_
        refine ldA_m (l := x.enc) H Has.here rfl ?_
        refine app1_t (C := cSw) (x := x) (F := ⟨b3, .t 113, x.enc⟩ :: (c ++ (⟨b2, .t 57, [so]⟩ :: ⟨b1, .t 2, [I now]⟩ :: ⟨qb, .t 62, l⟩ :: F))) elSw H ho (Split.cons (Split.app (Split.cons Split.here))) rfl (by decide) (by omega) (by omega) fun w s2 c2 H h2 => ?_
        have hs2 : scalar s2 = true := h2.sc
        refine st_m (o := 0) H (Upd.app (Upd.cons (Upd.app Upd.here))) (by simp) hs2 fun w H => ?_
        unfold F85_j1
        refine ⟨⟨b2, .t 57, [s2]⟩ :: (c2 ++ (⟨b1, .t 2, [I now]⟩ :: ⟨qb, .t 62, l⟩ :: F)), by rw [hp], H.to fun q => ?_, s2, c2, ?_, rfl⟩
        · simp only [List.set_cons_zero, List.map_append, List.map_cons, List.sum_append, List.sum_cons]; omega
        · rw [htk, List.filter_append]
          simpa [hp] using h2
      · (try simp only [W0])
        unfold F85_j1
        exact fin0 w (by unfold passed; rw [decide_eq_false e2]; simp) H
    · rw [decide_eq_false e1]
      (try simp only [W0])
      unfold F85_j1
      exact fin0 w (by unfold passed; rw [decide_eq_false e1]; rfl) H
  rintro _ w ⟨s', c', G, rfl, h', H, so, co, hso, rfl⟩
  rw [List.take_length] at hso
  have hs' : scalar s' = true := h'.sc
  (try simp only [W0])
  refine st_m (o := o) H (Upd.app (Upd.cons (Upd.app (Upd.cons Upd.here)))) ho hs' fun w H => ?_
  refine ld_m H (Has.app Has.here) (o := 0) (v := so) rfl ?_
  refine ⟨s', c', so, co, (by first | rfl | trivial), hso, h', H.to fun q => ?_⟩
  simp only [List.map_append, List.map_cons, List.sum_append, List.sum_cons]; omega
end
section
variable {w w' w0 : World} {L L' F cs cs2 cs3 : List Chunk} {s s2 : Value} {K : VK} {R : ER} {b qb : Nat} {th dl now : Int}
theorem idxFR_spec {xs : List Rw} {St : Nat → List Chunk → Prop} {del : Rw → Bool} {f : Nat} {cap : List Value} (h : TS cRw 115 s xs cs) (hok : enterOk Pg f = true) (hl : xs.length < 2 ^ 30)
    (hcl : ∀ i x, xs[i]? = some x → ∀ w c F, St i F → Hp w0 w (c ++ F) → Calls Pg f ⟨[] ++ [.agg ⟨x.enc⟩] ++ cap⟩ w fun e w' => ∃ F', e = .returned (.bool (del x)) ∧ Hp w0 w' (c ++ F') ∧ St (i + 1) F') (hS : St 0 F) (H : Hp w0 w (cs ++ F)) :
    Calls Pg 104 ⟨[s, .func (.func f) ⟨[]⟩ ⟨cap⟩]⟩ w fun e w' => ∃ F', Hp w0 w' (cs ++ F') ∧ ((e = .returned (I (-1)) ∧ (∀ x ∈ xs, del x = false) ∧ St xs.length F') ∨
      ∃ i : Nat, e = .returned (I (i : Int)) ∧ i < xs.length ∧ (∀ x ∈ xs.take i, del x = false) ∧ (∀ x, xs[i]? = some x → del x = true) ∧ St (i + 1) F') := by
  apply F104_calls
  unfold F104 F104_j2
  refine pv_of (lenS_ts h) ?_
  unfold F104_j3
  refine loop4 (F104_l1_succ _) (fun m x0 x1 x7 x8 w => ∃ (i : Nat) (F' : List Chunk), x0 = s ∧ x1 = .func (.func f) ⟨[]⟩ ⟨cap⟩ ∧ x7 = I (xs.length : Int) ∧ x8 = I (i : Int) ∧ m + i = xs.length ∧ (∀ x ∈ xs.take i, del x = false) ∧ St i F' ∧ Hp w0 w (cs ++ F')) ?_ (m := xs.length)
    ⟨0, F, rfl, rfl, rfl, rfl, rfl, by simp, hS, H⟩
  clear H
  rintro m k x0 x1 x7 x8 w ⟨i, F', rfl, rfl, rfl, rfl, hmi, hlo, hSt, H⟩ hk
  unfold F104_b1
  refine lss_k (fun hi => ?_) (fun hi => ?_)
  · (try simp only [W0])
    unfold F104_j4
    obtain ⟨x, hx⟩ : ∃ x, xs[i]? = some x := ⟨_, List.getElem?_eq_getElem (by omega)⟩
    refine ixN_t (C := cRw) h.tr H (fun c hc => List.mem_append_left _ hc) hx (by decide) ?_
    refine calD_k (a := []) hok ?_
    refine cal_h (hcl i x hx w cs F' hSt H) ?_
    rintro _ w ⟨F2, rfl, H, hSt⟩
    (try simp only [W0])
    cases hd : del x with
    | true =>
      (try simp only [W0])
      refine ⟨F2, H, .inr ⟨i, rfl, by omega, hlo, fun y hy => ?_, hSt⟩⟩
      rw [hx] at hy; injection hy with hy; rw [← hy]; exact hd
    | false =>
      (try simp only [W0])
      refine add_k (z := ((i + 1 : Nat) : Int)) (by omega) (by omega) (by omega) ?_
      refine hk (m - 1) _ _ _ _ _ (by omega) ⟨i + 1, F2, rfl, rfl, rfl, rfl, by omega, fun y hy => ?_, hSt, H⟩
      rw [List.take_add_one, hx] at hy
      rcases List.mem_append.1 hy with h1 | h1
      · exact hlo y h1
      · simp at h1; subst h1; exact hd
  · (try simp only [W0])
    unfold F104_j1
    obtain rfl : i = xs.length := by omega
    exact ⟨F', H, .inl ⟨rfl, by simpa using hlo, hSt⟩⟩
theorem sDelFR_spec {xs : List Rw} {St : Nat → List Chunk → Prop} {del : Rw → Bool} {f : Nat} {cap : List Value} (h : TS cRw 115 s xs cs) (hok : enterOk Pg f = true) (hl : xs.length < 2 ^ 30)
    (hcl : ∀ i x, xs[i]? = some x → ∀ w c F, St i F → Hp w0 w (c ++ F) → Calls Pg f ⟨[] ++ [.agg ⟨x.enc⟩] ++ cap⟩ w fun e w' => ∃ F', e = .returned (.bool (del x)) ∧ Hp w0 w' (c ++ F') ∧ St (i + 1) F') (hS : St 0 F) (H : Hp w0 w (cs ++ F)) :
    Calls Pg 83 ⟨[s, .func (.func f) ⟨[]⟩ ⟨cap⟩]⟩ w fun e w' => ∃ s' cs' F', e = .returned s' ∧ TS cRw 115 s' (xs.filter fun x => !del x) cs' ∧ Hp w0 w' (cs' ++ F') ∧ St xs.length F' := by
  apply F83_calls
  unfold F83
  refine cal_h (idxFR_spec h hok hl hcl hS H) ?_
  rintro _ w ⟨F1, H, ⟨rfl, hno, hSt⟩ | ⟨i, rfl, hi, hlo, hat, hSt⟩⟩
  · (try simp only [W0])
    refine eql_y (by decide) ?_
    (try simp only [W0])
    exact ⟨s, cs, F1, (by first | rfl | trivial), by rw [filter_none hno]; exact h, H, hSt⟩
  (try simp only [W0])
  refine eql_n (by omega) ?_
  (try simp only [W0])
  unfold F83_j1 F83_j3
  refine add_k (z := ((i + 1 : Nat) : Int)) (by omega) (by omega) (by omega) ?_
  unfold F83_j4
  obtain ⟨x0, hx0⟩ : ∃ x, xs[i]? = some x := ⟨_, List.getElem?_eq_getElem hi⟩
  have hti : (xs.take (i + 1)).filter (fun x => !del x) = xs.take i := by
    rw [List.take_add_one, hx0, List.filter_append, filter_none hlo]
    simp [hat x0 hx0]
  refine loop4 (F83_l1_succ _) (fun m x0 x1 x5 x6 w => ∃ (a j : Nat) (ys : List Rw) (cs' F' : List Chunk), x0 = s ∧ x1 = .func (.func f) ⟨[]⟩ ⟨cap⟩ ∧ x5 = I (a : Int) ∧ x6 = I (j : Int) ∧ m + j = xs.length ∧ a < j ∧ ys.length = xs.length ∧ ys.take a = (xs.take j).filter (fun x => !del x) ∧ ys.drop j = xs.drop j ∧
      TS cRw 115 s ys cs' ∧ St j F' ∧ Hp w0 w (cs' ++ F')) ?_ (m := xs.length - (i + 1))
    ⟨i, i + 1, xs, cs, F1, rfl, rfl, rfl, rfl, by omega, by omega, rfl, hti.symm, rfl, h, hSt, H⟩
  clear H
  rintro m k y0 y1 y5 y6 w ⟨a, j, ys, cs', F', rfl, rfl, rfl, rfl, hmj, haj, hyl, hya, hyd, hT, hSt, H⟩ hk
  unfold F83_b1
  refine pv_of (lenS_ts hT) ?_
  refine lss_k (fun hj => ?_) (fun hj => ?_)
  · (try simp only [W0])
    have hj' : j < xs.length := by omega
    unfold F83_j5 F83_j7
    obtain ⟨x, hx⟩ : ∃ x, xs[j]? = some x := ⟨_, List.getElem?_eq_getElem hj'⟩
    have hyx : ys[j]? = some x := by
      have := congrArg (fun l : List Rw => l[0]?) hyd
      simpa [hx] using this
    refine ixN_t (C := cRw) hT.tr H (fun c hc => List.mem_append_left _ hc) hyx (by decide) ?_
    refine al_m (ys := zvR) H (by kernel_rfl) fun w b6 H => ?_
    refine stA_m (vs := x.enc) H Upd.here rfl rfl (cRw.sc x) fun w H => ?_
    refine ldA_m (l := x.enc) H Has.here rfl ?_
    refine calD_k (a := []) hok ?_
    refine cal_h (hcl j x hx w (⟨b6, .t 115, x.enc⟩ :: cs') F' hSt H) ?_
    rintro _ w ⟨F2, rfl, H, hSt⟩
    (try simp only [W0])
    have htj : xs.take (j + 1) = xs.take j ++ [x] := by rw [List.take_add_one, hx]; rfl
    have hal : a = ((xs.take j).filter fun x => !del x).length := by rw [← hya, List.length_take]; omega
    have hd1 : ys.drop (j + 1) = xs.drop (j + 1) := by
      have := congrArg (List.drop 1) hyd
      simpa [List.drop_drop] using this
    cases hd : del x with
    | true =>
      (try simp only [W0])
      unfold F83_j6
      refine add_k (z := ((j + 1 : Nat) : Int)) (by omega) (by omega) (by omega) ?_
      refine hk (m - 1) _ _ _ _ _ (by omega) ⟨a, j + 1, ys, cs', F2, rfl, rfl, rfl, rfl, by omega, by omega, hyl, ?_, hd1, hT, hSt, H.tail⟩
      rw [htj, List.filter_append, hya]; simp [hd]
    | false =>
      (try simp only [W0])
      refine ldA_m (l := x.enc) H Has.here rfl ?_
      refine istN_t (C := cRw) (x := x) hT H (Split.cons Split.here) (by omega) fun w cs2 H hT => ?_
      refine add_k (z := ((a + 1 : Nat) : Int)) (by omega) (by omega) (by omega) ?_
      unfold F83_j6
      refine add_k (z := ((j + 1 : Nat) : Int)) (by omega) (by omega) (by omega) ?_
      refine hk (m - 1) _ _ _ _ _ (by omega) ⟨a + 1, j + 1, ys.set a x, cs2, F2, rfl, rfl, rfl, rfl, by omega, by omega, by simp [hyl], ?_, ?_, hT, hSt, H.to fun q => by simp only [List.map_append, List.map_cons, List.sum_append, List.sum_cons]; omega⟩
      · rw [htj, List.filter_append, ← hya, List.take_add_one, List.take_set_of_le (Nat.le_refl _)]
        simp [hd, show a < ys.length by omega]
      · rw [List.drop_set_of_lt (by omega)]; exact hd1
  · (try simp only [W0])
    unfold F83_j2
    have hj' : j = xs.length := by omega
    subst hj'
    obtain ⟨b, cap', rest, rfl, rfl, hc1, hc2⟩ := hT.chunk (by omega)
    have hfl : (cRw.all ys).length = ys.length * cRw.sz := all_len
    have hll : (cRw.all ys ++ rest).length = cap' * cRw.sz := by rw [List.length_append, hfl, hc2, ← Nat.add_mul]; congr 1; omega
    refine pv_of (slFrom (sz := cRw.sz) (o := 0) (by omega) hc1 (by omega)) ?_
    refine clear_h (z := zvR) elRw H (by omega) (by rw [hll, Nat.zero_add, ← Nat.add_mul]; exact Nat.mul_le_mul_right _ (by omega)) (by intro c hc; simp at hc; rcases hc with rfl | rfl <;> rfl) fun w l' hl1 hl2 H => ?_
    refine pv_of (slTo (by omega)) ?_
    have htake : l'.take (a * cRw.sz) = cRw.all (ys.take a) := by
      rw [Nat.zero_add] at hl2
      rw [hl2, List.take_append_of_le_length (by rw [hfl]; exact Nat.mul_le_mul_right _ (by omega)), all_take]
    have hys : xs.filter (fun x => !del x) = ys.take a := by rw [hya, List.take_length]
    refine ⟨_, [⟨b, .t 115, l'⟩], F', rfl, ?_, H, hSt⟩
    rw [hys]
    have hrl : (l'.drop (a * cRw.sz)).length = (cap' - a) * cRw.sz := by rw [List.length_drop, hl1, hll, ← Nat.sub_mul]
    have := TS.mk (C := cRw) (el := 115) (xs := ys.take a) (b := b) (cap := cap') (n := a) (rest := l'.drop (a * cRw.sz)) (by simp; omega) (by omega) hrl
    rw [← htake, List.take_append_drop] at this
    exact this
theorem dropR_spec {xs : List Rw} {o : Nat} {l : List Value} (h : TS cRw 115 s xs cs) (hl : l[o]? = some s) (ho : o < l.length) (hn : xs.length < 2 ^ 20) (H : Hp w0 w (⟨qb, .t 62, l⟩ :: (cs ++ F))) :
    Calls Pg 63 ⟨[ptr qb o, I th]⟩ w fun e w' => ∃ s' cs', e = .returned (.bool (decide (th ∈ xs.map Rw.th))) ∧ TS cRw 115 s' (xs.filter fun x => !decide (x.th = th)) cs' ∧ Hp w0 w' (⟨qb, .t 62, l.set o s'⟩ :: (cs' ++ F)) := by
  have hsc : scalar s = true := h.sc
  apply F63_calls
  unfold F63
  refine bxs_h H rfl fun w b1 H => ?_
  (try simp only [W0])
  refine ld_m H (Has.cons Has.here) (o := o) hl ?_
  refine pv_of (lenS_ts h) ?_
  (try simp only [W0])
  refine ld_m H (Has.cons Has.here) (o := o) hl ?_
  replace H : Hp w0 w (cs ++ (⟨b1, .t 3, [I th]⟩ :: ⟨qb, .t 62, l⟩ :: F)) := H.to fun q => by simp only [List.map_append, List.map_cons, List.sum_append, List.sum_cons]; omega
  refine cal_h (sDelFR_spec (St := fun _ G => G = ⟨b1, .t 3, [I th]⟩ :: ⟨qb, .t 62, l⟩ :: F) (del := fun x => decide (x.th = th)) (f := 84) (cap := [ptr b1 0]) h (by kernel_rfl) (by omega) ?_ rfl H) ?_
  · clear H
    rintro i x hx w c G rfl H
    apply F84_calls
    unfold F84
    refine bx_m (vs := x.enc) H fun w b2 H => ?_
    (try simp only [W0])
    refine ld_m H Has.here (o := 0) (v := I x.th) rfl ?_
    refine ld_m H (Has.cons (Has.app Has.here)) (o := 0) (v := I th) rfl ?_
    rw [bin_eql, pv_some]
    exact ⟨_, (by first | rfl | trivial), H.tail, rfl⟩
  rintro _ w ⟨s', c', G, rfl, h', H, rfl⟩
  have hs' : scalar s' = true := h'.sc
  (try simp only [W0])
  refine st_m (o := o) H (Upd.app (Upd.cons Upd.here)) ho hs' fun w H => ?_
  refine ld_m H (Has.app (Has.cons Has.here)) (o := o) (v := s') (by rw [List.getElem?_set_self ho]) ?_
  refine pv_of (lenS_ts h') ?_
  rw [bin_lss, pv_some]
  refine ⟨s', c', ?_, h', H.to fun q => ?_⟩
  · congr 2
    rw [decide_eq_decide]
    have key : ∀ (l : List Rw), (l.filter fun x => !decide (x.th = th)).length < l.length ↔ th ∈ l.map Rw.th := by
      intro l
      induction l with
      | nil => simp
      | cons y l ih =>
        have hle := List.length_filter_le (fun x : Rw => !decide (x.th = th)) l
        by_cases e : y.th = th
        · simp only [List.filter_cons, e, decide_true, Bool.not_true, List.map_cons, List.mem_cons, true_or, iff_true, List.length_cons]
          simp only [Bool.false_eq_true, if_false]; omega
        · have e2 : ¬ th = y.th := fun h => e h.symm
          simp only [List.filter_cons, e, decide_false, Bool.not_false, if_true, List.map_cons, List.mem_cons, e2, false_or, List.length_cons, ← ih]; omega
    rw [← key xs]; omega
  · simp only [List.map_append, List.map_cons, List.sum_append, List.sum_cons]; omega
theorem lateR_spec {xs : List Rw} {o : Nat} {l : List Value} (h : TS cRw 115 s xs cs) (hl : l[o]? = some s) (ho : o < l.length) (hn : xs.length < 2 ^ 20) (H : Hp w0 w (⟨qb, .t 62, l⟩ :: (cs ++ F))) :
    Calls Pg 67 ⟨[ptr qb o, I now]⟩ w fun e w' => ∃ s' cs' so co, e = .returned so ∧ TS cRw 115 so (xs.filter fun x => passed now x.dl) co ∧ TS cRw 115 s' (xs.filter fun x => !passed now x.dl) cs' ∧ Hp w0 w' (co ++ (⟨qb, .t 62, l.set o s'⟩ :: (cs' ++ F))) := by
  have hsc : scalar s = true := h.sc
  apply F67_calls
  unfold F67
  refine bxs_h H rfl fun w b1 H => ?_
  refine al_m (ys := [.slice none 0 0]) H (by kernel_rfl) fun w b2 H => ?_
  (try simp only [W0])
  refine ld_m H (Has.cons (Has.cons Has.here)) (o := o) hl ?_
  replace H : Hp w0 w (cs ++ (⟨b2, .t 54, [.slice none 0 0]⟩ :: ([] ++ (⟨b1, .t 2, [I now]⟩ :: ⟨qb, .t 62, l⟩ :: F)))) := H.to fun q => by simp only [List.nil_append, List.map_append, List.map_cons, List.sum_append, List.sum_cons]; omega
  refine cal_h (sDelFR_spec (St := fun i G => ∃ so co, TS cRw 115 so ((xs.take i).filter fun x => passed now x.dl) co ∧ G = ⟨b2, .t 54, [so]⟩ :: (co ++ (⟨b1, .t 2, [I now]⟩ :: ⟨qb, .t 62, l⟩ :: F))) (del := fun x => passed now x.dl) (f := 86) (cap := [ptr b1 0, ptr b2 0]) h (by kernel_rfl) (by omega) ?_ ⟨.slice none 0 0, [], TS.nil, rfl⟩ H) ?_
  · clear H
    rintro i x hx w c G ⟨so, co, ho, rfl⟩ H
    have hso : scalar so = true := ho.sc
    have hlen : ((xs.take i).filter fun x => passed now x.dl).length ≤ xs.length := Nat.le_trans (List.length_filter_le _ _) (by rw [List.length_take]; omega)
    have htk : xs.take (i + 1) = xs.take i ++ [x] := by rw [List.take_add_one, hx]; rfl
    apply F86_calls
    unfold F86
    refine bx_m (vs := x.enc) H fun w b3 H => ?_
    (try simp only [W0])
    refine ld_m H Has.here (o := 1) (v := I x.dl) rfl ?_
    rw [bin_neq, pv_some]
    have fin0 : ∀ w, passed now x.dl = false → Hp w0 w (⟨b3, .t 115, x.enc⟩ :: (c ++ (⟨b2, .t 54, [so]⟩ :: (co ++ (⟨b1, .t 2, [I now]⟩ :: ⟨qb, .t 62, l⟩ :: F))))) →
        ∃ F', Ending.returned (.bool false) = .returned (.bool (passed now x.dl)) ∧ Hp w0 w (c ++ F') ∧ ∃ so co, TS cRw 115 so ((xs.take (i + 1)).filter fun x => passed now x.dl) co ∧ F' = ⟨b2, .t 54, [so]⟩ :: (co ++ (⟨b1, .t 2, [I now]⟩ :: ⟨qb, .t 62, l⟩ :: F)) := by
      intro w hp H
      refine ⟨_, by rw [hp], H.tail, so, co, ?_, rfl⟩
      rw [htk, List.filter_append]
      simpa [hp] using ho
    by_cases e1 : x.dl ≠ 0
    · rw [decide_eq_true e1]
      (try simp only [W0])
      refine ld_m H Has.here (o := 1) (v := I x.dl) rfl ?_
      (try simp only [W0])
      refine ld_m H (Has.cons (Has.app (Has.cons (Has.app Has.here)))) (o := 0) (v := I now) rfl ?_
      (try simp only [W0])
      refine leq_k (fun e2 => ?_) (fun e2 => ?_)
      · (try simp only [W0])
        have hp : passed now x.dl = true := by unfold passed; rw [decide_eq_true e1, decide_eq_true e2]; rfl
        refine ld_m H (Has.cons (Has.app Has.here)) (o := 0) (v := so) rfl ?_
        refine ldA_m (l := x.enc) H Has.here rfl ?_
        refine app1_t (C := cRw) (x := x) (F := ⟨b3, .t 115, x.enc⟩ :: (c ++ (⟨b2, .t 54, [so]⟩ :: ⟨b1, .t 2, [I now]⟩ :: ⟨qb, .t 62, l⟩ :: F))) elRw H ho (Split.cons (Split.app (Split.cons Split.here))) rfl (by decide) (by omega) (by omega) fun w s2 c2 H h2 => ?_
        have hs2 : scalar s2 = true := h2.sc
        refine st_m (o := 0) H (Upd.app (Upd.cons (Upd.app Upd.here))) (by simp) hs2 fun w H => ?_
        unfold F86_j1
        refine ⟨⟨b2, .t 54, [s2]⟩ :: (c2 ++ (⟨b1, .t 2, [I now]⟩ :: ⟨qb, .t 62, l⟩ :: F)), by rw [hp], H.to fun q => ?_, s2, c2, ?_, rfl⟩
        · simp only [List.set_cons_zero, List.map_append, List.map_cons, List.sum_append, List.sum_cons]; omega
        · rw [htk, List.filter_append]
          simpa [hp] using h2
      · (try simp only [W0])
        unfold F86_j1
        exact fin0 w (by unfold passed; rw [decide_eq_false e2]; simp) H
    · rw [decide_eq_false e1]
      (try simp only [W0])
      unfold F86_j1
      exact fin0 w (by unfold passed; rw [decide_eq_false e1]; rfl) H
  rintro _ w ⟨s', c', G, rfl, h', H, so, co, hso, rfl⟩
  rw [List.take_length] at hso
  have hs' : scalar s' = true := h'.sc
  (try simp only [W0])
  refine st_m (o := o) H (Upd.app (Upd.cons (Upd.app (Upd.cons Upd.here)))) ho hs' fun w H => ?_
  refine ld_m H (Has.app Has.here) (o := 0) (v := so) rfl ?_
  refine ⟨s', c', so, co, (by first | rfl | trivial), hso, h', H.to fun q => ?_⟩
  simp only [List.map_append, List.map_cons, List.sum_append, List.sum_cons]; omega
end
end Go.Proofs.YthcekppbbanfeaaGreat.Den
