/- Message queue: the library's heap over the messages. Conditions: none. -/
import Derived.Test.YthcekppbbanfeaaGreatMqA
set_option linter.unusedVariables false
set_option linter.unusedSimpArgs false
set_option maxRecDepth 8000
set_option maxHeartbeats 1000000
namespace Go.Proofs.YthcekppbbanfeaaGreat.Den
open Go Go.RowKit
section
variable {w w' w0 : World} {L L' F cs cs2 A X Y cm : List Chunk} {s s2 sm : Value} {K : VK} {R : ER} {b i j qb : Nat} {l : List Kp} {qr : List Value}
/-- The queue's header and its messages. -/
def hq (qb : Nat) (sm : Value) (qr : List Value) (cm F : List Chunk) : List Chunk := ⟨qb, .t 62, sm :: qr⟩ :: (cm ++ F)
theorem less_walk (h : TS cKp 97 sm l cm) (H : Hp w0 w (hq qb sm qr cm F)) (hi : i < l.length) (hj : j < l.length) (g : ∀ w', Hp w0 w' (hq qb sm qr cm F) → K (.bool (lessAt l i j)) w') :
    ivk Pg R (.iface 23 (ptr qb 0)) "Less" ⟨[I (i : Int), I (j : Int)]⟩ K w := by
  refine ivk_less (v := sm) (H.cellM (t := 62) (l := sm :: qr) Has.here rfl) ?_
  refine cal_h (less_spec h.tr H (fun c hc => List.mem_cons_of_mem _ (List.mem_append_left _ hc)) hi hj) ?_
  rintro _ w ⟨rfl, H⟩
  exact g w H
theorem swap_walk (h : TS cKp 97 sm l cm) (H : Hp w0 w (hq qb sm qr cm F)) (hi : i < l.length) (hj : j < l.length) (g : ∀ w' cm', TS cKp 97 sm (swapK l i j) cm' → Hp w0 w' (hq qb sm qr cm' F) → K (.tuple ⟨[]⟩) w') :
    ivk Pg R (.iface 23 (ptr qb 0)) "Swap" ⟨[I (i : Int), I (j : Int)]⟩ K w := by
  refine ivk_swap (v := sm) (H.cellM (t := 62) (l := sm :: qr) Has.here rfl) ?_
  refine cal_h (swap_spec (F := ⟨qb, .t 62, sm :: qr⟩ :: F) h (H.to fun q => ?_) hi hj) ?_
  · simp only [hq, List.map_append, List.map_cons, List.sum_append, List.sum_cons]; omega
  rintro _ w ⟨cm', rfl, h', H⟩
  refine g w cm' h' (H.to fun q => ?_)
  simp only [hq, List.map_append, List.map_cons, List.sum_append, List.sum_cons]; omega
theorem len_walk (h : TS cKp 97 sm l cm) (H : Hp w0 w (hq qb sm qr cm F)) (g : ∀ w', Hp w0 w' (hq qb sm qr cm F) → K (I (l.length : Int)) w') :
    ivk Pg R (.iface 23 (ptr qb 0)) "Len" ⟨[]⟩ K w := by
  refine ivk_len (v := sm) (H.cellM (t := 62) (l := sm :: qr) Has.here rfl) ?_
  refine cal_h (len_spec h.tr H) ?_
  rintro _ w ⟨rfl, H⟩
  exact g w H
theorem up_spec (h : TS cKp 97 sm l cm) (hj : j < l.length) (hn : l.length < 2 ^ 40) (H : Hp w0 w (hq qb sm qr cm F)) :
    Calls Pg 102 ⟨[.iface 23 (ptr qb 0), I (j : Int)]⟩ w fun e w' => ∃ cm', e = .returned (.tuple ⟨[]⟩) ∧ TS cKp 97 sm (upK l.length l j) cm' ∧ Hp w0 w' (hq qb sm qr cm' F) := by
  generalize hT : upK l.length l j = T
  generalize hQ : (fun (e : Ending) (w' : World) => ∃ cm', e = .returned (.tuple ⟨[]⟩) ∧ TS cKp 97 sm T cm' ∧ Hp w0 w' (hq qb sm qr cm' F) : ER) = Q
  apply F102_calls
  unfold F102
  refine loop2 (F102_l1_succ _) (fun m x0 x1 w => ∃ (j : Nat) (l' : List Kp) (cm : List Chunk), x0 = .iface 23 (ptr qb 0) ∧ x1 = I (j : Int) ∧ j < m ∧ j < l'.length ∧ l'.length = l.length ∧ upK m l' j = T ∧ TS cKp 97 sm l' cm ∧ Hp w0 w (hq qb sm qr cm F)) ?_ (m := l.length) ⟨j, l, cm, rfl, rfl, hj, hj, rfl, hT, h, H⟩
  clear H h hT hj
  rintro m k _ _ w ⟨j, l', cm, rfl, rfl, hm, hj, hl, hT, h, H⟩ hk
  obtain ⟨m, rfl⟩ : ∃ n, m = n + 1 := ⟨m - 1, by omega⟩
  unfold upK at hT
  unfold F102_b1
  refine sub_k (z := (j : Int) - 1) (by omega) (by omega) rfl ?_
  have hq2 : bin .quo (I ((j : Int) - 1)) (I 2) = some (I (((j - 1) / 2 : Nat) : Int)) := by
    rw [bin_quo (by decide)]
    congr 2
    have h1 : ((j : Int) - 1).tdiv 2 = (((j - 1) / 2 : Nat) : Int) := by
      rcases Nat.eq_zero_or_pos j with h | h
      · subst h; rfl
      · rw [Int.tdiv_eq_ediv_of_nonneg (by omega)]; omega
    rw [h1]
    exact wrap64_id (by omega) (by omega)
  refine pv_of hq2 ?_
  have hlt : (j - 1) / 2 < l'.length := by omega
  have stop : ∀ w, upK (m + 1) l' j = l' → Hp w0 w (hq qb sm qr cm F) → Q (.returned (.tuple ⟨[]⟩)) w := by
    intro w he H
    subst hQ
    unfold upK at he
    rw [he] at hT; subst hT
    exact ⟨cm, rfl, h, H⟩
  refine eql_k (fun he => ?_) (fun he => ?_)
  · (try simp only [W0])
    exact stop w (by unfold upK; rw [if_pos (.inl (by omega))]) H
  · (try simp only [W0])
    refine less_walk h H hj hlt fun w H => ?_
    (try simp only [W0])
    cases hless : lessAt l' j ((j - 1) / 2) with
    | false =>
      (try simp only [W0])
      exact stop w (by unfold upK; rw [if_pos (.inr hless)]) H
    | true =>
      (try simp only [W0])
      refine swap_walk h H hlt hj fun w cm' h' H => ?_
      refine hk m _ _ _ (by omega) ⟨(j - 1) / 2, _, cm', rfl, rfl, by omega, by rw [swapK_len]; exact hlt, by rw [swapK_len]; exact hl, ?_, h', H⟩
      rw [if_neg (by rw [hless]; simp; omega)] at hT
      exact hT
theorem dn_stop {n : Nat} (m : Nat) (h : n ≤ 2 * i + 1) : dnK n m l i = l := by
  cases m with
  | zero => rfl
  | succ m => unfold dnK; rw [if_pos h]
theorem kid_lt {n : Nat} (h : ¬ n ≤ 2 * i + 1) : kid n l i < n ∧ i < kid n l i := by
  unfold kid
  split
  · rename_i h2
    rw [Bool.and_eq_true, decide_eq_true_eq] at h2; omega
  · omega
theorem down_spec {n f : Nat} (h : TS cKp 97 sm l cm) (hi : n ≤ i + f) (hn : n ≤ l.length) (hi3 : i < 2 ^ 40) (hl : l.length < 2 ^ 40) (H : Hp w0 w (hq qb sm qr cm F)) :
    Calls Pg 79 ⟨[.iface 23 (ptr qb 0), I (i : Int), I (n : Int)]⟩ w fun e w' => ∃ cm' bb, e = .returned (.bool bb) ∧ TS cKp 97 sm (dnK n f l i) cm' ∧ Hp w0 w' (hq qb sm qr cm' F) := by
  generalize hT : dnK n f l i = T
  apply F79_calls
  unfold F79 F79_j2
  refine loop4 (F79_l1_succ _) (fun m x0 x1 x2 x7 w => ∃ (j : Nat) (l' : List Kp) (cm : List Chunk), x0 = .iface 23 (ptr qb 0) ∧ x1 = I (i : Int) ∧ x2 = I (n : Int) ∧ x7 = I (j : Int) ∧ n ≤ j + m ∧ j < 2 ^ 40 ∧ l'.length = l.length ∧ dnK n m l' j = T ∧ TS cKp 97 sm l' cm ∧ Hp w0 w (hq qb sm qr cm F)) ?_ (m := f) ⟨i, l, cm, rfl, rfl, rfl, rfl, hi, hi3, rfl, hT, h, H⟩
  clear H h hT hi hi3
  rintro m k _ _ _ _ w ⟨j, l', cm, rfl, rfl, rfl, rfl, hm, hj, hl', hT, h, H⟩ hk
  have stop : ∀ (w : World), dnK n m l' j = l' → Hp w0 w (hq qb sm qr cm F) → F79_j1 (fun e w' => ∃ cm' bb, e = .returned (.bool bb) ∧ TS cKp 97 sm T cm' ∧ Hp w0 w' (hq qb sm qr cm' F)) (I (i : Int)) (I (j : Int)) w := by
    intro w he H
    rw [he] at hT; subst hT
    unfold F79_j1
    rw [bin_gtr, pv_some]
    exact ⟨cm, _, rfl, h, H⟩
  unfold F79_b1
  refine mul_k (z := 2 * (j : Int)) (by omega) (by omega) rfl ?_
  refine add_k (z := ((2 * j + 1 : Nat) : Int)) (by omega) (by omega) (by omega) ?_
  refine geq_k (fun h1 => ?_) (fun h1 => ?_)
  · (try simp only [W0])
    exact stop w (dn_stop m (by omega)) H
  · (try simp only [W0])
    refine lss_n (by omega) ?_
    (try simp only [W0])
    have hnk : ¬ n ≤ 2 * j + 1 := by omega
    obtain ⟨hk1, hk2⟩ := kid_lt (l := l') hnk
    obtain ⟨m, rfl⟩ : ∃ q, m = q + 1 := ⟨m - 1, by omega⟩
    unfold F79_j3 F79_j5
    refine add_k (z := ((2 * j + 2 : Nat) : Int)) (by omega) (by omega) (by omega) ?_
    have go : ∀ (w : World), Hp w0 w (hq qb sm qr cm F) → F79_j4 (fun e w' => ∃ cm' bb, e = .returned (.bool bb) ∧ TS cKp 97 sm T cm' ∧ Hp w0 w' (hq qb sm qr cm' F)) k (.iface 23 (ptr qb 0)) (I (i : Int)) (I (n : Int)) (I (j : Int)) (I ((kid n l' j : Nat) : Int)) w := by
      intro w H
      unfold F79_j4
      refine less_walk h H (by omega) (by omega) fun w H => ?_
      (try simp only [W0])
      cases hless : lessAt l' (kid n l' j) j with
      | false =>
        (try simp only [W0])
        exact stop w (by unfold dnK; rw [if_neg hnk, if_pos hless]) H
      | true =>
        (try simp only [W0])
        refine swap_walk h H (by omega) (by omega) fun w cm' h' H => ?_
        refine hk m _ _ _ _ _ (by omega) ⟨kid n l' j, _, cm', rfl, rfl, rfl, rfl, by omega, by omega, by rw [swapK_len]; exact hl', ?_, h', H⟩
        unfold dnK at hT
        rw [if_neg hnk, if_neg (by rw [hless]; simp)] at hT
        exact hT
    refine lss_k (fun h2 => ?_) (fun h2 => ?_)
    · (try simp only [W0])
      refine less_walk h H (by omega) (by omega) fun w H => ?_
      (try simp only [W0])
      cases hless : lessAt l' (2 * j + 2) (2 * j + 1) with
      | true =>
        (try simp only [W0])
        have e : kid n l' j = 2 * j + 2 := by unfold kid; rw [hless, decide_eq_true (by omega)]; rfl
        rw [e] at go
        exact go w H
      | false =>
        (try simp only [W0])
        have e : kid n l' j = 2 * j + 1 := by unfold kid; rw [hless, Bool.and_false]; rfl
        rw [e] at go
        exact go w H
    · (try simp only [W0])
      have e : kid n l' j = 2 * j + 1 := by unfold kid; rw [decide_eq_false (by omega), Bool.false_and]; rfl
      rw [e] at go
      exact go w H
theorem assert_k {x : Kp} (g : K (.agg ⟨x.enc⟩) w) : valV Pg R (Instr.typeAssert (.iface 97 (.agg ⟨x.enc⟩)) 20 97 false) K w := by
  have e : (Instr.typeAssert (.iface 97 (.agg ⟨x.enc⟩)) 20 97 false).run Pg w = .ok (.agg ⟨x.enc⟩) w := by kernel_rfl
  unfold valV; rw [e]; exact g
theorem push_spec {x : Kp} {mx sz nu nw sr ss no : Value} (h : TS cKp 97 sm l cm) (hn : l.length < 2 ^ 30) (H : Hp w0 w (hq qb sm qr cm F)) :
    Calls Pg 78 ⟨[.iface 23 (ptr qb 0), .iface 97 (.agg ⟨x.enc⟩)]⟩ w fun e w' => ∃ sm' cm', e = .returned (.tuple ⟨[]⟩) ∧ TS cKp 97 sm' (pushK l x) cm' ∧ Hp w0 w' (hq qb sm' qr cm' F) := by
  apply F78_calls
  unfold F78
  refine ivk_push ?_
  have hsm : scalar sm = true := h.sc
  refine cal_h (Q := fun e w' => ∃ sm' cm', e = .returned (.tuple ⟨[]⟩) ∧ TS cKp 97 sm' (l ++ [x]) cm' ∧ Hp w0 w' (hq qb sm' qr cm' F)) ?_ ?_
  · apply F133_calls
    unfold F133
    refine drew_k H fun w H => ?_
    unfold hq at H
    (try simp only [W0])
    refine ld_m H Has.here (o := 0) (v := sm) rfl ?_
    refine assert_k ?_
    (try simp only [W0])
    refine rd1_m H Has.here (o := 0) rfl ?_
    refine lit1_t (C := cKp) (x := x) elKp H rfl (by decide) fun w s1 c1 H h1 => ?_
    refine rd1_m H (Has.app Has.here) (o := 0) rfl ?_
    refine append_t (C := cKp) (F := c1 ++ (⟨qb, .t 62, sm :: qr⟩ :: F)) elKp H h (Split.app (Split.cons Split.here)) h1.tr (fun c hc => List.mem_append_left _ hc) (by simp; omega) (by simp; omega) fun w s2 c2 H h2 => ?_
    have hs2 : scalar s2 = true := h2.sc
    (try simp only [W0])
    refine st_m (o := 0) H (Upd.app (Upd.app Upd.here)) (by simp) hs2 fun w H => ?_
    simp only [List.set_cons_zero] at H
    refine ⟨s2, c2, (by first | rfl | trivial), h2, H.to fun q => ?_⟩
    simp only [hq, List.map_append, List.map_cons, List.sum_append, List.sum_cons]; omega
  rintro _ w ⟨s2, c2, rfl, h2, H⟩
  (try simp only [W0])
  refine len_walk h2 H fun w H => ?_
  refine sub_k (z := (l.length : Int)) (by simp only [List.length_append, List.length_singleton]; omega) (by simp only [List.length_append, List.length_singleton]; omega) (by simp only [List.length_append, List.length_singleton]; omega) ?_
  refine cal_h (up_spec (j := l.length) h2 (by simp) (by simp; omega) H) ?_
  rintro _ w ⟨c3, rfl, h3, H⟩
  refine ⟨s2, c3, (by first | rfl | trivial), ?_, H⟩
  unfold pushK
  rw [List.length_append, List.length_singleton] at h3
  exact h3
theorem pop_spec (h : TS cKp 97 sm l cm) (hl : 0 < l.length) (hn : l.length < 2 ^ 30) (H : Hp w0 w (hq qb sm qr cm F)) :
    Calls Pg 53 ⟨[.iface 23 (ptr qb 0)]⟩ w fun e w' => ∃ sm' cm' x, (popK l)[l.length - 1]? = some x ∧ e = .returned (.iface 97 (.agg ⟨x.enc⟩)) ∧ TS cKp 97 sm' ((popK l).take (l.length - 1)) cm' ∧ Hp w0 w' (hq qb sm' qr cm' F) := by
  apply F53_calls
  unfold F53
  refine len_walk h H fun w H => ?_
  refine sub_k (z := ((l.length - 1 : Nat) : Int)) (by omega) (by omega) (by omega) ?_
  refine swap_walk (i := 0) h H hl (by omega) fun w c1 h1 H => ?_
  refine cal_h (down_spec (i := 0) (n := l.length - 1) (f := l.length) h1 (by omega) (by rw [swapK_len]; omega) (by omega) (by rw [swapK_len]; omega) H) ?_
  rintro _ w ⟨c2, bb, rfl, h2, H⟩
  (try simp only [W0])
  have hlen : (popK l).length = l.length := by unfold popK; rw [dnK_len, swapK_len]
  have h3 : TS cKp 97 sm (popK l) c2 := h2
  clear h2
  generalize popK l = l2 at *
  have hx : l2[l.length - 1]? = some (l2[l.length - 1]'(by omega)) := List.getElem?_eq_getElem (by omega)
  generalize l2[l.length - 1]'(by omega) = x at hx
  refine ivk_pop ?_
  refine cal_h (Q := fun e w' => ∃ sm' cm', e = .returned (.iface 97 (.agg ⟨x.enc⟩)) ∧ TS cKp 97 sm' (l2.take (l.length - 1)) cm' ∧ Hp w0 w' (hq qb sm' qr cm' F)) ?_ ?_
  · apply F132_calls
    unfold F132
    refine drew_k H fun w H => ?_
    unfold hq at H
    (try simp only [W0])
    refine ld_m H Has.here (o := 0) (v := sm) rfl ?_
    (try simp only [W0])
    refine ld_m H Has.here (o := 0) (v := sm) rfl ?_
    refine pv_of (lenS_ts h3) ?_
    refine sub_k (z := ((l.length - 1 : Nat) : Int)) (by omega) (by omega) (by omega) ?_
    refine ixNp_t (C := cKp) h3.tr H (fun c hc => List.mem_cons_of_mem _ (List.mem_append_left _ hc)) hx (by decide) fun a ha => ?_
    (try simp only [W0])
    refine al_m (ys := [I 0, .slice none 0 0, I 0]) H (by kernel_rfl) fun w b6 H => ?_
    have hk : cellsAt w a 0 3 = some (cKp.enc x) := ha w _ H (fun c hc => List.mem_cons_of_mem _ (List.mem_cons_of_mem _ (List.mem_append_left _ hc)))
    rw [rdN_a hk]
    refine rd1_m H (Has.cons Has.here) (o := 0) rfl ?_
    refine rd1_m H (Has.cons Has.here) (o := 0) rfl ?_
    (try simp only [W0])
    refine stA_m (vs := x.enc) H Upd.here rfl rfl (cKp.sc x) fun w H => ?_
    refine drew_k H fun w H => ?_
    (try simp only [W0])
    refine ld_m H (Has.cons Has.here) (o := 0) (v := sm) rfl ?_
    (try simp only [W0])
    refine ld_m H (Has.cons Has.here) (o := 0) (v := sm) rfl ?_
    refine pv_of (lenS_ts h3) ?_
    refine sub_k (z := ((l.length - 1 : Nat) : Int)) (by omega) (by omega) (by omega) ?_
    obtain ⟨s4, e4, h4⟩ := slTo_t (C := cKp) (hi := l.length - 1) h3 (by omega)
    refine pv_of e4 ?_
    have hs4 : scalar s4 = true := h4.sc
    (try simp only [W0])
    refine st_m (o := 0) H (Upd.cons Upd.here) (by simp) hs4 fun w H => ?_
    simp only [List.set_cons_zero] at H
    refine ldA_m (l := x.enc) H Has.here rfl ?_
    refine ⟨s4, c2, (by first | rfl | trivial), h4, H.tail⟩
  rintro _ w ⟨s4, c4, rfl, h4, H⟩
  exact ⟨s4, c4, x, hx, (by first | rfl | trivial), h4, H⟩
end
end Go.Proofs.YthcekppbbanfeaaGreat.Den
