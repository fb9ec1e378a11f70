/- Message queue: the law Once, walked: the calls. Conditions: none. -/
import Derived.Test.YthcekppbbanfeaaMqX
set_option linter.unusedVariables false
set_option linter.unusedSimpArgs false
set_option maxRecDepth 8000
set_option maxHeartbeats 4000000
namespace Go.Proofs.Ythcekppbbanfeaa.Den
open Go Go.RowKit
section
variable {w w' w0 : World} {L L' F cs cs2 A X Y cm cr D : List Chunk} {s s2 sm sr ss : Value} {K : VK} {R : ER} {b i j qb sb gb xb : Nat} {q : Q25} {m : Ms} {th dl now : Int} {wait : Bool} {T G : List Ky} {S : List Kp}
theorem once_law {x0 : Int} {ps : List Int} (hx0 : 0 ≤ x0 ∧ x0 ≤ 255) (hps : TR cB w0 [] s ps) (hb : ∀ p ∈ ps, 0 ≤ p ∧ p ≤ 255) (hn : ps.length < 2 ^ 63) (H : Hp w0 w []) : Calls Pg 3 ⟨[U8 x0, s]⟩ w fun e w' => e = .returned (.bool true) ∧ Hp w0 w' [] := by
  have hfin : ∀ w, Ext [] w0 w → (Ending.returned (.bool true) = .returned (.bool true) ∧ Hp w0 w []) := fun w h => ⟨rfl, ⟨h, by simp, by simp⟩⟩
  generalize hQ : (fun (e : Ending) (w' : World) => e = .returned (.bool true) ∧ Hp w0 w' [] : ER) = Q at *
  have hfin : ∀ w, Ext [] w0 w → Q (.returned (.bool true)) w := fun w h => by subst hQ; exact hfin w h
  apply F3_calls
  unfold F3
  have hrem0 : bin .rem (U8 x0) (U8 64) = some (U8 (x0 % 64)) := by rw [bin_rem (by decide), Int.tmod_eq_emod_of_nonneg hx0.1]
  refine pv_of hrem0 ?_
  refine cv64_a ?_
  refine add_k (z := 1 + x0 % 64) (by omega) (by omega) (by omega) ?_
  refine cal_h (new_spec (mx := 1 + x0 % 64) (sz := 8) H) ?_
  rintro _ w (⟨hb0, _⟩ | ⟨qb, _, rfl, hq, H⟩)
  · exact absurd hb0 (by unfold badNew; omega)
  (try simp only [W0])
  unfold F3_j26
  refine pv_of (lenS_tr hps) ?_
  refine gtr_k (fun h1 => ?_) (fun h1 => ?_)
  · (try simp only [W0])
    refine cal_h (awake_spec H) ?_
    rintro _ w ⟨rfl, H⟩
    (try simp only [W0])
    refine eql_y rfl ?_
    (try simp only [W0])
    exact hfin w H.ext
  (try simp only [W0])
  refine cal_h (awake_spec H) ?_
  rintro _ w ⟨rfl, H⟩
  (try simp only [W0])
  refine neq_n (by decide) ?_
  (try simp only [W0])
  unfold F3_j1
  refine make_m (key := kyV) (val := I) H fun w sb H => ?_
  refine make_m (key := kyV) (val := I) H fun w gb H => ?_
  refine al_m (ys := [.map none]) H (by kernel_rfl) fun w xb H => ?_
  refine st_m (o := 0) H Upd.here (by simp) rfl fun w H => ?_
  unfold F3_j12
  refine pv_of (lenS_tr hps) ?_
  unfold F3_j13
  have hI0 : OnceI (q0 (1 + x0 % 64) 8) [] [] [] 0 := ⟨Ord.nil, by simp, by simp [q0], rfl, by show 1 ≤ 1 + x0 % 64 ∧ 1 + x0 % 64 ≤ 64; omega, rfl, by show ((0 : Nat) : Int) ≤ 1 + x0 % 64; omega, fun h => absurd rfl h, .inl rfl, by simp, by simp [q0], by simp [q0], by simp [q0], List.Perm.refl _, List.nodup_nil, by simp⟩
  refine loop7 (F3_l4_succ _) (fun m x5 x7 x8 x9 x59 x60 x61 w => ∃ (i : Nat) (q : Q25) (S : List Kp) (T G : List Ky) (D F : List Chunk) (sm sr ss : Value) (cm cr cs : List Chunk), x5 = ptr qb 0 ∧ x7 = .map (some sb) ∧ x8 = ptr xb 0 ∧ x9 = .func (.func 9) ⟨[]⟩ ⟨[ptr xb 0]⟩ ∧ x59 = s ∧ x60 = I (ps.length : Int) ∧ x61 = I (i : Int) ∧ m + i = ps.length ∧
    OnceI q S T G i ∧ (∀ c ∈ D, c ∈ F) ∧ QAt w0 D q sm sr ss cm cr cs ∧ Hp w0 w (q.mem qb sm sr ss cm cr cs (maps xb gb sb G T F))) ?_ (m := ps.length)
    ⟨0, q0 (1 + x0 % 64) 8, [], [], [], [], [], _, _, _, _, _, _, rfl, rfl, rfl, rfl, rfl, rfl, rfl, rfl, hI0, by simp, hq, H.to fun q => by simp only [maps, Q25.mem, List.set_cons_zero, List.map_append, List.map_cons, List.sum_append, List.sum_cons]; exact Nat.le_of_eq (by have e1 : cobj [] = mobj kyV I [] 0 := rfl; rw [e1]; omega)⟩
  clear H hq hI0
  rintro m k _ _ _ _ s _ _ w ⟨i, q, S, T, G, D, F, sm, sr, ss, cm, cr, cs, rfl, rfl, rfl, rfl, rfl, rfl, rfl, hm, h, hD, hq, H⟩ hk
  have hDm : ∀ c ∈ D, c ∈ maps xb gb sb G T F := fun c hc => List.mem_cons_of_mem _ (List.mem_cons_of_mem _ (List.mem_cons_of_mem _ (hD c hc)))
  unfold F3_b3
  refine lss_k (fun hi => ?_) (fun hi => ?_)
  rotate_left
  · (try simp only [W0])
    exact once_drain (i0 := i) (by omega) h hD hq H hfin
  (try simp only [W0])
  have hx : ps[i]? = some ps[i] := List.getElem?_eq_getElem (by omega)
  have hx2 := hb ps[i] (List.getElem_mem _)
  generalize ps[i] = x at *
  unfold F3_j14 F3_j16
  refine ix1_t (C := cB) hps H (by simp) hx rfl rfl ?_
  unfold F3_j18
  have hrem : bin .rem (U8 x) (U8 2) = some (U8 (x % 2)) := by rw [bin_rem (by decide), Int.tmod_eq_emod_of_nonneg hx2.1]
  refine pv_of hrem ?_
  -- the next round
  have next : ∀ {q S T G D F sm sr ss cm cr cs w}, OnceI q S T G (i + 1) → (∀ c ∈ D, c ∈ F) → QAt w0 D q sm sr ss cm cr cs → Hp w0 w (q.mem qb sm sr ss cm cr cs (maps xb gb sb G T F)) → F3_j15 Q k (ptr qb 0) (.map (some sb)) (ptr xb 0) (.func (.func 9) ⟨[]⟩ ⟨[ptr xb 0]⟩) s (I (ps.length : Int)) (I (i : Int)) w := by
    intro q S T G D F sm sr ss cm cr cs w h hD hq H
    unfold F3_j15
    refine add_k (z := ((i + 1 : Nat) : Int)) (by omega) (by omega) (by omega) ?_
    exact hk (m - 1) _ _ _ _ _ _ _ _ (by omega) ⟨i + 1, q, S, T, G, D, F, sm, sr, ss, cm, cr, cs, rfl, rfl, rfl, rfl, rfl, rfl, rfl, by omega, h, hD, hq, H⟩
  have hnum : 0 ≤ q.num ∧ q.num < 2 ^ 60 := by have := h.num; omega
  refine eql_k (fun hev => ?_) (fun hev => ?_)
  · unfold F3_j19
    (try simp only [W0])
    unfold F3_j20
    have hquo : bin .quo (U8 x) (U8 2) = some (U8 (x / 2)) := by
      rw [bin_quo (by decide), Int.tdiv_eq_ediv_of_nonneg hx2.1, wrap8_id (by omega) (by omega)]
    have hrem2 : bin .rem (U8 (x / 2)) (U8 32) = some (U8 (x / 2 % 32)) := by rw [bin_rem (by decide), Int.tmod_eq_emod_of_nonneg (by omega)]
    refine pv_of hquo ?_
    refine pv_of hrem2 ?_
    refine cv64_a ?_
    refine cv8_a ?_
    refine lit_t (C := cB) [(i : Int), x] elB H rfl (by decide) (by decide) rfl fun w s9 c9 H h9 => ?_
    obtain ⟨sh, rfl⟩ := h9.sh
    refine bld_a ?_
    refine al_m (ys := [I 0, .slice none 0 0]) H (by kernel_rfl) fun w b4 H => ?_
    generalize hm0 : (⟨x / 2 % 32, sh, [(i : Int), x]⟩ : Ms) = m0
    have hp0 : m0.pri = x / 2 % 32 := by subst hm0; rfl
    have hs0 : m0.sh = sh := by subst hm0; rfl
    have hbs0 : m0.bs = [(i : Int), x] := by subst hm0; rfl
    have hme : [I (x / 2 % 32), sh.val] = m0.enc := by subst hm0; rfl
    show (stN 2 (ptr b4 0) (.agg ⟨[I (x / 2 % 32), sh.val]⟩) _) w
    rw [hme]
    refine stA_m (vs := m0.enc) H Upd.here rfl rfl (cMs.sc m0) fun w H => ?_
    refine ldA_m (l := m0.enc) H Has.here rfl ?_
    have H2 : Hp w0 w (q.mem qb sm sr ss cm cr cs (maps xb gb sb G T (c9 ++ (F ++ [⟨b4, .t 30, m0.enc⟩])))) := H.to fun q => by
      simp only [maps, Q25.mem, List.map_append, List.map_cons, List.sum_append, List.sum_cons, List.map_nil, List.sum_nil]; omega
    have hD2 : ∀ c ∈ c9 ++ D, c ∈ maps xb gb sb G T (c9 ++ (F ++ [⟨b4, .t 30, m0.enc⟩])) := fun c hc => List.mem_cons_of_mem _ (List.mem_cons_of_mem _ (List.mem_cons_of_mem _ (by
      rcases List.mem_append.1 hc with h | h
      · exact List.mem_append_left _ h
      · exact List.mem_append_right _ (List.mem_append_left _ (hD c h)))))
    have ht9 : TR cB w0 c9 m0.sh.val m0.bs := by rw [hs0, hbs0]; exact h9.tr
    refine cal_h (send_spec (D := c9 ++ D) (m := m0) (th := (i : Int)) (wait := true) (dl := 0) ⟨ht9.mono fun c hc => List.mem_append_left _ hc, by rw [hbs0]; simp⟩ hD2 hq.grow h.mx.2 hnum H2) ?_
    clear H H2
    rintro _ w ⟨sh2, se2, sn2, rfl, D2, sm2, sr2, ss2, cm2, cr2, cs2, ce2, cn2, hse2, hsn2, hq2, hes2, H⟩
    generalize hm2 : ({ m0 with sh := sh2 } : Ms) = m2 at *
    have hp2 : m2.pri = x / 2 % 32 := by subst hm2; exact hp0
    have hb2 : m2.bs = [(i : Int), x] := by subst hm2; exact hbs0
    have hky : m2.ky = m0.ky := by unfold Ms.ky; rw [hb2, hbs0]
    have hDn : ∀ c ∈ D2 ++ (c9 ++ D), c ∈ D2 ++ (c9 ++ (F ++ [⟨b4, .t 30, m0.enc⟩])) := fun c hc => by
      rcases List.mem_append.1 hc with h | h
      · exact List.mem_append_left _ h
      · refine List.mem_append_right _ ?_
        rcases List.mem_append.1 h with h | h
        · exact List.mem_append_left _ h
        · exact List.mem_append_right _ (List.mem_append_left _ (hD c h))
    rcases h.send (m := m2) (x := x) (by omega) (by rw [hp2]; omega) hb2 with ⟨e, e2, _⟩ | ⟨blk, es, q', S', e2, h', hes, hel⟩
    · rw [e2] at hq2 H ⊢
      (try simp only [W0])
      refine eql_y (by decide) ?_
      (try simp only [W0])
      refine next (h.mono (Nat.le_succ _)) hDn hq2 (H.to fun q => ?_)
      simp only [maps, Q25.mem, List.map_append, List.map_cons, List.sum_append, List.sum_cons, List.map_nil, List.sum_nil]; omega
    · rw [e2] at hse2 hsn2 hq2 hes2 H ⊢
      (try simp only [W0])
      refine eql_n (by decide) ?_
      (try simp only [W0])
      unfold F3_j21
      refine neq_n (by decide) ?_
      (try simp only [W0])
      unfold F3_j22
      have hTn : m0.ky ∉ T := by
        have := h'.nd
        rw [hky] at this
        exact fun hm => (List.nodup_append.1 this).2.2 _ hm _ (List.mem_singleton_self _) rfl
      have H2 : Hp w0 w (⟨sb, .o (cobj T), []⟩ :: ⟨b4, .t 30, m0.enc⟩ :: (c9 ++ (ce2 ++ (cn2 ++ (q'.mem qb sm2 sr2 ss2 cm2 cr2 cs2 (D2 ++ (⟨xb, .t 28, [.map (some gb)]⟩ :: ⟨gb, .o (cobj G), []⟩ :: F))))))) := H.to fun q => by
        simp only [maps, Q25.mem, List.map_append, List.map_cons, List.sum_append, List.sum_cons, List.map_nil, List.sum_nil]; omega
      (try simp only [W0])
      refine ld_m H2 (Has.cons Has.here) (o := 1) (v := m0.sh.val) rfl ?_
      refine conv_str_h undB und8 undS cBsz ht9 H2 (fun c hc => List.mem_cons_of_mem _ (List.mem_cons_of_mem _ (List.mem_append_left _ hc))) ?_
      rw [kyV_of (by rw [hbs0]; rfl)]
      refine inc_h (k := m0.ky) hTn H2 Upd.here fun w H => ?_
      clear H2
      rw [← hky] at H
      unfold F3_j24
      refine pv_of (lenS_ts hse2) ?_
      unfold F3_j25
      refine loop10 (F3_l3_succ _ _) (fun m x5 x7 x8 x9 x59 x60 x61 x97 x98 x99 w => ∃ (j : Nat), x5 = ptr qb 0 ∧ x7 = .map (some sb) ∧ x8 = ptr xb 0 ∧ x9 = .func (.func 9) ⟨[]⟩ ⟨[ptr xb 0]⟩ ∧ x59 = s ∧ x60 = I (ps.length : Int) ∧ x61 = I (i : Int) ∧ x97 = se2 ∧ x98 = I (es.length : Int) ∧ x99 = I (j : Int) ∧ m + j = es.length ∧
        Hp w0 w (maps xb gb sb (G ++ (es.take j).map fun e => e.m.ky) (T ++ [m2.ky]) (D2 ++ (c9 ++ (F ++ (⟨b4, .t 30, m0.enc⟩ :: (ce2 ++ (cn2 ++ (q'.mem qb sm2 sr2 ss2 cm2 cr2 cs2 [])))))))) ) ?_ (m := es.length)
        ⟨0, rfl, rfl, rfl, rfl, rfl, rfl, rfl, rfl, rfl, rfl, rfl, H.to fun q => by simp only [maps, Q25.mem, List.take_zero, List.map_append, List.map_cons, List.sum_append, List.sum_cons, List.map_nil, List.sum_nil, List.append_nil]; omega⟩
      clear H
      rintro m3 k3 _ _ _ _ s _ _ se2 _ _ w ⟨j, rfl, rfl, rfl, rfl, rfl, rfl, rfl, rfl, rfl, rfl, hm3, H⟩ hk3
      unfold F3_b4
      refine lss_k (fun hj => ?_) (fun hj => ?_)
      · (try simp only [W0])
        have he : es[j]? = some es[j] := List.getElem?_eq_getElem (by omega)
        have heb := hes es[j] (List.getElem_mem _)
        have heo := hes2 es[j] (List.getElem_mem _)
        have htk : es.take (j + 1) = es.take j ++ [es[j]] := by rw [List.take_add_one, he]; rfl
        generalize es[j] = e at *
        refine ixN_t (C := cEn) hse2.tr H (fun c hc => List.mem_cons_of_mem _ (List.mem_cons_of_mem _ (List.mem_cons_of_mem _ (List.mem_append_right _ (List.mem_append_right _ (List.mem_append_right _ (List.mem_cons_of_mem _ (List.mem_append_left _ hc)))))))) he (by decide) ?_
        refine al_m (ys := [I 0, I 0, .slice none 0 0, I 0]) H (by kernel_rfl) fun w b7 H => ?_
        refine stA_m (vs := e.enc) H Upd.here rfl rfl (cEn.sc e) fun w H => ?_
        (try simp only [W0])
        refine ldP_m (ys := e.m.enc) H Has.here (o := 1) (by simp [En.enc]) rfl ?_
        have hnk : e.m.ky ∉ G ++ (es.take j).map fun e => e.m.ky := by
          have h1 := (List.nodup_append.1 h'.gnd).1
          have h2 : es = es.take (j + 1) ++ es.drop (j + 1) := (List.take_append_drop _ _).symm
          rw [h2, htk, List.map_append, List.map_append, ← List.append_assoc, ← List.append_assoc] at h1
          have h3 := (List.nodup_append.1 h1).1
          exact fun hm => (List.nodup_append.1 h3).2.2 _ hm _ (by simp) rfl
        have H2 : Hp w0 w (maps xb gb sb (G ++ (es.take j).map fun e => e.m.ky) (T ++ [m2.ky]) (D2 ++ (c9 ++ (F ++ (⟨b4, .t 30, m0.enc⟩ :: (ce2 ++ (cn2 ++ (q'.mem qb sm2 sr2 ss2 cm2 cr2 cs2 [])))))))) := H.tail
        refine take_k (D := D2 ++ (c9 ++ D)) hnk heb heo.1 (fun c hc => ?_) H2 fun w H => ?_
        · rcases List.mem_append.1 hc with h | h
          · exact List.mem_append_left _ h
          · refine List.mem_append_right _ ?_
            rcases List.mem_append.1 h with h | h
            · exact List.mem_append_left _ h
            · exact List.mem_append_right _ (List.mem_append_left _ (hD c h))
        refine add_k (z := ((j + 1 : Nat) : Int)) (by omega) (by omega) (by omega) ?_
        refine hk3 (m3 - 1) _ _ _ _ _ _ _ _ _ _ _ (by omega) ⟨j + 1, rfl, rfl, rfl, rfl, rfl, rfl, rfl, rfl, rfl, rfl, by omega, ?_⟩
        rw [htk, List.map_append, ← List.append_assoc]; exact H
      · (try simp only [W0])
        unfold F3_j23
        rw [List.take_of_length_le (by omega)] at H
        refine next h' hDn hq2 (H.to fun q => ?_)
        simp only [maps, Q25.mem, List.map_append, List.map_cons, List.sum_append, List.sum_cons, List.map_nil, List.sum_nil]; omega
  · unfold F3_j19
    (try simp only [W0])
    unfold F3_j17
    refine cal_h (recv_spec (th := (i : Int)) (wait := true) (dl := 0) hDm hq h.mx.2 hnum H) ?_
    rintro _ w ⟨cp, se3, sn3, hcp, hok3, rfl, D3, sm3, sr3, ss3, cm3, cr3, cs3, ce3, cn3, hse3, hsn3, hq3, hes3, H⟩
    have hDn : ∀ c ∈ D3 ++ D, c ∈ D3 ++ F := fun c hc => by
      rcases List.mem_append.1 hc with h | h
      · exact List.mem_append_left _ h
      · exact List.mem_append_right _ (hD c h)
    rcases h.recv (th := i) (wait := true) (cp := cp) (Nat.le_refl _) (by omega) hcp (i + 1) (by omega) (by omega) with ⟨err, e3, he, hS⟩ | ⟨q', e3, h', hw⟩ | ⟨m3, es, q', S', e3, h', hb, hlen⟩
    · rw [e3] at hq3 H ⊢
      simp only [if_true] at he
      subst he
      (try simp only [W0])
      refine al_m (ys := [I 0, .slice none 0 0]) H (by kernel_rfl) fun w b4 H => ?_
      refine stA_m (vs := ms0.enc) H Upd.here rfl rfl (cMs.sc ms0) fun w H => ?_
      refine neq_y (by decide) ?_
      (try simp only [W0])
      refine neq_n (by decide) ?_
      (try simp only [W0])
      refine eql_n (by decide) ?_
      (try simp only [W0])
      refine next (h.mono (Nat.le_succ _)) hDn hq3 (H.to fun q => ?_)
      simp only [maps, Q25.mem, List.map_append, List.map_cons, List.sum_append, List.sum_cons, List.map_nil, List.sum_nil]; omega
    · rw [e3] at hq3 H ⊢
      (try simp only [W0])
      refine al_m (ys := [I 0, .slice none 0 0]) H (by kernel_rfl) fun w b4 H => ?_
      refine stA_m (vs := ms0.enc) H Upd.here rfl rfl (cMs.sc ms0) fun w H => ?_
      refine neq_n (by decide) ?_
      (try simp only [W0])
      refine eql_y rfl ?_
      (try simp only [W0])
      refine next h' hDn hq3 (H.to fun q => ?_)
      simp only [maps, Q25.mem, List.map_append, List.map_cons, List.sum_append, List.sum_cons, List.map_nil, List.sum_nil]; omega
    · rw [e3] at hse3 hsn3 hq3 hok3 H ⊢
      (try simp only [W0])
      refine al_m (ys := [I 0, .slice none 0 0]) H (by kernel_rfl) fun w b4 H => ?_
      refine stA_m (vs := m3.enc) H Upd.here rfl rfl (cMs.sc m3) fun w H => ?_
      refine neq_n (by decide) ?_
      (try simp only [W0])
      refine eql_y rfl ?_
      (try simp only [W0])
      refine ldA_m (l := m3.enc) H Has.here rfl ?_
      have hnk : m3.ky ∉ G := by
        have := h'.gnd
        rw [List.append_assoc] at this
        have h2 := (List.nodup_append.1 this).2.2
        exact fun hm => h2 _ hm _ (List.mem_append_left _ (List.mem_singleton_self _)) rfl
      have H2 : Hp w0 w (maps xb gb sb G T (D3 ++ (F ++ (⟨b4, .t 30, m3.enc⟩ :: (ce3 ++ (cn3 ++ (q'.mem qb sm3 sr3 ss3 cm3 cr3 cs3 []))))))) := H.to fun q => by
        simp only [maps, Q25.mem, List.map_append, List.map_cons, List.sum_append, List.sum_cons, List.map_nil, List.sum_nil]; omega
      refine take_k (D := D) hnk hb hok3.1 (fun c hc => List.mem_append_right _ (List.mem_append_left _ (hD c hc))) H2 fun w H => ?_
      refine next h' hDn hq3 (H.to fun q => ?_)
      simp only [maps, Q25.mem, List.map_append, List.map_cons, List.sum_append, List.sum_cons, List.map_nil, List.sum_nil]; omega
end
end Go.Proofs.Ythcekppbbanfeaa.Den
