/- Packet filter: the reference's Equivalent, and the law Equivalent, walked. Conditions: none. -/
import Derived.Test.YtmmbepdghpjgeaaFlEb
import Derived.Test.YtmmbepdghpjgeaaFlU
set_option linter.unusedVariables false
set_option linter.unusedSimpArgs false
set_option maxRecDepth 8000
set_option maxHeartbeats 1000000
namespace Go.Proofs.Ytmmbepdghpjgeaa.Den
open Go Go.RowKit
theorem bldRul (r : Rul) : buildL [.int .i64 0, .bool false, .bool false, .int .i64 0, .int .i64 0, .int .i64 0, .int .u32 0, .int .i64 0, .bool false, .int .u32 0, .int .i64 0, .bool false, .int .i64 0, .int .i64 0, .int .i64 0, .int .i64 0] [(0,1, I r.act), (1,1, .bool r.quick), (2,1, .bool r.keep), (3,1, I r.dir), (4,1, I r.ifc), (5,1, I r.proto), (6,3, .agg ⟨r.src.enc⟩), (9,3, .agg ⟨r.dst.enc⟩), (12,2, .agg ⟨r.fr.enc⟩), (14,2, .agg ⟨r.to.enc⟩)] = some r.enc := by
  simp only [Rul.enc, Pat.enc, Rng.enc, BL0, Nat.reduceAdd, Nat.reduceLT, ne_eq, not_true_eq_false, false_or, gt_iff_lt, if_false]
theorem bldO_of {z l : List Value} {parts : List (Nat × Nat × Value)} (h : buildL z parts = some l) : bldO z parts = some (.agg ⟨l⟩) := by unfold bldO; rw [h]
section
variable {w w' w0 : World} {L L' F cs cs2 cs3 A X Y : List Chunk} {s s2 s3 : Value} {K : VK} {R : ER} {b i j : Nat}
theorem rule39_spec {r : Rul} (H : Hp w0 w L) : Calls Pg 13 ⟨[.agg ⟨r.enc⟩]⟩ w fun e w' => e = .returned (.agg ⟨r.enc⟩) ∧ Hp w0 w' L := by
  apply F13_calls
  unfold F13
  refine bx_m H fun w b1 H => ?_
  refine al_m (ys := rul0.enc) H (by kernel_rfl) fun w b2 H => ?_
  have hb : Has (⟨b2, .t 38, rul0.enc⟩ :: ⟨b1, .t 29, [I r.act, .bool r.quick, .bool r.keep, I r.dir, I r.ifc, I r.proto, U32 r.src.adr, I r.src.bits, .bool r.src.no, U32 r.dst.adr, I r.dst.bits, .bool r.dst.no, I r.fr.low, I r.fr.high, I r.to.low, I r.to.high]⟩ :: L) b1 (.t 29) [I r.act, .bool r.quick, .bool r.keep, I r.dir, I r.ifc, I r.proto, U32 r.src.adr, I r.src.bits, .bool r.src.no, U32 r.dst.adr, I r.dst.bits, .bool r.dst.no, I r.fr.low, I r.fr.high, I r.to.low, I r.to.high] := Has.cons Has.here
  replace H : Hp w0 w (⟨b2, .t 38, rul0.enc⟩ :: ⟨b1, .t 29, [I r.act, .bool r.quick, .bool r.keep, I r.dir, I r.ifc, I r.proto, U32 r.src.adr, I r.src.bits, .bool r.src.no, U32 r.dst.adr, I r.dst.bits, .bool r.dst.no, I r.fr.low, I r.fr.high, I r.to.low, I r.to.high]⟩ :: L) := H
  (try simp only [W0])
  refine ld_m H hb (o := 0) (v := I r.act) rfl ?_
  (try simp only [W0])
  refine ld_m H hb (o := 1) (v := .bool r.quick) rfl ?_
  (try simp only [W0])
  refine ld_m H hb (o := 2) (v := .bool r.keep) rfl ?_
  (try simp only [W0])
  refine ld_m H hb (o := 3) (v := I r.dir) rfl ?_
  (try simp only [W0])
  refine ld_m H hb (o := 4) (v := I r.ifc) rfl ?_
  (try simp only [W0])
  refine ld_m H hb (o := 5) (v := I r.proto) rfl ?_
  (try simp only [W0])
  refine ldP_m (o := 6) (n := 3) (ys := r.src.enc) H hb (Nat.le_of_ble_eq_true rfl) rfl ?_
  (try simp only [W0])
  refine ldP_m (o := 9) (n := 3) (ys := r.dst.enc) H hb (Nat.le_of_ble_eq_true rfl) rfl ?_
  (try simp only [W0])
  refine ldP_m (o := 12) (n := 2) (ys := r.fr.enc) H hb (Nat.le_of_ble_eq_true rfl) rfl ?_
  (try simp only [W0])
  refine ldP_m (o := 14) (n := 2) (ys := r.to.enc) H hb (Nat.le_of_ble_eq_true rfl) rfl ?_
  rw [bldO_of (bldRul r), pv_some]
  refine stA_m (vs := r.enc) H Upd.here rfl rfl r.enc_sc fun w H => ?_
  refine ldA_m (l := r.enc) H has rfl ?_
  exact ⟨rfl, H.tail.tail⟩
theorem packet39_spec {p : Pkt} (H : Hp w0 w L) : Calls Pg 23 ⟨[.agg ⟨p.enc⟩]⟩ w fun e w' => e = .returned (.agg ⟨p.enc⟩) ∧ Hp w0 w' L := by
  apply F23_calls
  unfold F23
  refine bx_m H fun w b1 H => ?_
  refine al_m (ys := pkt0.enc) H (by kernel_rfl) fun w b2 H => ?_
  refine ldA_m (l := p.enc) H has rfl ?_
  refine stA_m (vs := p.enc) H updd rfl rfl p.enc_sc fun w H => ?_
  refine ldA_m (l := p.enc) H has rfl ?_
  exact ⟨rfl, H.tail.tail⟩
theorem rules39_spec {l : List Rul} (hl : TR cRul w0 cs s l) (hn : l.length ≤ 20) (H : Hp w0 w L) (m1 : ∀ c ∈ cs, c ∈ L) : Calls Pg 26 ⟨[s]⟩ w fun e w' => ∃ s' cs', e = .returned s' ∧ TS cRul 38 s' l cs' ∧ Hp w0 w' (cs' ++ L) := by
  apply F26_calls
  unfold F26
  refine lit0_t (C := cRul) elGRul H fun w s0 H h0 => ?_
  unfold F26_j2
  refine pv_of (lenS_tr hl) ?_
  unfold F26_j3
  refine loop4 (F26_l1_succ _) (fun m x3 x7 x8 x9 w => ∃ (i : Nat) (cs' : List Chunk), s = x7 ∧ x8 = I (l.length : Int) ∧ x9 = I (i : Int) ∧ m + i = l.length ∧ TS cRul 38 x3 (l.take i) cs' ∧ Hp w0 w (cs' ++ L)) ?_ (m := l.length) ⟨0, [], rfl, rfl, rfl, rfl, h0, H⟩
  clear H h0
  rintro m k x3 _ _ _ w ⟨i, cs', rfl, rfl, rfl, hm, h3, H⟩ hk
  unfold F26_b1
  refine lss_k (fun hi => ?_) (fun hi => ?_)
  · (try simp only [W0])
    have hx : l[i]? = some l[i] := List.getElem?_eq_getElem (by omega)
    generalize l[i] = r at hx
    unfold F26_j4
    refine ixN_t (C := cRul) hl H (fun c hc => List.mem_append_right _ (m1 c hc)) hx (by decide) ?_
    refine al_m (ys := rul0.enc) H (by kernel_rfl) fun w b4 H => ?_
    refine stA_m (vs := r.enc) H updd rfl rfl r.enc_sc fun w H => ?_
    refine ldA_m (l := r.enc) H has rfl ?_
    refine cal_h (rule39_spec H) ?_
    rintro _ w ⟨rfl, H⟩
    (try simp only [W0])
    refine app1_t (C := cRul) (x := r) (F := L) elGRul H.tail h3 Split.here rfl (by decide) (by simp; omega) (by simp; omega) fun w s4 c4 H h4 => ?_
    refine add_k (z := ((i + 1 : Nat) : Int)) (by omega) (by omega) (by omega) ?_
    exact hk (m - 1) _ _ _ _ _ (by omega) ⟨i + 1, c4, rfl, rfl, rfl, by omega, by rw [List.take_add_one, hx]; exact h4, H⟩
  · (try simp only [W0])
    unfold F26_j1
    rw [List.take_of_length_le (by omega)] at h3
    exact ⟨x3, cs', rfl, h3, H⟩
/-- The reference looks through one list of rules. -/
theorem gcheck_walk {Q : ER} {k1 : V5} {sa sb s8 : Value} {l : List Rul} {k : Sh} {c8 c : List Chunk} {hs : List Sh} {q : Nat} (h8 : TS cS 72 s8 hs c8) (hq : hs[q]? = some k) (hl : TR cRul w0 c k.val l) (hok : ∀ r ∈ l, r.Ok) (hn : l.length ≤ 20) (hq2 : q < 100) (H : Hp w0 w L) (m1 : ∀ x ∈ c8, x ∈ L) (m2 : ∀ x ∈ c, x ∈ L)
    (g1 : ∀ w', firstBad l ≠ 0 → Hp w0 w' L → Q (.returned (.tuple ⟨[I 0, I (firstBad l)]⟩)) w') (g2 : ∀ w', firstBad l = 0 → Hp w0 w' L → k1 sa sb s3 s8 (I ((q + 1 : Nat) : Int)) w') :
    F25_j13 Q k1 sa sb s3 s8 (I (q : Int)) w := by
  unfold F25_j13 F25_j15 F25_j16
  refine loop6 (F25_l3_succ _ _) (fun m y0 y1 y2 y8 y9 y10 w => ∃ i : Nat, sa = y0 ∧ sb = y1 ∧ s3 = y2 ∧ s8 = y8 ∧ y9 = I (q : Int) ∧ y10 = I (i : Int) ∧ m + i = l.length ∧ firstBad l = firstBad (l.drop i) ∧ Hp w0 w L) ?_ (m := l.length) ⟨0, rfl, rfl, rfl, rfl, rfl, rfl, rfl, by rw [List.drop_zero], H⟩
  clear H
  rintro m kk _ _ _ _ _ _ w ⟨i, rfl, rfl, rfl, rfl, rfl, rfl, hm, he, H⟩ hk
  unfold F25_b4
  refine ix1_t (C := cS) h8.tr H m1 hq rfl rfl ?_
  refine pv_of (lenS_tr hl) ?_
  refine lss_k (fun hi => ?_) (fun hi => ?_)
  · (try simp only [W0])
    have hx : l[i]? = some l[i] := List.getElem?_eq_getElem (by omega)
    generalize l[i] = r at hx
    unfold F25_j17
    refine ix1_t (C := cS) h8.tr H m1 hq rfl rfl ?_
    refine ixN_t (C := cRul) hl H m2 hx (by decide) ?_
    refine cal_h (gcheck_spec (hok r (List.mem_of_getElem? hx)) H) ?_
    rintro _ w ⟨rfl, H⟩
    (try simp only [W0])
    rw [firstBad_drop hx] at he
    refine neq_k (fun h3 => ?_) (fun h3 => ?_)
    · (try simp only [W0])
      rw [if_pos h3] at he
      rw [← he]
      exact g1 w (by rw [he]; exact h3) H
    · (try simp only [W0])
      rw [if_neg (by simpa using h3)] at he
      refine add_k (z := ((i + 1 : Nat) : Int)) (by omega) (by omega) (by omega) ?_
      exact hk (m - 1) _ _ _ _ _ _ _ (by omega) ⟨i + 1, rfl, rfl, rfl, rfl, rfl, rfl, by omega, he, H⟩
  · (try simp only [W0])
    unfold F25_j14
    rw [List.drop_of_length_le (by omega)] at he
    refine add_k (z := ((q + 1 : Nat) : Int)) (by omega) (by omega) (by omega) ?_
    exact g2 w he H
/-- Is the action to block? -/
theorem act_walk {l : List Rul} {p : Pkt} {K : VK} (hl : TR cRul w0 cs s l) (H : Hp w0 w L) (m1 : ∀ c ∈ cs, c ∈ L) (g : K (.bool (decide (act0 l p = 2))) w) :
    pv (bin .geq (I (deciding l p)) (.int .i64 0)) (fun v9 => gd v9 true (pv (some s)) fun v10 => gd v9 true (pv (some (I (deciding l p)))) fun v11 => gd v9 true (pv (ixS 16 v10 v11)) fun v12 => gd v9 true (pv (faO 0 v12)) fun v13 =>
      gd v9 true (ld1 v13) fun v14 => gd v9 true (pv (bin .eql v14 (.int .i64 2))) fun v15 => pv (pickO v9 v15 (.bool false)) K) w := by
  refine geq_k (fun h => ?_) (fun h => ?_)
  · (try simp only [W0])
    rcases deciding_lt (l := l) (p := p) with h0 | ⟨h1, h2, r, h3, h4⟩
    · omega
    obtain ⟨i, hi⟩ : ∃ i : Nat, deciding l p = (i : Int) := ⟨(deciding l p).toNat, by omega⟩
    have ha : act0 l p = r.act := by
      unfold act0
      rw [if_neg (by omega), List.getD_eq_getElem?_getD, h3]; rfl
    rw [ha] at g
    rw [hi] at h3 ⊢
    rw [Int.toNat_natCast] at h3
    refine ixF_t (C := cRul) (f := 0) (v := I r.act) hl H m1 h3 rfl ?_
    rw [bin_eql]
    (try simp only [W0])
    exact g
  · (try simp only [W0])
    have ha : act0 l p = 1 := by unfold act0; rw [if_pos (by omega)]
    rw [ha] at g
    exact g
theorem gequiv_spec {a b : List Rul} {ps : List Pkt} {sa sb : Value} (ha : TR cRul w0 cs sa a) (hb : TR cRul w0 cs2 sb b) (hps : TR cPkt w0 cs3 s3 ps) (hoka : ∀ r ∈ a, r.Ok) (hokb : ∀ r ∈ b, r.Ok) (hpk : ∀ p ∈ ps, p.Ok) (hn : a.length ≤ 20) (hn2 : b.length ≤ 20) (hn3 : ps.length ≤ 40)
    (H : Hp w0 w L) (m1 : ∀ c ∈ cs, c ∈ L) (m2 : ∀ c ∈ cs2, c ∈ L) (m3 : ∀ c ∈ cs3, c ∈ L) :
    Calls Pg 25 ⟨[sa, sb, s3]⟩ w fun e w' => e = .returned (.tuple ⟨[I (equiv a b ps).1, I (equiv a b ps).2]⟩) ∧ Hp w0 w' L := by
  obtain ⟨ka, rfl⟩ := ha.sh
  obtain ⟨kb, rfl⟩ := hb.sh
  generalize hQ : (fun (e : Ending) (w' : World) => e = .returned (.tuple ⟨[I (equiv a b ps).1, I (equiv a b ps).2]⟩) ∧ Hp w0 w' L : ER) = Q
  have fin : ∀ (r : Int × Int) (w' : World) (A : List Chunk), equiv a b ps = r → Hp w0 w' (A ++ L) → Q (.returned (.tuple ⟨[I r.1, I r.2]⟩)) w' := by
    intro r w' A h1 h2
    subst hQ; rw [h1]; exact ⟨rfl, h2.right⟩
  apply F25_calls
  unfold F25
  refine lit_t (C := cS) [ka, kb] elGRulss H rfl (by decide) (by decide) rfl fun w s8 c8 H h8 => ?_
  refine pv_of (lenS_tr ha) ?_
  refine gtr_n (by omega) ?_
  (try simp only [W0])
  refine pv_of (lenS_tr hb) ?_
  (try simp only [W0])
  refine gtr_n (by omega) ?_
  (try simp only [W0])
  unfold F25_j1 F25_j11 F25_j12
  have M1 : ∀ x ∈ cs, x ∈ c8 ++ L := fun x hx => List.mem_append_right _ (m1 x hx)
  have M2 : ∀ x ∈ cs2, x ∈ c8 ++ L := fun x hx => List.mem_append_right _ (m2 x hx)
  have M3 : ∀ x ∈ cs3, x ∈ c8 ++ L := fun x hx => List.mem_append_right _ (m3 x hx)
  refine ⟨3, ?_⟩
  show F25_l4 Q 3 ka.val kb.val s3 s8 (I 0) w
  rw [F25_l4_succ]
  unfold F25_b3
  refine lss_y (by decide) ?_
  (try simp only [W0])
  refine gcheck_walk (q := 0) h8 rfl ha hoka hn (by decide) H (fun x hx => List.mem_append_left _ hx) M1 (fun w h1 H => fin (0, firstBad a) w c8 (by unfold equiv; rw [if_pos h1]) H) fun w h1 H => ?_
  rw [F25_l4_succ]
  unfold F25_b3
  refine lss_y (by decide) ?_
  (try simp only [W0])
  refine gcheck_walk (q := 1) h8 rfl hb hokb hn2 (by decide) H (fun x hx => List.mem_append_left _ hx) M2 (fun w h2 H => fin (0, firstBad b) w c8 (by unfold equiv; rw [if_neg (by simp [h1]), if_pos h2]) H) fun w h2 H => ?_
  rw [F25_l4_succ]
  unfold F25_b3
  refine lss_n (by decide) ?_
  (try simp only [W0])
  unfold F25_j2 F25_j8 F25_j9
  refine loop4 (F25_l2_succ _) (fun m y0 y1 y2 y12 w => ∃ i : Nat, ka.val = y0 ∧ kb.val = y1 ∧ s3 = y2 ∧ y12 = I (i : Int) ∧ m + i = ps.length ∧ firstBadP ps = firstBadP (ps.drop i) ∧ Hp w0 w (c8 ++ L)) ?_ (m := ps.length) ⟨0, rfl, rfl, rfl, rfl, rfl, by rw [List.drop_zero], H⟩
  clear H
  rintro m k _ _ _ _ w ⟨i, rfl, rfl, rfl, rfl, hm, he, H⟩ hk
  unfold F25_b2
  refine pv_of (lenS_tr hps) ?_
  refine lss_k (fun hi => ?_) (fun hi => ?_)
  · (try simp only [W0])
    have hx : ps[i]? = some ps[i] := List.getElem?_eq_getElem (by omega)
    generalize ps[i] = p at hx
    unfold F25_j10
    refine ixN_t (C := cPkt) hps H M3 hx (by decide) ?_
    refine cal_h (gpcheck_spec H) ?_
    rintro _ w ⟨rfl, H⟩
    (try simp only [W0])
    rw [firstBadP_drop hx] at he
    refine neq_k (fun h3 => ?_) (fun h3 => ?_)
    · (try simp only [W0])
      rw [if_pos h3] at he
      exact fin (0, p.check) w c8 (by unfold equiv; rw [if_neg (by simp [h1]), if_neg (by simp [h2]), he, if_pos h3]) H
    · (try simp only [W0])
      rw [if_neg (by simpa using h3)] at he
      refine add_k (z := ((i + 1 : Nat) : Int)) (by omega) (by omega) (by omega) ?_
      exact hk (m - 1) _ _ _ _ _ (by omega) ⟨i + 1, rfl, rfl, rfl, rfl, by omega, he, H⟩
  · (try simp only [W0])
    rw [List.drop_of_length_le (by omega)] at he
    have hpc : firstBadP ps = 0 := he
    have hpa := (firstBadP_iff ps).1 hpc
    have ha1 : ∀ r ∈ a, r.check = 0 := (firstBad_iff a).1 h1
    have hb1 : ∀ r ∈ b, r.check = 0 := (firstBad_iff b).1 h2
    have heq : equiv a b ps = (idxFrom (differ a b) ps 0, 0) := by unfold equiv; rw [if_neg (by simp [h1]), if_neg (by simp [h2]), if_neg (by simp [hpc])]
    clear hk he hm hi
    unfold F25_j3 F25_j5 F25_j6
    refine loop4 (F25_l1_succ _) (fun m y0 y1 y2 y14 w => ∃ i : Nat, ka.val = y0 ∧ kb.val = y1 ∧ s3 = y2 ∧ y14 = I (i : Int) ∧ m + i = ps.length ∧ idxFrom (differ a b) ps 0 = idxFrom (differ a b) (ps.drop i) i ∧ Hp w0 w (c8 ++ L)) ?_ (m := ps.length) ⟨0, rfl, rfl, rfl, rfl, rfl, by rw [List.drop_zero], H⟩
    clear H
    rintro m k _ _ _ _ w ⟨i, rfl, rfl, rfl, rfl, hm, he, H⟩ hk
    unfold F25_b1
    refine pv_of (lenS_tr hps) ?_
    refine lss_k (fun hi => ?_) (fun hi => ?_)
    · (try simp only [W0])
      have hx : ps[i]? = some ps[i] := List.getElem?_eq_getElem (by omega)
      generalize ps[i] = p at hx
      have hpm := List.mem_of_getElem? hx
      unfold F25_j7
      refine drew_k H fun w H => ?_
      refine ixN_t (C := cPkt) hps H M3 hx (by decide) ?_
      have c4 : ∀ (w : World), Hp w0 w (c8 ++ L) → ∀ (K : VK) (w' : World), Hp w0 w' (c8 ++ L) → K (.agg ⟨p.enc⟩) w' → pv (ixS 8 s3 (I (i : Int))) (fun v5 => ldNS [w] 8 v5 K) w' := by
        intro w H K w' H' g
        obtain ⟨q, e, h⟩ := hps.ix H' M3 hx (k := .i64) (by decide)
        obtain ⟨q', e', h'⟩ := hps.ix H M3 hx (k := .i64) (by decide)
        rw [e] at e'
        injection e' with e'; injection e' with e'; injection e' with e'; subst e'
        rw [show ixS 8 s3 (I (i : Int)) = some (.pointer (some q)) from e, pv_some]
        have r1 : cellsAt w' q 0 8 = some p.enc := (cellsAt_spec _ _ _).2 ⟨rfl, fun j hj => by rw [Nat.zero_add]; exact h j hj⟩
        have r2 : cellsAt w q 0 8 = some p.enc := (cellsAt_spec _ _ _).2 ⟨rfl, fun j hj => by rw [Nat.zero_add]; exact h' j hj⟩
        simp only [ldNS, r1]
        exact ⟨r2, g⟩
      have H4 := H
      have key := c4 w H
      simp only [W0]
      refine cal_h (gdecide_spec ha (fun r hr => ⟨hoka r hr, ha1 r hr⟩) (hpk p hpm) (hpa p hpm) (by omega) H M1) ?_
      rintro _ w ⟨rfl, H⟩
      (try simp only [W0])
      refine key _ _ H ?_
      (try simp only [W0])
      refine cal_h (gdecide_spec hb (fun r hr => ⟨hokb r hr, hb1 r hr⟩) (hpk p hpm) (hpa p hpm) (by omega) H M2) ?_
      rintro _ w ⟨rfl, H⟩
      (try simp only [W0])
      refine drew_k H fun w H => ?_
      refine act_walk (p := p) ha H M1 ?_
      refine act_walk (p := p) hb H M2 ?_
      have hne : (!(decide (act0 a p = 2) == decide (act0 b p = 2))) = differ a b p := by
        unfold differ
        rcases act0_is (p := p) ha1 with h | h <;> rcases act0_is (p := p) hb1 with h' | h' <;> rw [h, h'] <;> decide
      refine pv_of (v := .bool (differ a b p)) (by rw [← hne]; rfl) ?_
      rw [idxFrom_drop hx] at he
      cases hd : differ a b p with
      | true =>
        (try simp only [W0])
        rw [hd] at he
        exact fin ((i : Int), 0) w c8 (by rw [heq, he]; rfl) H
      | false =>
        (try simp only [W0])
        rw [hd] at he
        refine add_k (z := ((i + 1 : Nat) : Int)) (by omega) (by omega) (by omega) ?_
        exact hk (m - 1) _ _ _ _ _ (by omega) ⟨i + 1, rfl, rfl, rfl, rfl, by omega, he, H⟩
    · (try simp only [W0])
      rw [List.drop_of_length_le (by omega)] at he
      unfold F25_j4
      exact fin (-1, 0) w c8 (by rw [heq, he]; rfl) H
theorem equiv_law {a b : List Rul} {ps : List Pkt} {sa sb : Value} (ha : TR cRul w0 cs sa a) (hb : TR cRul w0 cs2 sb b) (hps : TR cPkt w0 cs3 s3 ps) (hoka : ∀ r ∈ a, r.Ok) (hokb : ∀ r ∈ b, r.Ok) (hpk : ∀ p ∈ ps, p.Ok)
    (H : Hp w0 w L) (m1 : ∀ c ∈ cs, c ∈ L) (m2 : ∀ c ∈ cs2, c ∈ L) (m3 : ∀ c ∈ cs3, c ∈ L) :
    Calls Pg 8 ⟨[sa, sb, s3]⟩ w fun e w' => e = .returned (.bool true) ∧ Hp w0 w' L := by
  generalize hQ : (fun (e : Ending) (w' : World) => e = .returned (.bool true) ∧ Hp w0 w' L : ER) = Q
  have aw : ∀ w A, Hp w0 w (A ++ L) → cal Pg Q 10 ⟨[]⟩ (fun v67 => Q (.returned v67)) w := by
    intro w A H
    refine cal_h (awake_spec H) ?_
    rintro _ w ⟨rfl, H⟩
    subst hQ
    exact ⟨(by first | rfl | trivial), H.right⟩
  apply F8_calls
  unfold F8 F8_j6
  refine pv_of (lenS_tr ha) ?_
  refine gtr_k (fun h20 => ?_) (fun h20 => ?_)
  · (try simp only [W0])
    exact aw w [] H
  (try simp only [W0])
  refine pv_of (lenS_tr hb) ?_
  (try simp only [W0])
  refine gtr_k (fun h21 => ?_) (fun h21 => ?_)
  · (try simp only [W0])
    exact aw w [] H
  (try simp only [W0])
  refine pv_of (lenS_tr hps) ?_
  (try simp only [W0])
  refine gtr_k (fun h40 => ?_) (fun h40 => ?_)
  · (try simp only [W0])
    exact aw w [] H
  (try simp only [W0])
  unfold F8_j1
  refine lit0_t (C := cPkt) elGPkt H fun w s0 H h0 => ?_
  unfold F8_j3
  refine pv_of (lenS_tr hps) ?_
  unfold F8_j4
  refine loop7 (F8_l1_succ _) (fun m y0 y1 y2 x7 y29 y30 y31 w => ∃ (i : Nat) (c7 : List Chunk), sa = y0 ∧ sb = y1 ∧ s3 = y2 ∧ s3 = y29 ∧ y30 = I (ps.length : Int) ∧ y31 = I (i : Int) ∧ m + i = ps.length ∧ TS cPkt 67 x7 (ps.take i) c7 ∧ Hp w0 w (c7 ++ L)) ?_ (m := ps.length) ⟨0, [], rfl, rfl, rfl, rfl, rfl, rfl, rfl, h0, H⟩
  clear H h0
  rintro m k _ _ z2 x7 z29 _ _ w ⟨i, c7, rfl, rfl, e2, e29, rfl, rfl, hm, h7, H⟩ hk
  rw [← e2, ← e29]
  unfold F8_b1
  refine lss_k (fun hi => ?_) (fun hi => ?_)
  · (try simp only [W0])
    have hx : ps[i]? = some ps[i] := List.getElem?_eq_getElem (by omega)
    generalize ps[i] = p at hx
    unfold F8_j5
    refine ixN_t (C := cPkt) hps H (fun c hc => List.mem_append_right _ (m3 c hc)) hx (by decide) ?_
    refine al_m (ys := pkt0.enc) H (by kernel_rfl) fun w b4 H => ?_
    refine stA_m (vs := p.enc) H updd rfl rfl p.enc_sc fun w H => ?_
    refine ldA_m (l := p.enc) H has rfl ?_
    refine cal_h (packet39_spec H) ?_
    rintro _ w ⟨rfl, H⟩
    (try simp only [W0])
    refine app1_t (C := cPkt) (x := p) (F := L) elGPkt H.tail h7 Split.here rfl (by decide) (by simp; omega) (by simp; omega) fun w s4 c4 H h4 => ?_
    refine add_k (z := ((i + 1 : Nat) : Int)) (by omega) (by omega) (by omega) ?_
    exact hk (m - 1) _ _ _ _ _ _ _ _ (by omega) ⟨i + 1, c4, rfl, rfl, rfl, rfl, rfl, rfl, by omega, by rw [List.take_add_one, hx]; exact h4, H⟩
  · (try simp only [W0])
    rw [List.take_of_length_le (by omega)] at h7
    have M1 : ∀ x ∈ cs, x ∈ c7 ++ L := fun x hx => List.mem_append_right _ (m1 x hx)
    have M2 : ∀ x ∈ cs2, x ∈ c7 ++ L := fun x hx => List.mem_append_right _ (m2 x hx)
    have M3 : ∀ x ∈ cs3, x ∈ c7 ++ L := fun x hx => List.mem_append_right _ (m3 x hx)
    unfold F8_j2
    refine cal_h (equiv_spec ha hb hps hoka hokb hpk (by omega) (by omega) (by omega) H M1 M2 M3) ?_
    rintro _ w ⟨rfl, H⟩
    (try simp only [W0])
    refine cal_h (rules39_spec ha (by omega) H M1) ?_
    rintro _ w ⟨s8, c8, rfl, h8, H⟩
    (try simp only [W0])
    refine cal_h (rules39_spec hb (by omega) H (fun x hx => List.mem_append_right _ (M2 x hx))) ?_
    rintro _ w ⟨s9, c9, rfl, h9, H⟩
    (try simp only [W0])
    refine cal_h (gequiv_spec h8.tr h9.tr h7.tr hoka hokb hpk (by omega) (by omega) (by omega) H (fun x hx => List.mem_append_right _ (List.mem_append_left _ hx)) (fun x hx => List.mem_append_left _ hx) (fun x hx => List.mem_append_right _ (List.mem_append_right _ (List.mem_append_left _ hx)))) ?_
    rintro _ w ⟨rfl, H⟩
    (try simp only [W0])
    refine eql_y rfl ?_
    (try simp only [W0])
    refine eql_y rfl ?_
    (try simp only [W0])
    refine cal_h (awake_spec H) ?_
    rintro _ w ⟨rfl, H⟩
    (try simp only [W0])
    subst hQ
    exact ⟨(by first | rfl | trivial), H.right.right.right⟩
end
end Go.Proofs.Ytmmbepdghpjgeaa.Den
