/- Packet filter: checkPacket, fits, Matches, checkAll, deciding. Conditions: none. -/
import Derived.Test.YtmmbepdghpjgeaaFlK
set_option linter.unusedVariables false
set_option linter.unusedSimpArgs false
set_option maxRecDepth 8000
set_option maxHeartbeats 1000000
namespace Go.Proofs.Ytmmbepdghpjgeaa.Den
open Go Go.RowKit
section
variable {w w' w0 : World} {L L' F cs A X Y : List Chunk} {s : Value} {K : VK} {R : ER} {b i j : Nat}
theorem pcheck_spec {p : Pkt} (H : Hp w0 w L) : Calls Pg 45 ⟨[.agg ⟨p.enc⟩]⟩ w fun e w' => e = .returned (I p.check) ∧ Hp w0 w' L := by
  apply F45_calls
  unfold F45 Pkt.enc
  refine bx_m H fun w b H => ?_
  have fin : ∀ (n : Int) (w : World), p.check = n → Hp w0 w (⟨b, .t 45, [I p.dir, I p.ifc, U32 p.src, U32 p.dst, I p.proto, I p.fr, I p.to, .bool p.start]⟩ :: L) →
      (Ending.returned (I n) = .returned (I p.check) ∧ Hp w0 w L) := fun n w h H => ⟨by rw [h], H.tail⟩
  (try simp only [W0])
  refine ld_a ?_
  refine cal_h (within_spec H) ?_
  rintro _ w ⟨rfl, H⟩
  cases c1 : inn p.dir 1 2 with
  | false => simp only [W0]; exact fin _ w (by unfold Pkt.check; simp_all) H
  | true =>
  (try simp only [W0])
  refine ld_a ?_
  refine cal_h (within_spec H) ?_
  rintro _ w ⟨rfl, H⟩
  cases c2 : inn p.ifc 0 255 with
  | false => simp only [W0]; exact fin _ w (by unfold Pkt.check; simp_all) H
  | true =>
  (try simp only [W0])
  refine ld_a ?_
  refine cal_h (within_spec H) ?_
  rintro _ w ⟨rfl, H⟩
  cases c3 : inn p.proto 0 255 with
  | false => simp only [W0]; exact fin _ w (by unfold Pkt.check; simp_all) H
  | true =>
  (try simp only [W0])
  refine ld_a ?_
  refine cal_h (within_spec H) ?_
  rintro _ w ⟨rfl, H⟩
  cases c4 : inn p.fr 0 65535 with
  | false => simp only [W0]; exact fin _ w (by unfold Pkt.check; simp_all) H
  | true =>
  (try simp only [W0])
  refine ld_a ?_
  refine cal_h (within_spec H) ?_
  rintro _ w ⟨rfl, H⟩
  cases c5 : inn p.to 0 65535 with
  | false => simp only [W0]; exact fin _ w (by unfold Pkt.check; simp_all) H
  | true =>
  (try simp only [W0])
  exact fin _ w (by unfold Pkt.check; simp_all) H
theorem phas_spec {p : Pat} {a : Int} (hp : p.Ok) (h0 : 0 ≤ p.bits) (h32 : p.bits ≤ 32) (ha : 0 ≤ a) (ha2 : a < 4294967296) (H : Hp w0 w L) :
    Calls Pg 69 ⟨[.agg ⟨p.enc⟩, U32 a]⟩ w fun e w' => e = .returned (.bool (p.has a)) ∧ Hp w0 w' L := by
  obtain ⟨p1, p2⟩ := hp
  apply F69_calls
  unfold F69 Pat.enc
  refine bx_m H fun w b H => ?_
  (try simp only [W0])
  refine ld_a ?_
  refine sub_k (by omega) (by omega) rfl ?_
  refine drew_k H fun w H => ?_
  (try simp only [W0])
  rw [wrapu64_id ha (by omega)]
  refine pv_of (shr_n (by omega)) ?_
  (try simp only [W0])
  refine ld_a ?_
  (try simp only [W0])
  rw [wrapu64_id p1 (by omega)]
  refine pv_of (shr_n (by omega)) ?_
  rw [bin_eql]
  (try simp only [W0])
  refine ld_a ?_
  exact ⟨rfl, H.tail⟩
theorem rhas_spec {r : Rng} {n : Int} (H : Hp w0 w L) : Calls Pg 70 ⟨[.agg ⟨r.enc⟩, I n]⟩ w fun e w' => e = .returned (.bool (r.has n)) ∧ Hp w0 w' L := by
  apply F70_calls
  unfold F70 Rng.enc
  refine bx_m H fun w b H => ?_
  (try simp only [W0])
  refine ld_a ?_
  (try simp only [W0])
  refine ld_a ?_
  refine cal_h (within_spec H) ?_
  rintro _ w ⟨rfl, H⟩
  exact ⟨rfl, H.tail⟩
theorem or_step {b1 b2 o1 o2 : Nat} {a c x y : Int} {t1 t2 : TypeId} {l1 l2 : List Value} {G : VK} (g : G (.bool (decide (a = c) || decide (x = y))) w) (H : Hp w0 w L) (m1 : Has L b1 (.t t1) l1) (m2 : Has L b2 (.t t2) l2) (h1 : l1[o1]? = some (I x)) (h2 : l2[o2]? = some (I y)) :
    pv (bin .eql (I a) (I c)) (fun v11 => gd v11 false (pv (faO o1 (ptr b1 0))) fun v13 => gd v11 false (ld1 v13) fun v14 => gd v11 false (pv (faO o2 (ptr b2 0))) fun v15 => gd v11 false (ld1 v15) fun v16 => gd v11 false (pv (bin .eql v14 v16)) fun v17 => pv (pickO v11 (.bool true) v17) G) w := by
  refine eql_k (fun h => ?_) (fun h => ?_)
  · (try simp only [W0])
    rw [decide_eq_true h] at g; exact g
  · (try simp only [W0])
    refine ld_m H m1 (o := o1) h1 ?_
    (try simp only [W0])
    refine ld_m H m2 (o := o2) h2 ?_
    (try simp only [W0])
    rw [bin_eql]
    (try simp only [W0])
    rw [decide_eq_false h, Bool.false_or] at g; exact g
theorem check_bits {r : Rul} (h : r.check = 0) : (0 ≤ r.src.bits ∧ r.src.bits ≤ 32) ∧ (0 ≤ r.dst.bits ∧ r.dst.bits ≤ 32) := by
  unfold Rul.check at h
  split at h
  · cases h
  split at h
  · cases h
  rename_i h1
  simp only [Bool.or_eq_true, Bool.not_eq_true', not_or, Bool.not_eq_false] at h1
  obtain ⟨⟨⟨⟨_, h2⟩, h3⟩, _⟩, _⟩ := h1
  unfold inn at h2 h3
  simp only [Bool.and_eq_true, decide_eq_true_eq] at h2 h3
  exact ⟨h2, h3⟩
theorem fits_spec {r : Rul} {p : Pkt} (hr : r.Ok) (hp : p.Ok) (hc : r.check = 0) (H : Hp w0 w L) : Calls Pg 46 ⟨[.agg ⟨r.enc⟩, .agg ⟨p.enc⟩]⟩ w fun e w' => e = .returned (.bool (r.fits p)) ∧ Hp w0 w' L := by
  obtain ⟨hb1, hb2⟩ := check_bits hc
  apply F46_calls
  unfold F46 Rul.enc Pkt.enc
  refine bx_m H fun w b1 H => ?_
  refine bx_m H fun w b2 H => ?_
  have fin : ∀ (v : Bool) (w : World), r.fits p = v → Hp w0 w (⟨b2, .t 45, [I p.dir, I p.ifc, U32 p.src, U32 p.dst, I p.proto, I p.fr, I p.to, .bool p.start]⟩ :: ⟨b1, .t 29, [I r.act, .bool r.quick, .bool r.keep, I r.dir, I r.ifc, I r.proto, U32 r.src.adr, I r.src.bits, .bool r.src.no, U32 r.dst.adr, I r.dst.bits, .bool r.dst.no, I r.fr.low, I r.fr.high, I r.to.low, I r.to.high]⟩ :: L) →
      (Ending.returned (.bool v) = .returned (.bool (r.fits p)) ∧ Hp w0 w L) := fun n w h H => ⟨by rw [h], H.tail.tail⟩
  (try simp only [W0])
  refine ld_a ?_
  (try simp only [W0])
  refine ld_a ?_
  refine pv_of and_n ?_
  rw [bin_neq]
  (try simp only [W0])
  have hd : decide (IntKind.i64.wrap (BitVec.ofInt IntKind.i64.bits r.dir &&& BitVec.ofInt IntKind.i64.bits p.dir).toNat ≠ 0) = dirMeet r.dir p.dir := rfl
  rw [hd]
  cases c1 : dirMeet r.dir p.dir with
  | false => simp only [W0]; exact fin _ w (by unfold Rul.fits; simp_all) H
  | true =>
  (try simp only [W0])
  refine ld_a ?_
  refine or_step (b1 := b1) (b2 := b2) (o1 := 4) (o2 := 1) (x := r.ifc) (y := p.ifc) ?_ H has has rfl rfl
  cases c2 : (decide (r.ifc = -1) || decide (r.ifc = p.ifc)) with
  | false => simp only [W0]; exact fin _ w (by unfold Rul.fits; simp_all) H
  | true =>
  (try simp only [W0])
  refine ld_a ?_
  refine or_step (b1 := b1) (b2 := b2) (o1 := 5) (o2 := 4) (x := r.proto) (y := p.proto) ?_ H has has rfl rfl
  cases c3 : (decide (r.proto = -1) || decide (r.proto = p.proto)) with
  | false => simp only [W0]; exact fin _ w (by unfold Rul.fits; simp_all) H
  | true =>
  (try simp only [W0])
  refine ldP_m (ys := r.src.enc) H has (Nat.le_of_ble_eq_true rfl) rfl ?_
  (try simp only [W0])
  refine ld_a ?_
  (try simp only [W0])
  refine cal_h (phas_spec hr.1 hb1.1 hb1.2 hp.1.1 hp.1.2 H) ?_
  rintro _ w ⟨rfl, H⟩
  cases c4 : r.src.has p.src with
  | false => simp only [W0]; exact fin _ w (by unfold Rul.fits; simp_all) H
  | true =>
  (try simp only [W0])
  refine ldP_m (ys := r.dst.enc) H has (Nat.le_of_ble_eq_true rfl) rfl ?_
  (try simp only [W0])
  refine ld_a ?_
  (try simp only [W0])
  refine cal_h (phas_spec hr.2 hb2.1 hb2.2 hp.2.1 hp.2.2 H) ?_
  rintro _ w ⟨rfl, H⟩
  cases c5 : r.dst.has p.dst with
  | false => simp only [W0]; exact fin _ w (by unfold Rul.fits; simp_all) H
  | true =>
  (try simp only [W0])
  refine ldP_m (ys := r.fr.enc) H has (Nat.le_of_ble_eq_true rfl) rfl ?_
  (try simp only [W0])
  refine ld_a ?_
  (try simp only [W0])
  refine cal_h (rhas_spec H) ?_
  rintro _ w ⟨rfl, H⟩
  cases c6 : r.fr.has p.fr with
  | false => simp only [W0]; exact fin _ w (by unfold Rul.fits; simp_all) H
  | true =>
  (try simp only [W0])
  refine ldP_m (ys := r.to.enc) H has (Nat.le_of_ble_eq_true rfl) rfl ?_
  (try simp only [W0])
  refine ld_a ?_
  (try simp only [W0])
  refine cal_h (rhas_spec H) ?_
  rintro _ w ⟨rfl, H⟩
  (try simp only [W0])
  exact fin _ w (by unfold Rul.fits; simp_all) H
theorem matches_spec {r : Rul} {p : Pkt} (hr : r.Ok) (hp : p.Ok) (H : Hp w0 w L) : Calls Pg 16 ⟨[.agg ⟨r.enc⟩, .agg ⟨p.enc⟩]⟩ w fun e w' => e = .returned (.bool (decide (r.check = 0) && decide (p.check = 0) && r.fits p)) ∧ Hp w0 w' L := by
  apply F16_calls
  unfold F16
  refine bx_m H fun w b1 H => ?_
  refine bx_m H fun w b2 H => ?_
  refine ldA_m (l := r.enc) H has rfl ?_
  refine cal_h (rcheck_spec hr H) ?_
  rintro _ w ⟨rfl, H⟩
  (try simp only [W0])
  refine eql_k (fun h1 => ?_) (fun h1 => ?_)
  · (try simp only [W0])
    refine ldA_m (l := p.enc) H has rfl ?_
    refine cal_h (pcheck_spec H) ?_
    rintro _ w ⟨rfl, H⟩
    (try simp only [W0])
    refine eql_k (fun h2 => ?_) (fun h2 => ?_)
    · (try simp only [W0])
      refine ldA_m (l := r.enc) H has rfl ?_
      (try simp only [W0])
      refine ldA_m (l := p.enc) H has rfl ?_
      (try simp only [W0])
      refine cal_h (fits_spec hr hp h1 H) ?_
      rintro _ w ⟨rfl, H⟩
      (try simp only [W0])
      exact ⟨by rw [decide_eq_true h1, decide_eq_true h2]; simp, H.tail.tail⟩
    · (try simp only [W0])
      exact ⟨by rw [decide_eq_true h1, decide_eq_false h2]; simp, H.tail.tail⟩
  · (try simp only [W0])
    exact ⟨by rw [decide_eq_false h1]; simp, H.tail.tail⟩
theorem elRul : ElT 43 29 cRul.sz 120 (⟨0, false, false, 0, 0, 0, ⟨0, 0, false⟩, ⟨0, 0, false⟩, ⟨0, 0⟩, ⟨0, 0⟩⟩ : Rul).enc := ⟨by kernel_rfl, by kernel_rfl, rfl⟩
def rul0 : Rul := ⟨0, false, false, 0, 0, 0, ⟨0, 0, false⟩, ⟨0, 0, false⟩, ⟨0, 0⟩, ⟨0, 0⟩⟩
theorem firstBad_drop {l : List Rul} {i : Nat} {r : Rul} (h : l[i]? = some r) : firstBad (l.drop i) = if r.check ≠ 0 then r.check else firstBad (l.drop (i + 1)) := by
  obtain ⟨h1, h2⟩ := List.getElem?_eq_some_iff.1 h
  rw [List.drop_eq_getElem_cons h1, h2]; rfl
theorem checkAll_spec {l : List Rul} (hl : TR cRul w0 cs s l) (hok : ∀ r ∈ l, r.Ok) (hn : l.length < 2 ^ 63) (H : Hp w0 w L) (m1 : ∀ c ∈ cs, c ∈ L) : Calls Pg 47 ⟨[s]⟩ w fun e w' => e = .returned (I (checkAll l)) ∧ Hp w0 w' L := by
  apply F47_calls
  unfold F47
  refine pv_of (lenS_tr hl) ?_
  refine gtr_k (fun h => ?_) (fun h => ?_)
  · (try simp only [W0])
    exact ⟨by rw [checkAll, if_pos (by omega)], H⟩
  · have e0 : checkAll l = firstBad l := by rw [checkAll, if_neg (by omega)]
    rw [e0]
    (try simp only [W0])
    unfold F47_j1 F47_j3
    refine pv_of (lenS_tr hl) ?_
    unfold F47_j4
    refine loop3 (F47_l1_succ _) (fun m x y z w => ∃ i : Nat, s = x ∧ y = I (l.length : Int) ∧ z = I (i : Int) ∧ m + i = l.length ∧ firstBad l = firstBad (l.drop i) ∧ Hp w0 w L) ?_ (m := l.length) ⟨0, rfl, rfl, rfl, rfl, by rw [List.drop_zero], H⟩
    clear H
    rintro m k _ _ _ w ⟨i, rfl, rfl, rfl, hm, he, H⟩ hk
    unfold F47_b1
    refine lss_k (fun hi => ?_) (fun hi => ?_)
    · (try simp only [W0])
      have hx : l[i]? = some l[i] := List.getElem?_eq_getElem (by omega)
      generalize l[i] = r at hx
      unfold F47_j5
      refine ixN_t (C := cRul) hl H m1 hx (by decide) ?_
      refine al_m (ys := rul0.enc) H (by kernel_rfl) fun w b H => ?_
      refine stA_m H updd (by exact r.enc_len) rfl (by exact r.enc_sc) fun w H => ?_
      refine ldA_m (l := r.enc) H has rfl ?_
      refine cal_h (rcheck_spec (hok r (List.mem_of_getElem? hx)) H) ?_
      rintro _ w ⟨rfl, H⟩
      replace H := H.tail
      rw [firstBad_drop hx] at he
      (try simp only [W0])
      refine neq_k (fun h1 => ?_) (fun h1 => ?_)
      · (try simp only [W0])
        exact ⟨by rw [he, if_pos h1], H⟩
      · (try simp only [W0])
        refine add_k (z := ((i + 1 : Nat) : Int)) (by omega) (by omega) (by omega) ?_
        exact hk (m - 1) _ _ _ _ (by omega) ⟨i + 1, rfl, rfl, rfl, by omega, by rw [he, if_neg (by simpa using h1)], H⟩
    · (try simp only [W0])
      unfold F47_j2
      exact ⟨by rw [he, List.drop_of_length_le (by omega)]; rfl, H⟩
theorem decFrom_drop {l : List Rul} {p : Pkt} {i : Nat} {last : Int} {r : Rul} (h : l[i]? = some r) : decFrom p (l.drop i) i last = if !r.fits p then decFrom p (l.drop (i + 1)) (i + 1) last else if r.quick then (i : Int) else decFrom p (l.drop (i + 1)) (i + 1) (i : Int) := by
  obtain ⟨h1, h2⟩ := List.getElem?_eq_some_iff.1 h
  rw [List.drop_eq_getElem_cons h1, h2]; rfl
theorem deciding_spec {l : List Rul} {p : Pkt} (hl : TR cRul w0 cs s l) (hok : ∀ r ∈ l, r.Ok ∧ r.check = 0) (hp : p.Ok) (hn : l.length < 2 ^ 63) (H : Hp w0 w L) (m1 : ∀ c ∈ cs, c ∈ L) :
    Calls Pg 49 ⟨[s, .agg ⟨p.enc⟩]⟩ w fun e w' => e = .returned (I (deciding l p)) ∧ Hp w0 w' L := by
  apply F49_calls
  unfold F49
  refine bx_m H fun w b3 H => ?_
  unfold F49_j1 F49_j3
  refine pv_of (lenS_tr hl) ?_
  unfold F49_j4
  refine loop5 (F49_l1_succ _) (fun m x3 x5 x y z w => ∃ (i : Nat) (last : Int), x3 = ptr b3 0 ∧ x5 = I last ∧ s = x ∧ y = I (l.length : Int) ∧ z = I (i : Int) ∧ m + i = l.length ∧ deciding l p = decFrom p (l.drop i) i last ∧ Hp w0 w (⟨b3, .t 45, p.enc⟩ :: L)) ?_ (m := l.length) ⟨0, -2, rfl, rfl, rfl, rfl, rfl, rfl, rfl, H⟩
  clear H
  rintro m k _ _ _ _ _ w ⟨i, last, rfl, rfl, rfl, rfl, rfl, hm, he, H⟩ hk
  unfold F49_b1
  refine lss_k (fun hi => ?_) (fun hi => ?_)
  · (try simp only [W0])
    have hx : l[i]? = some l[i] := List.getElem?_eq_getElem (by omega)
    generalize l[i] = r at hx
    obtain ⟨hr1, hr2⟩ := hok r (List.mem_of_getElem? hx)
    unfold F49_j5 F49_j7
    refine ixN_t (C := cRul) hl H (by intro c hc; exact List.mem_cons_of_mem _ (m1 c hc)) hx (by decide) ?_
    refine al_m (ys := rul0.enc) H (by kernel_rfl) fun w b H => ?_
    refine stA_m H updd (by exact r.enc_len) rfl (by exact r.enc_sc) fun w H => ?_
    refine ldA_m (l := r.enc) H has rfl ?_
    refine ldA_m (l := p.enc) H has rfl ?_
    refine cal_h (fits_spec hr1 hp hr2 H) ?_
    rintro _ w ⟨rfl, H⟩
    rw [decFrom_drop hx] at he
    cases hf : r.fits p with
    | false =>
      (try simp only [W0])
      rw [hf] at he
      unfold F49_j6
      refine add_k (z := ((i + 1 : Nat) : Int)) (by omega) (by omega) (by omega) ?_
      exact hk (m - 1) _ _ _ _ _ _ (by omega) ⟨i + 1, last, rfl, rfl, rfl, rfl, rfl, by omega, he, H.tail⟩
    | true =>
      (try simp only [W0])
      rw [hf] at he
      refine ld_m H has (v := .bool r.quick) rfl ?_
      cases hq : r.quick with
      | true =>
        (try simp only [W0])
        rw [hq] at he
        unfold F49_j2
        exact ⟨by rw [he]; rfl, H.tail.tail⟩
      | false =>
        (try simp only [W0])
        rw [hq] at he
        unfold F49_j6
        refine add_k (z := ((i + 1 : Nat) : Int)) (by omega) (by omega) (by omega) ?_
        exact hk (m - 1) _ _ _ _ _ _ (by omega) ⟨i + 1, (i : Int), rfl, rfl, rfl, rfl, rfl, by omega, he, H.tail⟩
  · (try simp only [W0])
    unfold F49_j2
    exact ⟨by rw [he, List.drop_of_length_le (by omega)]; rfl, H.tail⟩
end
end Go.Proofs.Ytmmbepdghpjgeaa.Den
