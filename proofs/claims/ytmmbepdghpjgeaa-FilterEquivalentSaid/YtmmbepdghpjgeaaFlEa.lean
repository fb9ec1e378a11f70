/- Packet filter: the reference's checks, Matches, decide. Conditions: none. -/
import Derived.Test.YtmmbepdghpjgeaaFlW
set_option linter.unusedVariables false
set_option linter.unusedSimpArgs false
set_option maxRecDepth 8000
set_option maxHeartbeats 1000000
namespace Go.Proofs.Ytmmbepdghpjgeaa.Den
open Go Go.RowKit
theorem behind_eq {p : Pat} (hp : p.Ok) (h0 : 0 ≤ p.bits) (h32 : p.bits ≤ 32) : p.behind = decide (¬ (p.adr * 2 ^ p.bits.toNat) % 4294967296 = 0) := by
  obtain ⟨p1, p2⟩ := hp
  obtain ⟨a, ha⟩ : ∃ a : Nat, p.adr = (a : Int) := ⟨p.adr.toNat, by omega⟩
  have hk : p.bits.toNat ≤ 32 := by omega
  unfold Pat.behind
  rw [Nat.min_eq_left (by omega), ha]
  generalize p.bits.toNat = k at hk
  have h2 : 2 ^ k ≤ 2 ^ 32 := Nat.pow_le_pow_right (by decide) hk
  have hlt : a * 2 ^ k < 18446744073709551616 := by
    have : a * 2 ^ k ≤ a * 2 ^ 32 := Nat.mul_le_mul_left _ h2
    omega
  have e1 : (a : Int) * 2 ^ k = ((a * 2 ^ k : Nat) : Int) := by push_cast; rfl
  rw [e1, wrapu64_id (a := ((a * 2 ^ k : Nat) : Int)) (by omega) (by omega)]
  generalize a * 2 ^ k = n at *
  have e2 : (BitVec.ofInt 64 (n : Int) &&& BitVec.ofInt 64 4294967295).toNat = n % 4294967296 := by
    rw [BitVec.toNat_and]
    have : BitVec.ofInt 64 (4294967295 : Int) = BitVec.ofNat 64 4294967295 := by decide
    rw [this, BitVec.ofInt_natCast, BitVec.toNat_ofNat, BitVec.toNat_ofNat, Nat.mod_eq_of_lt hlt]
    exact Nat.and_two_pow_sub_one_eq_mod n 32
  rw [e2, wrapu64_id (by omega) (by omega)]
  exact decide_eq_decide.2 (by omega)
theorem dir_eq {a b : Int} (ha : a = 1 ∨ a = 2 ∨ a = 3) (hb : b = 1 ∨ b = 2) : dirMeet a b = (decide (a = 3) || decide (a = b)) := by
  rcases ha with rfl | rfl | rfl <;> rcases hb with rfl | rfl <;> decide
theorem shl32_n {k : IntKind} {a n : Int} (h : 0 ≤ n) : bin .shl (.int .u32 a) (.int k n) = some (.int .u32 (IntKind.u32.wrap (a * 2 ^ (min n.toNat 32)))) := by
  show (if n < 0 then none else some (Value.int .u32 (IntKind.u32.wrap (a * 2 ^ (min n.toNat IntKind.u32.bits))))) = _
  rw [if_neg (by omega)]; rfl
theorem shr32_n {k : IntKind} {a n : Int} (h : 0 ≤ n) : bin .shr (.int .u32 a) (.int k n) = some (.int .u32 (a.fdiv (2 ^ (min n.toNat 32)))) := by
  show (if n < 0 then none else some (Value.int .u32 (a.fdiv (2 ^ (min n.toNat IntKind.u32.bits))))) = _
  rw [if_neg (by omega)]; rfl
section
variable {w w' w0 : World} {L L' F cs A X Y : List Chunk} {s : Value} {K : VK} {R : ER} {b i j : Nat}
theorem gwithin_spec {n lo hi : Int} (H : Hp w0 w L) : Calls Pg 77 ⟨[I n, I lo, I hi]⟩ w fun e w' => e = .returned (.bool (inn n lo hi)) ∧ Hp w0 w' L := by
  apply F77_calls
  unfold F77
  refine geq_k (fun h => ?_) (fun h => ?_)
  · (try simp only [W0])
    refine leq_k (fun h2 => ?_) (fun h2 => ?_)
    · (try simp only [W0]); exact ⟨by rw [inn, decide_eq_true h, decide_eq_true h2]; rfl, H⟩
    · (try simp only [W0]); exact ⟨by rw [inn, decide_eq_true h, decide_eq_false h2]; rfl, H⟩
  · (try simp only [W0]); exact ⟨by rw [inn, decide_eq_false h]; rfl, H⟩
theorem gvalid_spec {r : Rng} (H : Hp w0 w L) : Calls Pg 78 ⟨[.agg ⟨r.enc⟩]⟩ w fun e w' => e = .returned (.bool r.valid) ∧ Hp w0 w' L := by
  apply F78_calls
  unfold F78 Rng.enc
  refine bx_m H fun w b H => ?_
  simp only [W0]
  refine ld_a ?_
  refine geq_k (fun h => ?_) (fun h => ?_)
  · (try simp only [W0])
    refine ld_a ?_
    (try simp only [W0])
    refine ld_a ?_
    (try simp only [W0])
    refine leq_k (fun h2 => ?_) (fun h2 => ?_)
    · (try simp only [W0])
      refine ld_a ?_
      (try simp only [W0])
      refine leq_k (fun h3 => ?_) (fun h3 => ?_)
      · (try simp only [W0]); exact ⟨by rw [Rng.valid, decide_eq_true h, decide_eq_true h2, decide_eq_true h3]; rfl, H.tail⟩
      · (try simp only [W0]); exact ⟨by rw [Rng.valid, decide_eq_true h, decide_eq_true h2, decide_eq_false h3]; rfl, H.tail⟩
    · (try simp only [W0]); exact ⟨by rw [Rng.valid, decide_eq_true h, decide_eq_false h2]; rfl, H.tail⟩
  · (try simp only [W0]); exact ⟨by rw [Rng.valid, decide_eq_false h]; rfl, H.tail⟩
theorem gclean_spec {p : Pat} (hp : p.Ok) (h0 : 0 ≤ p.bits) (h32 : p.bits ≤ 32) (H : Hp w0 w L) : Calls Pg 79 ⟨[.agg ⟨p.enc⟩]⟩ w fun e w' => e = .returned (.bool (!p.behind)) ∧ Hp w0 w' L := by
  rw [behind_eq hp h0 h32]
  obtain ⟨p1, p2⟩ := hp
  apply F79_calls
  unfold F79 Pat.enc
  refine bx_m H fun w b H => ?_
  simp only [W0]
  refine ld_a ?_
  refine eql_k (fun h => ?_) (fun h => ?_)
  · (try simp only [W0])
    refine ⟨?_, H.tail⟩
    have : p.adr * 2 ^ p.bits.toNat % 4294967296 = 0 := by
      rw [h]; exact Int.mul_emod_left _ _
    rw [decide_eq_false (by simp [this])]; rfl
  · (try simp only [W0])
    refine ld_a ?_
    (try simp only [W0])
    refine ld_a ?_
    (try simp only [W0])
    rw [wrapu64_id h0 (by omega)]
    refine pv_of (shl32_n h0) ?_
    (try simp only [W0])
    rw [bin_eql]
    (try simp only [W0])
    refine ⟨?_, H.tail⟩
    have e1 : (2 ^ IntKind.u32.bits : Int) = 4294967296 := by decide
    have : IntKind.u32.wrap (p.adr * 2 ^ min p.bits.toNat 32) = p.adr * 2 ^ p.bits.toNat % 4294967296 := by
      rw [Nat.min_eq_left (by omega)]
      simp only [IntKind.wrap, e1, IntKind.signed, Bool.false_and, Bool.false_eq_true, if_false]
    rw [this]; simp
theorem gcheck_spec {r : Rul} (hr : r.Ok) (H : Hp w0 w L) : Calls Pg 57 ⟨[.agg ⟨r.enc⟩]⟩ w fun e w' => e = .returned (I r.check) ∧ Hp w0 w' L := by
  apply F57_calls
  unfold F57 Rul.enc
  refine bx_m H fun w b H => ?_
  have fin : ∀ (n : Int) (w : World), r.check = n → Hp w0 w (⟨b, .t 38, [I r.act, .bool r.quick, .bool r.keep, I r.dir, I r.ifc, I r.proto, U32 r.src.adr, I r.src.bits, .bool r.src.no, U32 r.dst.adr, I r.dst.bits, .bool r.dst.no, I r.fr.low, I r.fr.high, I r.to.low, I r.to.high]⟩ :: L) →
      (Ending.returned (I n) = .returned (I r.check) ∧ Hp w0 w L) := fun n w h H => ⟨by rw [h], H.tail⟩
  simp only [W0]
  refine ld_a ?_
  refine cal_h (gwithin_spec H) ?_
  rintro _ w ⟨rfl, H⟩
  cases c1 : inn r.act 1 2 with
  | false => simp only [W0]; exact fin _ w (by unfold Rul.check; simp_all) H
  | true =>
  simp only [W0]
  refine ld_a ?_
  refine cal_h (gwithin_spec H) ?_
  rintro _ w ⟨rfl, H⟩
  cases c2 : inn r.dir 1 3 with
  | false => simp only [W0]; exact fin _ w (by unfold Rul.check; simp_all) H
  | true =>
  simp only [W0]
  unfold F57_j1 F57_j3
  simp only [W0]
  refine ld_a ?_
  refine cal_h (gwithin_spec H) ?_
  rintro _ w ⟨rfl, H⟩
  cases c3 : inn r.ifc (-1) 255 with
  | false => simp only [W0]; exact fin _ w (by unfold Rul.check; simp_all) H
  | true =>
  simp only [W0]
  refine ld_a ?_
  refine cal_h (gwithin_spec H) ?_
  rintro _ w ⟨rfl, H⟩
  cases c4 : inn r.proto (-1) 255 with
  | false => simp only [W0]; exact fin _ w (by unfold Rul.check; simp_all) H
  | true =>
  simp only [W0]
  refine ld_a ?_
  refine cal_h (gwithin_spec H) ?_
  rintro _ w ⟨rfl, H⟩
  cases c5 : inn r.src.bits 0 32 with
  | false => simp only [W0]; exact fin _ w (by unfold Rul.check; simp_all) H
  | true =>
  simp only [W0]
  refine ld_a ?_
  refine cal_h (gwithin_spec H) ?_
  rintro _ w ⟨rfl, H⟩
  cases c6 : inn r.dst.bits 0 32 with
  | false => simp only [W0]; exact fin _ w (by unfold Rul.check; simp_all) H
  | true =>
  simp only [W0]
  refine ldP_m (ys := r.fr.enc) H has (Nat.le_of_ble_eq_true rfl) rfl ?_
  (try simp only [W0])
  refine cal_h (gvalid_spec (r := r.fr) H) ?_
  rintro _ w ⟨rfl, H⟩
  cases c7 : r.fr.valid with
  | false => simp only [W0]; exact fin _ w (by unfold Rul.check; simp_all) H
  | true =>
  simp only [W0]
  refine ldP_m (ys := r.to.enc) H has (Nat.le_of_ble_eq_true rfl) rfl ?_
  (try simp only [W0])
  refine cal_h (gvalid_spec (r := r.to) H) ?_
  rintro _ w ⟨rfl, H⟩
  cases c8 : r.to.valid with
  | false => simp only [W0]; exact fin _ w (by unfold Rul.check; simp_all) H
  | true =>
  simp only [W0]
  have hb5 : 0 ≤ r.src.bits ∧ r.src.bits ≤ 32 := by unfold inn at c5; simp at c5; exact c5
  have hb6 : 0 ≤ r.dst.bits ∧ r.dst.bits ≤ 32 := by unfold inn at c6; simp at c6; exact c6
  unfold F57_j2
  (try simp only [W0])
  refine ldP_m (ys := r.src.enc) H has (Nat.le_of_ble_eq_true rfl) rfl ?_
  (try simp only [W0])
  refine cal_h (gclean_spec hr.1 hb5.1 hb5.2 H) ?_
  rintro _ w ⟨rfl, H⟩
  cases c9 : r.src.behind with
  | true => simp only [W0]; exact fin _ w (by unfold Rul.check; simp_all) H
  | false =>
  simp only [W0]
  refine ldP_m (ys := r.dst.enc) H has (Nat.le_of_ble_eq_true rfl) rfl ?_
  (try simp only [W0])
  refine cal_h (gclean_spec hr.2 hb6.1 hb6.2 H) ?_
  rintro _ w ⟨rfl, H⟩
  cases c10 : r.dst.behind with
  | true => simp only [W0]; exact fin _ w (by unfold Rul.check; simp_all) H
  | false =>
  simp only [W0]
  refine ld_a ?_
  cases c11 : r.keep with
  | false => simp only [W0]; exact fin _ w (by unfold Rul.check; simp_all) H
  | true =>
  simp only [W0]
  rw [c11] at H fin
  refine ld_a ?_
  refine eql_k (fun h => ?_) (fun h => ?_)
  · (try simp only [W0]); exact fin _ w (by unfold Rul.check; simp_all) H
  · (try simp only [W0]); exact fin _ w (by unfold Rul.check; simp_all) H
theorem gpcheck_spec {p : Pkt} (H : Hp w0 w L) : Calls Pg 58 ⟨[.agg ⟨p.enc⟩]⟩ w fun e w' => e = .returned (I p.check) ∧ Hp w0 w' L := by
  apply F58_calls
  unfold F58 Pkt.enc
  refine bx_m H fun w b H => ?_
  have fin : ∀ (n : Int) (w : World), p.check = n → Hp w0 w (⟨b, .t 67, [I p.dir, I p.ifc, U32 p.src, U32 p.dst, I p.proto, I p.fr, I p.to, .bool p.start]⟩ :: L) →
      (Ending.returned (I n) = .returned (I p.check) ∧ Hp w0 w L) := fun n w h H => ⟨by rw [h], H.tail⟩
  simp only [W0]
  refine ld_a ?_
  refine cal_h (gwithin_spec H) ?_
  rintro _ w ⟨rfl, H⟩
  cases c1 : inn p.dir 1 2 with
  | false => simp only [W0]; exact fin _ w (by unfold Pkt.check; simp_all) H
  | true =>
  simp only [W0]
  unfold F58_j1
  simp only [W0]
  refine ld_a ?_
  refine cal_h (gwithin_spec H) ?_
  rintro _ w ⟨rfl, H⟩
  cases c2 : inn p.ifc 0 255 with
  | false => simp only [W0]; exact fin _ w (by unfold Pkt.check; simp_all) H
  | true =>
  simp only [W0]
  refine ld_a ?_
  refine cal_h (gwithin_spec H) ?_
  rintro _ w ⟨rfl, H⟩
  cases c3 : inn p.proto 0 255 with
  | false => simp only [W0]; exact fin _ w (by unfold Pkt.check; simp_all) H
  | true =>
  simp only [W0]
  refine ld_a ?_
  refine cal_h (gwithin_spec H) ?_
  rintro _ w ⟨rfl, H⟩
  cases c4 : inn p.fr 0 65535 with
  | false => simp only [W0]; exact fin _ w (by unfold Pkt.check; simp_all) H
  | true =>
  simp only [W0]
  refine ld_a ?_
  refine cal_h (gwithin_spec H) ?_
  rintro _ w ⟨rfl, H⟩
  cases c5 : inn p.to 0 65535 with
  | false => simp only [W0]; exact fin _ w (by unfold Pkt.check; simp_all) H
  | true =>
  simp only [W0]
  exact fin _ w (by unfold Pkt.check; simp_all) H
theorem gfits_spec {p : Pat} {a : Int} (hp : p.Ok) (h0 : 0 ≤ p.bits) (h32 : p.bits ≤ 32) (ha : 0 ≤ a) (ha2 : a < 4294967296) (H : Hp w0 w L) :
    Calls Pg 89 ⟨[U32 a, .agg ⟨p.enc⟩]⟩ w fun e w' => e = .returned (.bool (p.has a)) ∧ Hp w0 w' L := by
  obtain ⟨p1, p2⟩ := hp
  apply F89_calls
  unfold F89 Pat.enc
  refine bx_m H fun w b H => ?_
  simp only [W0]
  refine ld_a ?_
  refine eql_k (fun h => ?_) (fun h => ?_)
  · simp only [W0]
    refine ld_a ?_
    refine ⟨?_, H.tail⟩
    have hz : ∀ x : Int, 0 ≤ x → x < 4294967296 → x.fdiv (2 ^ (min (32 - p.bits).toNat 64)) = 0 := by
      intro x hx1 hx2
      rw [h]
      have e : (2 ^ (min (32 - (0 : Int)).toNat 64) : Int) = 4294967296 := by decide
      rw [e, Int.fdiv_eq_ediv_of_nonneg _ (by decide)]; exact Int.ediv_eq_zero_of_lt hx1 hx2
    unfold Pat.has
    rw [hz _ ha ha2, hz _ p1 p2]; rfl
  · simp only [W0]
    refine ld_a ?_
    (try simp only [W0])
    refine sub_k (by omega) (by omega) rfl ?_
    (try simp only [W0])
    rw [wrapu64_id (by omega) (by omega)]
    refine pv_of (shr32_n (by omega)) ?_
    (try simp only [W0])
    refine ld_a ?_
    (try simp only [W0])
    refine ld_a ?_
    (try simp only [W0])
    refine sub_k (by omega) (by omega) rfl ?_
    (try simp only [W0])
    rw [wrapu64_id (by omega) (by omega)]
    refine pv_of (shr32_n (by omega)) ?_
    (try simp only [W0])
    rw [bin_eql]
    (try simp only [W0])
    refine ld_a ?_
    refine ⟨?_, H.tail⟩
    unfold Pat.has
    rw [Nat.min_eq_left (by omega), Nat.min_eq_left (by omega)]
theorem check_dir {r : Rul} (h : r.check = 0) : r.dir = 1 ∨ r.dir = 2 ∨ r.dir = 3 := by
  unfold Rul.check at h
  split at h
  · cases h
  rename_i h1
  simp only [Bool.or_eq_true, Bool.not_eq_true', not_or, Bool.not_eq_false] at h1
  have := h1.2
  unfold inn at this
  simp only [Bool.and_eq_true, decide_eq_true_eq] at this
  omega
theorem check_act {r : Rul} (h : r.check = 0) : r.act = 1 ∨ r.act = 2 := by
  unfold Rul.check at h
  split at h
  · cases h
  rename_i h1
  simp only [Bool.or_eq_true, Bool.not_eq_true', not_or, Bool.not_eq_false] at h1
  have := h1.1
  unfold inn at this
  simp only [Bool.and_eq_true, decide_eq_true_eq] at this
  omega
theorem pcheck_dir {p : Pkt} (h : p.check = 0) : p.dir = 1 ∨ p.dir = 2 := by
  unfold Pkt.check at h
  split at h
  · cases h
  rename_i h1
  unfold inn at h1
  simp only [Bool.not_eq_true', Bool.not_eq_false, Bool.and_eq_true, decide_eq_true_eq] at h1
  omega
theorem gmatches_spec {r : Rul} {p : Pkt} (hr : r.Ok) (hp : p.Ok) (hc : r.check = 0) (hpc : p.check = 0) (H : Hp w0 w L) : Calls Pg 80 ⟨[.agg ⟨r.enc⟩, .agg ⟨p.enc⟩]⟩ w fun e w' => e = .returned (.bool (r.fits p)) ∧ Hp w0 w' L := by
  obtain ⟨hb1, hb2⟩ := check_bits hc
  have hdir := dir_eq (check_dir hc) (pcheck_dir hpc)
  apply F80_calls
  unfold F80
  refine bx_m H fun w b1 H => ?_
  refine bx_m H fun w b2 H => ?_
  refine ldA_m (l := r.enc) H has rfl ?_
  refine cal_h (gcheck_spec hr H) ?_
  rintro _ w ⟨rfl, H⟩
  (try simp only [W0])
  refine neq_n (by simpa using hc) ?_
  (try simp only [W0])
  refine ldA_m (l := p.enc) H has rfl ?_
  (try simp only [W0])
  refine cal_h (gpcheck_spec H) ?_
  rintro _ w ⟨rfl, H⟩
  (try simp only [W0])
  refine neq_n (by simpa using hpc) ?_
  (try simp only [W0])
  unfold F80_j1
  unfold Rul.enc Pkt.enc at H
  have fin : ∀ (v : Bool) (w : World), r.fits p = v → Hp w0 w (⟨b2, .t 67, [I p.dir, I p.ifc, U32 p.src, U32 p.dst, I p.proto, I p.fr, I p.to, .bool p.start]⟩ :: ⟨b1, .t 38, [I r.act, .bool r.quick, .bool r.keep, I r.dir, I r.ifc, I r.proto, U32 r.src.adr, I r.src.bits, .bool r.src.no, U32 r.dst.adr, I r.dst.bits, .bool r.dst.no, I r.fr.low, I r.fr.high, I r.to.low, I r.to.high]⟩ :: L) →
      (Ending.returned (.bool v) = .returned (.bool (r.fits p)) ∧ Hp w0 w L) := fun n w h H => ⟨by rw [h], H.tail.tail⟩
  (try simp only [W0])
  refine ld_a ?_
  refine or_step (b1 := b1) (b2 := b2) (o1 := 3) (o2 := 0) (x := r.dir) (y := p.dir) ?_ H has has rfl rfl
  rw [← hdir]
  cases c1 : dirMeet r.dir p.dir with
  | false => simp only [W0]; exact fin _ w (by unfold Rul.fits; simp_all) H
  | true =>
  simp only [W0]
  refine ld_a ?_
  refine or_step (b1 := b1) (b2 := b2) (o1 := 4) (o2 := 1) (x := r.ifc) (y := p.ifc) ?_ H has has rfl rfl
  cases c2 : (decide (r.ifc = -1) || decide (r.ifc = p.ifc)) with
  | false => simp only [W0]; exact fin _ w (by unfold Rul.fits; simp_all) H
  | true =>
  simp only [W0]
  refine ld_a ?_
  refine or_step (b1 := b1) (b2 := b2) (o1 := 5) (o2 := 4) (x := r.proto) (y := p.proto) ?_ H has has rfl rfl
  cases c3 : (decide (r.proto = -1) || decide (r.proto = p.proto)) with
  | false => simp only [W0]; exact fin _ w (by unfold Rul.fits; simp_all) H
  | true =>
  simp only [W0]
  refine ld_a ?_
  (try simp only [W0])
  refine ldP_m (ys := r.src.enc) H has (Nat.le_of_ble_eq_true rfl) rfl ?_
  (try simp only [W0])
  refine cal_h (gfits_spec hr.1 hb1.1 hb1.2 hp.1.1 hp.1.2 H) ?_
  rintro _ w ⟨rfl, H⟩
  cases c4 : r.src.has p.src with
  | false => simp only [W0]; exact fin _ w (by unfold Rul.fits; simp_all) H
  | true =>
  simp only [W0]
  refine ld_a ?_
  (try simp only [W0])
  refine ldP_m (ys := r.dst.enc) H has (Nat.le_of_ble_eq_true rfl) rfl ?_
  (try simp only [W0])
  refine cal_h (gfits_spec hr.2 hb2.1 hb2.2 hp.2.1 hp.2.2 H) ?_
  rintro _ w ⟨rfl, H⟩
  cases c5 : r.dst.has p.dst with
  | false => simp only [W0]; exact fin _ w (by unfold Rul.fits; simp_all) H
  | true =>
  simp only [W0]
  refine ld_a ?_
  (try simp only [W0])
  refine ld_a ?_
  (try simp only [W0])
  refine ld_a ?_
  (try simp only [W0])
  refine cal_h (gwithin_spec H) ?_
  rintro _ w ⟨rfl, H⟩
  rw [show inn p.fr r.fr.low r.fr.high = r.fr.has p.fr from rfl]
  cases c6 : r.fr.has p.fr with
  | false => simp only [W0]; exact fin _ w (by unfold Rul.fits; simp_all) H
  | true =>
  simp only [W0]
  refine ld_a ?_
  (try simp only [W0])
  refine ld_a ?_
  (try simp only [W0])
  refine ld_a ?_
  (try simp only [W0])
  refine cal_h (gwithin_spec H) ?_
  rintro _ w ⟨rfl, H⟩
  rw [show inn p.to r.to.low r.to.high = r.to.has p.to from rfl]
  (try simp only [W0])
  exact fin _ w (by unfold Rul.fits; simp_all) H
theorem gdecide_spec {l : List Rul} {p : Pkt} (hl : TR cRul w0 cs s l) (hok : ∀ r ∈ l, r.Ok ∧ r.check = 0) (hp : p.Ok) (hpc : p.check = 0) (hn : l.length < 2 ^ 62) (H : Hp w0 w L) (m1 : ∀ c ∈ cs, c ∈ L) :
    Calls Pg 59 ⟨[s, .agg ⟨p.enc⟩]⟩ w fun e w' => e = .returned (I (deciding l p)) ∧ Hp w0 w' L := by
  apply F59_calls
  unfold F59
  refine bx_m H fun w b3 H => ?_
  unfold F59_j2 F59_j3
  refine loop4 (F59_l1_succ _) (fun m x x3 x5 z w => ∃ (i : Nat) (last : Int), s = x ∧ x3 = ptr b3 0 ∧ x5 = I last ∧ z = I (i : Int) ∧ m + i = l.length ∧ deciding l p = decFrom p (l.drop i) i last ∧ Hp w0 w (⟨b3, .t 67, p.enc⟩ :: L)) ?_ (m := l.length) ⟨0, -2, rfl, rfl, rfl, rfl, rfl, rfl, H⟩
  clear H
  rintro m k _ _ _ _ w ⟨i, last, rfl, rfl, rfl, rfl, hm, he, H⟩ hk
  unfold F59_b1
  refine pv_of (lenS_tr hl) ?_
  refine lss_k (fun hi => ?_) (fun hi => ?_)
  · (try simp only [W0])
    have hx : l[i]? = some l[i] := List.getElem?_eq_getElem (by omega)
    generalize l[i] = r at hx
    obtain ⟨hr1, hr2⟩ := hok r (List.mem_of_getElem? hx)
    unfold F59_j4 F59_j6
    refine drew_k H fun w H => ?_
    refine ixN_t (C := cRul) hl H (by intro c hc; exact List.mem_cons_of_mem _ (m1 c hc)) hx (by decide) ?_
    refine ldA_m (l := p.enc) H has rfl ?_
    (try simp only [W0])
    refine cal_h (gmatches_spec hr1 hp hr2 hpc H) ?_
    rintro _ w ⟨rfl, H⟩
    rw [decFrom_drop hx] at he
    cases hf : r.fits p with
    | false =>
      simp only [W0]
      rw [hf] at he
      unfold F59_j5
      refine add_k (z := ((i + 1 : Nat) : Int)) (by omega) (by omega) (by omega) ?_
      exact hk (m - 1) _ _ _ _ _ (by omega) ⟨i + 1, last, rfl, rfl, rfl, rfl, by omega, he, H⟩
    | true =>
      simp only [W0]
      rw [hf] at he
      refine ixF_t (C := cRul) (f := 1) (v := .bool r.quick) hl H (by intro c hc; exact List.mem_cons_of_mem _ (m1 c hc)) hx rfl ?_
      cases hq : r.quick with
      | true =>
        simp only [W0]
        rw [hq] at he
        exact ⟨by rw [he]; rfl, H.tail⟩
      | false =>
        simp only [W0]
        rw [hq] at he
        unfold F59_j5
        refine add_k (z := ((i + 1 : Nat) : Int)) (by omega) (by omega) (by omega) ?_
        exact hk (m - 1) _ _ _ _ _ (by omega) ⟨i + 1, (i : Int), rfl, rfl, rfl, rfl, by omega, he, H⟩
  · (try simp only [W0])
    unfold F59_j1
    exact ⟨by rw [he, List.drop_of_length_le (by omega)]; rfl, H.tail⟩
end
end Go.Proofs.Ytmmbepdghpjgeaa.Den
