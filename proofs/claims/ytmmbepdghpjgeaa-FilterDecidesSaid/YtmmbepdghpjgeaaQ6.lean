/- Printed by a program of this session: what the functions mean, and that the model means just that. Conditions: none. -/
import Derived.Maps.RangeRun
import Derived.Test.YtmmbepdghpjgeaaQ5
section
set_option linter.unusedVariables false
set_option maxRecDepth 100000
namespace Go.Proofs.Ytmmbepdghpjgeaa.Den
open Go

end Go.Proofs.Ytmmbepdghpjgeaa.Den
end

section
set_option linter.unusedVariables false
set_option linter.unusedSimpArgs false
set_option maxRecDepth 8000
set_option maxHeartbeats 1000000
namespace Go.Proofs.Ytmmbepdghpjgeaa.Den
open Go Go.RowKit
theorem wrapu64_id {a : Int} (h1 : 0 ≤ a) (h2 : a < 18446744073709551616) : IntKind.u64.wrap a = a := by
  have e1 : (2 ^ IntKind.u64.bits : Int) = 18446744073709551616 := by decide
  simp only [IntKind.wrap, e1, IntKind.signed, Bool.false_and, Bool.false_eq_true, if_false]
  omega
section
variable {w w' w0 : World} {L L' F cs A X Y : List Chunk} {s : Value} {K : VK} {R : ER} {b i j : Nat}
theorem within_spec {n lo hi : Int} (H : Hp w0 w L) : Calls Pg 42 ⟨[I n, I lo, I hi]⟩ w fun e w' => e = .returned (.bool (inn n lo hi)) ∧ Hp w0 w' L := by
  apply F42_calls
  unfold F42
  refine geq_k (fun h => ?_) (fun h => ?_)
  · try simp only [W0]
    refine leq_k (fun h2 => ?_) (fun h2 => ?_)
    · (try simp only [W0]); exact ⟨by rw [inn, decide_eq_true h, decide_eq_true h2]; rfl, H⟩
    · (try simp only [W0]); exact ⟨by rw [inn, decide_eq_true h, decide_eq_false h2]; rfl, H⟩
  · (try simp only [W0]); exact ⟨by rw [inn, decide_eq_false h]; rfl, H⟩
theorem valid_spec {r : Rng} (H : Hp w0 w L) : Calls Pg 43 ⟨[.agg ⟨r.enc⟩]⟩ w fun e w' => e = .returned (.bool r.valid) ∧ Hp w0 w' L := by
  apply F43_calls
  unfold F43 Rng.enc
  refine bx_m H fun w b H => ?_
  try simp only [W0]
  refine ld_a ?_
  refine geq_k (fun h => ?_) (fun h => ?_)
  · try simp only [W0]
    refine ld_a ?_
    try simp only [W0]
    refine ld_a ?_
    try simp only [W0]
    refine leq_k (fun h2 => ?_) (fun h2 => ?_)
    · try simp only [W0]
      refine ld_a ?_
      try simp only [W0]
      refine leq_k (fun h3 => ?_) (fun h3 => ?_)
      · (try simp only [W0]); exact ⟨by rw [Rng.valid, decide_eq_true h, decide_eq_true h2, decide_eq_true h3]; rfl, H.tail⟩
      · (try simp only [W0]); exact ⟨by rw [Rng.valid, decide_eq_true h, decide_eq_true h2, decide_eq_false h3]; rfl, H.tail⟩
    · (try simp only [W0]); exact ⟨by rw [Rng.valid, decide_eq_true h, decide_eq_false h2]; rfl, H.tail⟩
  · (try simp only [W0]); exact ⟨by rw [Rng.valid, decide_eq_false h]; rfl, H.tail⟩
theorem shl_n {k : IntKind} {a n : Int} (h : 0 ≤ n) : bin .shl (.int .u64 a) (.int k n) = some (.int .u64 (IntKind.u64.wrap (a * 2 ^ (min n.toNat 64)))) := by
  show (if n < 0 then none else some (Value.int .u64 (IntKind.u64.wrap (a * 2 ^ (min n.toNat IntKind.u64.bits))))) = _
  rw [if_neg (by omega)]; rfl
theorem shr_n {k : IntKind} {a n : Int} (h : 0 ≤ n) : bin .shr (.int .u64 a) (.int k n) = some (.int .u64 (a.fdiv (2 ^ (min n.toNat 64)))) := by
  show (if n < 0 then none else some (Value.int .u64 (a.fdiv (2 ^ (min n.toNat IntKind.u64.bits))))) = _
  rw [if_neg (by omega)]; rfl
theorem and_n {k : IntKind} {a b : Int} : bin .and (.int k a) (.int k b) = some (.int k (k.wrap (BitVec.ofInt k.bits a &&& BitVec.ofInt k.bits b).toNat)) := by
  show (if k = k then bitsI .and k a b else none) = _
  rw [if_pos rfl]; rfl
theorem behind_spec {p : Pat} (hp : p.Ok) (h0 : 0 ≤ p.bits) (H : Hp w0 w L) : Calls Pg 44 ⟨[.agg ⟨p.enc⟩]⟩ w fun e w' => e = .returned (.bool p.behind) ∧ Hp w0 w' L := by
  obtain ⟨p1, p2⟩ := hp
  apply F44_calls
  unfold F44 Pat.enc
  refine bx_m H fun w b H => ?_
  try simp only [W0]
  refine ld_a ?_
  try simp only [W0]
  rw [wrapu64_id p1 (by omega)]
  refine ld_a ?_
  refine pv_of (shl_n h0) ?_
  refine pv_of and_n ?_
  rw [bin_neq]
  try simp only [W0]
  exact ⟨rfl, H.tail⟩
theorem rcheck_spec {r : Rul} (hr : r.Ok) (H : Hp w0 w L) : Calls Pg 15 ⟨[.agg ⟨r.enc⟩]⟩ w fun e w' => e = .returned (I r.check) ∧ Hp w0 w' L := by
  apply F15_calls
  unfold F15 Rul.enc
  refine bx_m H fun w b H => ?_
  have fin : ∀ (n : Int) (w : World), r.check = n → Hp w0 w (⟨b, .t 29, [I r.act, .bool r.quick, .bool r.keep, I r.dir, I r.ifc, I r.proto, U32 r.src.adr, I r.src.bits, .bool r.src.no, U32 r.dst.adr, I r.dst.bits, .bool r.dst.no, I r.fr.low, I r.fr.high, I r.to.low, I r.to.high]⟩ :: L) →
      (Ending.returned (I n) = .returned (I r.check) ∧ Hp w0 w L) := fun n w h H => ⟨by rw [h], H.tail⟩
  try simp only [W0]
  refine ld_a ?_
  refine cal_h (within_spec H) ?_
  rintro _ w ⟨rfl, H⟩
  cases c1 : inn r.act 1 2 with
  | false => (try simp only [W0]); exact fin _ w (by unfold Rul.check; simp_all) H
  | true =>
  try simp only [W0]
  refine ld_a ?_
  refine cal_h (within_spec H) ?_
  rintro _ w ⟨rfl, H⟩
  cases c2 : inn r.dir 1 3 with
  | false => (try simp only [W0]); exact fin _ w (by unfold Rul.check; simp_all) H
  | true =>
  try simp only [W0]
  refine ld_a ?_
  refine cal_h (within_spec H) ?_
  rintro _ w ⟨rfl, H⟩
  cases c3 : inn r.ifc (-1) 255 with
  | false => (try simp only [W0]); exact fin _ w (by unfold Rul.check; simp_all) H
  | true =>
  try simp only [W0]
  refine ld_a ?_
  refine cal_h (within_spec H) ?_
  rintro _ w ⟨rfl, H⟩
  cases c4 : inn r.proto (-1) 255 with
  | false => (try simp only [W0]); exact fin _ w (by unfold Rul.check; simp_all) H
  | true =>
  try simp only [W0]
  refine ld_a ?_
  refine cal_h (within_spec H) ?_
  rintro _ w ⟨rfl, H⟩
  cases c5 : inn r.src.bits 0 32 with
  | false => (try simp only [W0]); exact fin _ w (by unfold Rul.check; simp_all) H
  | true =>
  try simp only [W0]
  refine ld_a ?_
  refine cal_h (within_spec H) ?_
  rintro _ w ⟨rfl, H⟩
  cases c6 : inn r.dst.bits 0 32 with
  | false => (try simp only [W0]); exact fin _ w (by unfold Rul.check; simp_all) H
  | true =>
  try simp only [W0]
  refine ldP_m (ys := r.fr.enc) H has (Nat.le_of_ble_eq_true rfl) rfl ?_
  try simp only [W0]
  refine cal_h (valid_spec (r := r.fr) H) ?_
  rintro _ w ⟨rfl, H⟩
  cases c7 : r.fr.valid with
  | false => (try simp only [W0]); exact fin _ w (by unfold Rul.check; simp_all) H
  | true =>
  try simp only [W0]
  refine ldP_m (ys := r.to.enc) H has (Nat.le_of_ble_eq_true rfl) rfl ?_
  try simp only [W0]
  refine cal_h (valid_spec (r := r.to) H) ?_
  rintro _ w ⟨rfl, H⟩
  cases c8 : r.to.valid with
  | false => (try simp only [W0]); exact fin _ w (by unfold Rul.check; simp_all) H
  | true =>
  try simp only [W0]
  have hb5 : 0 ≤ r.src.bits := by unfold inn at c5; simp at c5; omega
  have hb6 : 0 ≤ r.dst.bits := by unfold inn at c6; simp at c6; omega
  refine ldP_m (ys := r.src.enc) H has (Nat.le_of_ble_eq_true rfl) rfl ?_
  try simp only [W0]
  refine cal_h (behind_spec hr.1 hb5 H) ?_
  rintro _ w ⟨rfl, H⟩
  cases c9 : r.src.behind with
  | true => (try simp only [W0]); exact fin _ w (by unfold Rul.check; simp_all) H
  | false =>
  try simp only [W0]
  refine ldP_m (ys := r.dst.enc) H has (Nat.le_of_ble_eq_true rfl) rfl ?_
  try simp only [W0]
  refine cal_h (behind_spec hr.2 hb6 H) ?_
  rintro _ w ⟨rfl, H⟩
  cases c10 : r.dst.behind with
  | true => (try simp only [W0]); exact fin _ w (by unfold Rul.check; simp_all) H
  | false =>
  try simp only [W0]
  refine ld_a ?_
  cases c11 : r.keep with
  | false => (try simp only [W0]); exact fin _ w (by unfold Rul.check; simp_all) H
  | true =>
  try simp only [W0]
  rw [c11] at H fin
  refine ld_a ?_
  refine eql_k (fun h => ?_) (fun h => ?_)
  · (try simp only [W0]); exact fin _ w (by unfold Rul.check; simp_all) H
  · (try simp only [W0]); exact fin _ w (by unfold Rul.check; simp_all) H
end
end Go.Proofs.Ytmmbepdghpjgeaa.Den
end

section
set_option linter.unusedVariables false
set_option linter.unusedSimpArgs false
set_option maxRecDepth 8000
set_option maxHeartbeats 1000000
namespace Go.Proofs.Ytmmbepdghpjgeaa.Den
open Go Go.RowKit
section
variable {w w' w0 : World} {L L' F cs A X Y : List Chunk} {s : Value} {K : VK} {R : ER} {b i j : Nat}
theorem pcheck_spec {p : Pkt} (H : Hp w0 w L) : Calls Pg 45 ⟨[.agg ⟨p.enc⟩]⟩ w fun e w' => e = .returned (I p.check) ∧ Hp w0 w' L := by
  apply F45_calls
  unfold F45 Pkt.enc
  refine bx_m H fun w b H => ?_
  have fin : ∀ (n : Int) (w : World), p.check = n → Hp w0 w (⟨b, .t 45, [I p.dir, I p.ifc, U32 p.src, U32 p.dst, I p.proto, I p.fr, I p.to, .bool p.start]⟩ :: L) →
      (Ending.returned (I n) = .returned (I p.check) ∧ Hp w0 w L) := fun n w h H => ⟨by rw [h], H.tail⟩
  (try simp only [W0])
  refine ld_a ?_
  refine cal_h (within_spec H) ?_
  rintro _ w ⟨rfl, H⟩
  cases c1 : inn p.dir 1 2 with
  | false => simp only [W0]; exact fin _ w (by unfold Pkt.check; simp_all) H
  | true =>
  (try simp only [W0])
  refine ld_a ?_
  refine cal_h (within_spec H) ?_
  rintro _ w ⟨rfl, H⟩
  cases c2 : inn p.ifc 0 255 with
  | false => simp only [W0]; exact fin _ w (by unfold Pkt.check; simp_all) H
  | true =>
  (try simp only [W0])
  refine ld_a ?_
  refine cal_h (within_spec H) ?_
  rintro _ w ⟨rfl, H⟩
  cases c3 : inn p.proto 0 255 with
  | false => simp only [W0]; exact fin _ w (by unfold Pkt.check; simp_all) H
  | true =>
  (try simp only [W0])
  refine ld_a ?_
  refine cal_h (within_spec H) ?_
  rintro _ w ⟨rfl, H⟩
  cases c4 : inn p.fr 0 65535 with
  | false => simp only [W0]; exact fin _ w (by unfold Pkt.check; simp_all) H
  | true =>
  (try simp only [W0])
  refine ld_a ?_
  refine cal_h (within_spec H) ?_
  rintro _ w ⟨rfl, H⟩
  cases c5 : inn p.to 0 65535 with
  | false => simp only [W0]; exact fin _ w (by unfold Pkt.check; simp_all) H
  | true =>
  (try simp only [W0])
  exact fin _ w (by unfold Pkt.check; simp_all) H
theorem phas_spec {p : Pat} {a : Int} (hp : p.Ok) (h0 : 0 ≤ p.bits) (h32 : p.bits ≤ 32) (ha : 0 ≤ a) (ha2 : a < 4294967296) (H : Hp w0 w L) :
    Calls Pg 69 ⟨[.agg ⟨p.enc⟩, U32 a]⟩ w fun e w' => e = .returned (.bool (p.has a)) ∧ Hp w0 w' L := by
  obtain ⟨p1, p2⟩ := hp
  apply F69_calls
  unfold F69 Pat.enc
  refine bx_m H fun w b H => ?_
  (try simp only [W0])
  refine ld_a ?_
  refine sub_k (by omega) (by omega) rfl ?_
  refine drew_k H fun w H => ?_
  (try simp only [W0])
  rw [wrapu64_id ha (by omega)]
  refine pv_of (shr_n (by omega)) ?_
  (try simp only [W0])
  refine ld_a ?_
  (try simp only [W0])
  rw [wrapu64_id p1 (by omega)]
  refine pv_of (shr_n (by omega)) ?_
  rw [bin_eql]
  (try simp only [W0])
  refine ld_a ?_
  exact ⟨rfl, H.tail⟩
theorem rhas_spec {r : Rng} {n : Int} (H : Hp w0 w L) : Calls Pg 70 ⟨[.agg ⟨r.enc⟩, I n]⟩ w fun e w' => e = .returned (.bool (r.has n)) ∧ Hp w0 w' L := by
  apply F70_calls
  unfold F70 Rng.enc
  refine bx_m H fun w b H => ?_
  (try simp only [W0])
  refine ld_a ?_
  (try simp only [W0])
  refine ld_a ?_
  refine cal_h (within_spec H) ?_
  rintro _ w ⟨rfl, H⟩
  exact ⟨rfl, H.tail⟩
theorem or_step {b1 b2 o1 o2 : Nat} {a c x y : Int} {t1 t2 : TypeId} {l1 l2 : List Value} {G : VK} (g : G (.bool (decide (a = c) || decide (x = y))) w) (H : Hp w0 w L) (m1 : Has L b1 (.t t1) l1) (m2 : Has L b2 (.t t2) l2) (h1 : l1[o1]? = some (I x)) (h2 : l2[o2]? = some (I y)) :
    pv (bin .eql (I a) (I c)) (fun v11 => gd v11 false (pv (faO o1 (ptr b1 0))) fun v13 => gd v11 false (ld1 v13) fun v14 => gd v11 false (pv (faO o2 (ptr b2 0))) fun v15 => gd v11 false (ld1 v15) fun v16 => gd v11 false (pv (bin .eql v14 v16)) fun v17 => pv (pickO v11 (.bool true) v17) G) w := by
  refine eql_k (fun h => ?_) (fun h => ?_)
  · (try simp only [W0])
    rw [decide_eq_true h] at g; exact g
  · (try simp only [W0])
    refine ld_m H m1 (o := o1) h1 ?_
    (try simp only [W0])
    refine ld_m H m2 (o := o2) h2 ?_
    (try simp only [W0])
    rw [bin_eql]
    (try simp only [W0])
    rw [decide_eq_false h, Bool.false_or] at g; exact g
theorem check_bits {r : Rul} (h : r.check = 0) : (0 ≤ r.src.bits ∧ r.src.bits ≤ 32) ∧ (0 ≤ r.dst.bits ∧ r.dst.bits ≤ 32) := by
  unfold Rul.check at h
  split at h
  · cases h
  split at h
  · cases h
  rename_i h1
  simp only [Bool.or_eq_true, Bool.not_eq_true', not_or, Bool.not_eq_false] at h1
  obtain ⟨⟨⟨⟨_, h2⟩, h3⟩, _⟩, _⟩ := h1
  unfold inn at h2 h3
  simp only [Bool.and_eq_true, decide_eq_true_eq] at h2 h3
  exact ⟨h2, h3⟩
theorem fits_spec {r : Rul} {p : Pkt} (hr : r.Ok) (hp : p.Ok) (hc : r.check = 0) (H : Hp w0 w L) : Calls Pg 46 ⟨[.agg ⟨r.enc⟩, .agg ⟨p.enc⟩]⟩ w fun e w' => e = .returned (.bool (r.fits p)) ∧ Hp w0 w' L := by
  obtain ⟨hb1, hb2⟩ := check_bits hc
  apply F46_calls
  unfold F46 Rul.enc Pkt.enc
  refine bx_m H fun w b1 H => ?_
  refine bx_m H fun w b2 H => ?_
  have fin : ∀ (v : Bool) (w : World), r.fits p = v → Hp w0 w (⟨b2, .t 45, [I p.dir, I p.ifc, U32 p.src, U32 p.dst, I p.proto, I p.fr, I p.to, .bool p.start]⟩ :: ⟨b1, .t 29, [I r.act, .bool r.quick, .bool r.keep, I r.dir, I r.ifc, I r.proto, U32 r.src.adr, I r.src.bits, .bool r.src.no, U32 r.dst.adr, I r.dst.bits, .bool r.dst.no, I r.fr.low, I r.fr.high, I r.to.low, I r.to.high]⟩ :: L) →
      (Ending.returned (.bool v) = .returned (.bool (r.fits p)) ∧ Hp w0 w L) := fun n w h H => ⟨by rw [h], H.tail.tail⟩
  (try simp only [W0])
  refine ld_a ?_
  (try simp only [W0])
  refine ld_a ?_
  refine pv_of and_n ?_
  rw [bin_neq]
  (try simp only [W0])
  have hd : decide (IntKind.i64.wrap (BitVec.ofInt IntKind.i64.bits r.dir &&& BitVec.ofInt IntKind.i64.bits p.dir).toNat ≠ 0) = dirMeet r.dir p.dir := rfl
  rw [hd]
  cases c1 : dirMeet r.dir p.dir with
  | false => simp only [W0]; exact fin _ w (by unfold Rul.fits; simp_all) H
  | true =>
  (try simp only [W0])
  refine ld_a ?_
  refine or_step (b1 := b1) (b2 := b2) (o1 := 4) (o2 := 1) (x := r.ifc) (y := p.ifc) ?_ H has has rfl rfl
  cases c2 : (decide (r.ifc = -1) || decide (r.ifc = p.ifc)) with
  | false => simp only [W0]; exact fin _ w (by unfold Rul.fits; simp_all) H
  | true =>
  (try simp only [W0])
  refine ld_a ?_
  refine or_step (b1 := b1) (b2 := b2) (o1 := 5) (o2 := 4) (x := r.proto) (y := p.proto) ?_ H has has rfl rfl
  cases c3 : (decide (r.proto = -1) || decide (r.proto = p.proto)) with
  | false => simp only [W0]; exact fin _ w (by unfold Rul.fits; simp_all) H
  | true =>
  (try simp only [W0])
  refine ldP_m (ys := r.src.enc) H has (Nat.le_of_ble_eq_true rfl) rfl ?_
  (try simp only [W0])
  refine ld_a ?_
  (try simp only [W0])
  refine cal_h (phas_spec hr.1 hb1.1 hb1.2 hp.1.1 hp.1.2 H) ?_
  rintro _ w ⟨rfl, H⟩
  cases c4 : r.src.has p.src with
  | false => simp only [W0]; exact fin _ w (by unfold Rul.fits; simp_all) H
  | true =>
  (try simp only [W0])
  refine ldP_m (ys := r.dst.enc) H has (Nat.le_of_ble_eq_true rfl) rfl ?_
  (try simp only [W0])
  refine ld_a ?_
  (try simp only [W0])
  refine cal_h (phas_spec hr.2 hb2.1 hb2.2 hp.2.1 hp.2.2 H) ?_
  rintro _ w ⟨rfl, H⟩
  cases c5 : r.dst.has p.dst with
  | false => simp only [W0]; exact fin _ w (by unfold Rul.fits; simp_all) H
  | true =>
  (try simp only [W0])
  refine ldP_m (ys := r.fr.enc) H has (Nat.le_of_ble_eq_true rfl) rfl ?_
  (try simp only [W0])
  refine ld_a ?_
  (try simp only [W0])
  refine cal_h (rhas_spec H) ?_
  rintro _ w ⟨rfl, H⟩
  cases c6 : r.fr.has p.fr with
  | false => simp only [W0]; exact fin _ w (by unfold Rul.fits; simp_all) H
  | true =>
  (try simp only [W0])
  refine ldP_m (ys := r.to.enc) H has (Nat.le_of_ble_eq_true rfl) rfl ?_
  (try simp only [W0])
  refine ld_a ?_
  (try simp only [W0])
  refine cal_h (rhas_spec H) ?_
  rintro _ w ⟨rfl, H⟩
  (try simp only [W0])
  exact fin _ w (by unfold Rul.fits; simp_all) H
theorem matches_spec {r : Rul} {p : Pkt} (hr : r.Ok) (hp : p.Ok) (H : Hp w0 w L) : Calls Pg 16 ⟨[.agg ⟨r.enc⟩, .agg ⟨p.enc⟩]⟩ w fun e w' => e = .returned (.bool (decide (r.check = 0) && decide (p.check = 0) && r.fits p)) ∧ Hp w0 w' L := by
  apply F16_calls
  unfold F16
  refine bx_m H fun w b1 H => ?_
  refine bx_m H fun w b2 H => ?_
  refine ldA_m (l := r.enc) H has rfl ?_
  refine cal_h (rcheck_spec hr H) ?_
  rintro _ w ⟨rfl, H⟩
  (try simp only [W0])
  refine eql_k (fun h1 => ?_) (fun h1 => ?_)
  · (try simp only [W0])
    refine ldA_m (l := p.enc) H has rfl ?_
    refine cal_h (pcheck_spec H) ?_
    rintro _ w ⟨rfl, H⟩
    (try simp only [W0])
    refine eql_k (fun h2 => ?_) (fun h2 => ?_)
    · (try simp only [W0])
      refine ldA_m (l := r.enc) H has rfl ?_
      (try simp only [W0])
      refine ldA_m (l := p.enc) H has rfl ?_
      (try simp only [W0])
      refine cal_h (fits_spec hr hp h1 H) ?_
      rintro _ w ⟨rfl, H⟩
      (try simp only [W0])
      exact ⟨by rw [decide_eq_true h1, decide_eq_true h2]; simp, H.tail.tail⟩
    · (try simp only [W0])
      exact ⟨by rw [decide_eq_true h1, decide_eq_false h2]; simp, H.tail.tail⟩
  · (try simp only [W0])
    exact ⟨by rw [decide_eq_false h1]; simp, H.tail.tail⟩
theorem elRul : ElT 43 29 cRul.sz 120 (⟨0, false, false, 0, 0, 0, ⟨0, 0, false⟩, ⟨0, 0, false⟩, ⟨0, 0⟩, ⟨0, 0⟩⟩ : Rul).enc := ⟨by kernel_rfl, by kernel_rfl, rfl⟩
def rul0 : Rul := ⟨0, false, false, 0, 0, 0, ⟨0, 0, false⟩, ⟨0, 0, false⟩, ⟨0, 0⟩, ⟨0, 0⟩⟩
theorem firstBad_drop {l : List Rul} {i : Nat} {r : Rul} (h : l[i]? = some r) : firstBad (l.drop i) = if r.check ≠ 0 then r.check else firstBad (l.drop (i + 1)) := by
  obtain ⟨h1, h2⟩ := List.getElem?_eq_some_iff.1 h
  rw [List.drop_eq_getElem_cons h1, h2]; rfl
theorem checkAll_spec {l : List Rul} (hl : TR cRul w0 cs s l) (hok : ∀ r ∈ l, r.Ok) (hn : l.length < 2 ^ 63) (H : Hp w0 w L) (m1 : ∀ c ∈ cs, c ∈ L) : Calls Pg 47 ⟨[s]⟩ w fun e w' => e = .returned (I (checkAll l)) ∧ Hp w0 w' L := by
  apply F47_calls
  unfold F47
  refine pv_of (lenS_tr hl) ?_
  refine gtr_k (fun h => ?_) (fun h => ?_)
  · (try simp only [W0])
    exact ⟨by rw [checkAll, if_pos (by omega)], H⟩
  · have e0 : checkAll l = firstBad l := by rw [checkAll, if_neg (by omega)]
    rw [e0]
    (try simp only [W0])
    unfold F47_j1 F47_j3
    refine pv_of (lenS_tr hl) ?_
    unfold F47_j4
    refine loop3 (F47_l1_succ _) (fun m x y z w => ∃ i : Nat, s = x ∧ y = I (l.length : Int) ∧ z = I (i : Int) ∧ m + i = l.length ∧ firstBad l = firstBad (l.drop i) ∧ Hp w0 w L) ?_ (m := l.length) ⟨0, rfl, rfl, rfl, rfl, by rw [List.drop_zero], H⟩
    clear H
    rintro m k _ _ _ w ⟨i, rfl, rfl, rfl, hm, he, H⟩ hk
    unfold F47_b1
    refine lss_k (fun hi => ?_) (fun hi => ?_)
    · (try simp only [W0])
      have hx : l[i]? = some l[i] := List.getElem?_eq_getElem (by omega)
      generalize l[i] = r at hx
      unfold F47_j5
      refine ixN_t (C := cRul) hl H m1 hx (by decide) ?_
      refine al_m (ys := rul0.enc) H (by kernel_rfl) fun w b H => ?_
      refine stA_m H updd (by exact r.enc_len) rfl (by exact r.enc_sc) fun w H => ?_
      refine ldA_m (l := r.enc) H has rfl ?_
      refine cal_h (rcheck_spec (hok r (List.mem_of_getElem? hx)) H) ?_
      rintro _ w ⟨rfl, H⟩
      replace H := H.tail
      rw [firstBad_drop hx] at he
      (try simp only [W0])
      refine neq_k (fun h1 => ?_) (fun h1 => ?_)
      · (try simp only [W0])
        exact ⟨by rw [he, if_pos h1], H⟩
      · (try simp only [W0])
        refine add_k (z := ((i + 1 : Nat) : Int)) (by omega) (by omega) (by omega) ?_
        exact hk (m - 1) _ _ _ _ (by omega) ⟨i + 1, rfl, rfl, rfl, by omega, by rw [he, if_neg (by simpa using h1)], H⟩
    · (try simp only [W0])
      unfold F47_j2
      exact ⟨by rw [he, List.drop_of_length_le (by omega)]; rfl, H⟩
theorem decFrom_drop {l : List Rul} {p : Pkt} {i : Nat} {last : Int} {r : Rul} (h : l[i]? = some r) : decFrom p (l.drop i) i last = if !r.fits p then decFrom p (l.drop (i + 1)) (i + 1) last else if r.quick then (i : Int) else decFrom p (l.drop (i + 1)) (i + 1) (i : Int) := by
  obtain ⟨h1, h2⟩ := List.getElem?_eq_some_iff.1 h
  rw [List.drop_eq_getElem_cons h1, h2]; rfl
theorem deciding_spec {l : List Rul} {p : Pkt} (hl : TR cRul w0 cs s l) (hok : ∀ r ∈ l, r.Ok ∧ r.check = 0) (hp : p.Ok) (hn : l.length < 2 ^ 63) (H : Hp w0 w L) (m1 : ∀ c ∈ cs, c ∈ L) :
    Calls Pg 49 ⟨[s, .agg ⟨p.enc⟩]⟩ w fun e w' => e = .returned (I (deciding l p)) ∧ Hp w0 w' L := by
  apply F49_calls
  unfold F49
  refine bx_m H fun w b3 H => ?_
  unfold F49_j1 F49_j3
  refine pv_of (lenS_tr hl) ?_
  unfold F49_j4
  refine loop5 (F49_l1_succ _) (fun m x3 x5 x y z w => ∃ (i : Nat) (last : Int), x3 = ptr b3 0 ∧ x5 = I last ∧ s = x ∧ y = I (l.length : Int) ∧ z = I (i : Int) ∧ m + i = l.length ∧ deciding l p = decFrom p (l.drop i) i last ∧ Hp w0 w (⟨b3, .t 45, p.enc⟩ :: L)) ?_ (m := l.length) ⟨0, -2, rfl, rfl, rfl, rfl, rfl, rfl, rfl, H⟩
  clear H
  rintro m k _ _ _ _ _ w ⟨i, last, rfl, rfl, rfl, rfl, rfl, hm, he, H⟩ hk
  unfold F49_b1
  refine lss_k (fun hi => ?_) (fun hi => ?_)
  · (try simp only [W0])
    have hx : l[i]? = some l[i] := List.getElem?_eq_getElem (by omega)
    generalize l[i] = r at hx
    obtain ⟨hr1, hr2⟩ := hok r (List.mem_of_getElem? hx)
    unfold F49_j5 F49_j7
    refine ixN_t (C := cRul) hl H (by intro c hc; exact List.mem_cons_of_mem _ (m1 c hc)) hx (by decide) ?_
    refine al_m (ys := rul0.enc) H (by kernel_rfl) fun w b H => ?_
    refine stA_m H updd (by exact r.enc_len) rfl (by exact r.enc_sc) fun w H => ?_
    refine ldA_m (l := r.enc) H has rfl ?_
    refine ldA_m (l := p.enc) H has rfl ?_
    refine cal_h (fits_spec hr1 hp hr2 H) ?_
    rintro _ w ⟨rfl, H⟩
    rw [decFrom_drop hx] at he
    cases hf : r.fits p with
    | false =>
      (try simp only [W0])
      rw [hf] at he
      unfold F49_j6
      refine add_k (z := ((i + 1 : Nat) : Int)) (by omega) (by omega) (by omega) ?_
      exact hk (m - 1) _ _ _ _ _ _ (by omega) ⟨i + 1, last, rfl, rfl, rfl, rfl, rfl, by omega, he, H.tail⟩
    | true =>
      (try simp only [W0])
      rw [hf] at he
      refine ld_m H has (v := .bool r.quick) rfl ?_
      cases hq : r.quick with
      | true =>
        (try simp only [W0])
        rw [hq] at he
        unfold F49_j2
        exact ⟨by rw [he]; rfl, H.tail.tail⟩
      | false =>
        (try simp only [W0])
        rw [hq] at he
        unfold F49_j6
        refine add_k (z := ((i + 1 : Nat) : Int)) (by omega) (by omega) (by omega) ?_
        exact hk (m - 1) _ _ _ _ _ _ (by omega) ⟨i + 1, (i : Int), rfl, rfl, rfl, rfl, rfl, by omega, he, H.tail⟩
  · (try simp only [W0])
    unfold F49_j2
    exact ⟨by rw [he, List.drop_of_length_le (by omega)]; rfl, H.tail⟩
end
end Go.Proofs.Ytmmbepdghpjgeaa.Den
end

section
set_option linter.unusedVariables false
set_option linter.unusedSimpArgs false
set_option maxRecDepth 8000
namespace Go.Proofs.Ytmmbepdghpjgeaa.Den
open Go Go.RowKit
/-- A map type, its keys and elements as Lean data. -/
structure MapK {κ ν : Type} [DecidableEq κ] (T kt et : TypeId) (d : TypeDesc) (key : κ → Value) (val : ν → Value) (z : ν) : Prop where
  under : Pg.underlying T = some (.map kt et)
  kd : Pg.underlying kt = some d
  zero : (Pg.info? et).bind (·.zero) = some (val z)
  eq : ∀ x y w, (Op.equal kt (key x) (key y)).run Pg w = .ok (decide (x = y)) w
  chk : ∀ b x w, (Instr.checkKey b 10000 kt (key x)).run Pg w = .ok () w
  now : (∀ x y, Instr.sameNow d (key x) (key y) = some (decide (x = y))) ∨ (∀ x y, Instr.sameNow d (key x) (key y) = none)
  bits : ∀ x, Instr.sameBits 10000 (key x) (key x) = true
section
variable {κ ν : Type} [DecidableEq κ] {T kt et : TypeId} {d : TypeDesc} {key : κ → Value} {val : ν → Value} {z : ν} {w w' w0 : World} {L L' F : List Chunk} {b clock : Nat} {K : VK} {R : ER}
def men (key : κ → Value) (val : ν → Value) (e : κ × ν × Nat) : MapEntry := { key := key e.1, val := val e.2.1, born := e.2.2 }
def mobj (key : κ → Value) (val : ν → Value) (ents : List (κ × ν × Nat)) (clock : Nat) : Obj := .map ⟨ents.map (men key val)⟩ clock
def mfind (x : κ) : List (κ × ν × Nat) → Nat → Option (Nat × ν)
  | [], _ => none
  | e :: es, i => if x = e.1 then some (i, e.2.1) else mfind x es (i + 1)
/-- What is stored at a key. -/
def mget (x : κ) (ents : List (κ × ν × Nat)) : Option ν := (mfind x ents 0).map (·.2)
def mput (x : κ) (v : ν) (ents : List (κ × ν × Nat)) (clock : Nat) : List (κ × ν × Nat) := match mfind x ents 0 with
  | some (i, _) => ents.modify i fun e => (x, v, e.2.2)
  | none => ents ++ [(x, v, clock)]
def mclk (x : κ) (ents : List (κ × ν × Nat)) (clock : Nat) : Nat := match mfind x ents 0 with
  | some _ => clock
  | none => clock + 1
def mdel (x : κ) (ents : List (κ × ν × Nat)) : List (κ × ν × Nat) := match mfind x ents 0 with
  | some (i, _) => ents.eraseIdx i
  | none => ents
def putB (w : World) (r : Nat) (o : Obj) : World := { w with heap := w.heap.setIfInBounds r o }
theorem run_getO {P : Program} {r : Nat} {es : Array MapEntry} {c : Nat} (h : w.heap[r]? = some (.map es c)) : (getObj r).run P w = .ok (.map es c) w := by simp [getObj, Sem.run, h]
theorem run_setM {P : Program} {r : Nat} {es : Array MapEntry} {c : Nat} (o' : Obj) (h : w.heap[r]? = some (.map es c)) : (setObj r o').run P w = .ok () (putB w r o') := by simp [setObj, Sem.run, h, putB]
theorem Ext.putO (r : Nat) (o : Obj) : Ext [r] w (putB w r o) :=
  ⟨rfl, rfl, rfl, by simp [putB], fun k hk hn => by simp [putB]; rw [Array.getElem?_setIfInBounds_ne]; simpa using fun h => hn (by simp [h]), Nat.le_refl _⟩
theorem putO_at {r : Nat} {o : Obj} (h : r < w.heap.size) : (putB w r o).heap[r]? = some o := by simp [putB, h]
theorem mfind_none {x : κ} : ∀ {ents : List (κ × ν × Nat)} {i : Nat}, mfind x ents i = none ↔ ∀ e ∈ ents, x ≠ e.1
  | [], i => by simp [mfind]
  | e :: es, i => by
    unfold mfind; split
    · rename_i h; simp [h]
    · rename_i h; rw [mfind_none]; simp [h]
theorem mfind_some {x : κ} {v : ν} : ∀ {ents : List (κ × ν × Nat)} {i j : Nat}, mfind x ents i = some (j, v) → i ≤ j ∧ ∃ n, ents[j - i]? = some (x, v, n)
  | [], i, j, h => by simp [mfind] at h
  | e :: es, i, j, h => by
    unfold mfind at h; split at h
    · rename_i hx
      injection h with h; injection h with h1 h2
      subst h1; subst h2; subst hx
      exact ⟨Nat.le_refl _, e.2.2, by simp⟩
    · obtain ⟨h1, n, h2⟩ := mfind_some h
      refine ⟨by omega, n, ?_⟩
      rw [show j - i = j - (i + 1) + 1 from by omega, List.getElem?_cons_succ]; exact h2
theorem findAsk_run (M : MapK T kt et d key val z) (x : κ) : ∀ (ents : List (κ × ν × Nat)) (i : Nat), (Instr.findAsking kt (key x) (ents.map (men key val)) i).run Pg w = .ok ((mfind x ents i).map fun p => (p.1, val p.2)) w
  | [], i => rfl
  | e :: es, i => by
    simp only [List.map_cons, Instr.findAsking, Sem.run_bind]
    rw [show (men key val e).key = key e.1 from rfl, M.eq x e.1 w]
    simp only [Result.andThen_ok, mfind]
    by_cases h : x = e.1
    · simp [h, men]
    · simp only [h, decide_false, Bool.false_eq_true, if_false]
      exact findAsk_run M x es (i + 1)
theorem findKey_run (M : MapK T kt et d key val z) (x : κ) (ents : List (κ × ν × Nat)) : (Instr.findKey kt (key x) (ents.map (men key val))).run Pg w = .ok ((mfind x ents 0).map fun p => (p.1, val p.2)) w := by
  unfold Instr.findKey
  rw [Sem.run_bind, run_underlying' M.kd]
  simp only [Result.andThen]
  rcases M.now with h | h
  · have key' : ∀ (ents : List (κ × ν × Nat)) (i : Nat), Instr.findNow d (key x) (ents.map (men key val)) i = some ((mfind x ents i).map fun p => (p.1, val p.2)) := by
      intro ents
      induction ents with
      | nil => intro i; rfl
      | cons e es ih =>
        intro i
        simp only [List.map_cons, Instr.findNow]
        rw [show (men key val e).key = key e.1 from rfl, h x e.1]
        simp only [mfind]
        by_cases hx : x = e.1
        · simp [hx, men]
        · simp only [hx, decide_false, if_false]; exact ih _
    rw [key']; rfl
  · cases ents with
    | nil => rfl
    | cons e es =>
      simp only [List.map_cons, Instr.findNow]
      rw [show (men key val e).key = key e.1 from rfl, h x e.1]
      exact findAsk_run M x (e :: es) 0
def lkv (val : ν → Value) (z : ν) (o : Option ν) : Value := val (o.getD z)
theorem lookup_run (M : MapK T kt et d key val z) (x : κ) (ok : Bool) {ents : List (κ × ν × Nat)} (h : w.heap[b]? = some (mobj key val ents clock)) :
    (Instr.lookup T (.map (some b)) (key x) ok).run Pg w = .ok (if ok then .tuple #[lkv val z (mget x ents), .bool (mget x ents).isSome] else lkv val z (mget x ents)) w := by
  unfold Instr.lookup
  rw [Sem.run_bind, run_underlying' M.under]
  simp only [Result.andThen, Sem.run_bind, run_getO h, mobj]
  simp only [Sem.run_pure, Result.andThen, Sem.run_bind, M.chk, findKey_run M]
  unfold mget lkv
  cases mfind x ents 0 with
  | none =>
    change Sem.run Pg (zeroValue et >>= fun v => (pure (v, false) : Sem (Value × Bool)) >>= fun x => pure (if ok = true then Value.tuple #[x.1, .bool x.2] else x.1)) w = _
    rw [Sem.run_bind, run_zeroValue' M.zero]
    rfl
  | some p => rfl
theorem lookup_h (M : MapK T kt et d key val z) (x : κ) {ents : List (κ × ν × Nat)} (H : Hp w0 w L) (hm : Has L b (.o (mobj key val ents clock)) []) (k : K (lkv val z (mget x ents)) w) :
    valV Pg R (Instr.lookup T (.map (some b)) (key x) false) K w := by
  unfold valV; rw [lookup_run M x false (H.blk _ hm).2]; exact k
theorem lookup2_h (M : MapK T kt et d key val z) (x : κ) {ents : List (κ × ν × Nat)} (H : Hp w0 w L) (hm : Has L b (.o (mobj key val ents clock)) []) (k : K (.tuple ⟨[lkv val z (mget x ents), .bool (mget x ents).isSome]⟩) w) :
    valV Pg R (Instr.lookup T (.map (some b)) (key x) true) K w := by
  unfold valV; rw [lookup_run M x true (H.blk _ hm).2]; exact k
end
section
variable {κ ν : Type} {T kt et : TypeId} {d : TypeDesc} {key : κ → Value} {val : ν → Value} {z : ν} {w w' w0 : World} {L L' F : List Chunk} {b clock : Nat} {K : VK} {R : ER}
theorem make_m (H : Hp w0 w L) (k : ∀ w' b, Hp w0 w' (⟨b, .o (mobj key val [] 0), []⟩ :: L) → K (.map (some b)) w') : valV Pg R (Instr.makeMap T none) K w := by
  have : (Instr.makeMap T none).run Pg w = .ok (.map (some w.heap.size)) (w.alloc (.map #[] 0)) := by
    rfl
  unfold valV; rw [this]
  refine k _ _ (H.newOf (t := .o (mobj key val [] 0)) (l := []) ?_ (Ext.alloc [] w _))
  show (w.heap.push _)[w.heap.size]? = _
  simp [Chunk.obj, mobj]
end
section
variable {κ ν : Type} [DecidableEq κ] {T kt et : TypeId} {d : TypeDesc} {key : κ → Value} {val : ν → Value} {z : ν} {w w' w0 : World} {L L' F : List Chunk} {b clock : Nat} {K : VK} {R : ER}
theorem put_h (M : MapK T kt et d key val z) (x : κ) (v : ν) {ents : List (κ × ν × Nat)} (H : Hp w0 w L) (hu : Upd L b (.o (mobj key val ents clock)) [] (.o (mobj key val (mput x v ents clock) (mclk x ents clock))) [] L') (k : ∀ w', Hp w0 w' L' → K undef w') :
    unitV Pg R (Instr.mapUpdate T (.map (some b)) (key x) (val v)) K w := by
  have hb := (H.blk _ hu.has).2
  have hb' : w.heap[b]? = some (mobj key val ents clock) := hb
  have hrun : (Instr.mapUpdate T (.map (some b)) (key x) (val v)).run Pg w = .ok () (putB w b (mobj key val (mput x v ents clock) (mclk x ents clock))) := by
    unfold Instr.mapUpdate
    rw [Sem.run_bind, run_underlying' M.under]
    simp only [Result.andThen, Sem.run_bind, run_getO hb', mobj, M.chk, findKey_run M]
    cases hf : mfind x ents 0 with
    | none =>
      simp only [Option.map_none]
      rw [run_setM _ hb']
      simp [mput, mclk, hf, men]
    | some p =>
      obtain ⟨i, v0⟩ := p
      obtain ⟨_, n, hi⟩ := mfind_some hf
      simp only [Nat.sub_zero] at hi
      have hk : (((⟨ents.map (men key val)⟩ : Array MapEntry)[i]?).map (·.key)).getD (key x) = key x := by simp [hi, men]
      simp only [Option.map_some, hk, Instr.keyThatStays, M.bits, if_true, Sem.run_pure, Result.andThen_ok, Sem.run_bind]
      rw [run_setM _ hb']
      have e : (⟨ents.map (men key val)⟩ : Array MapEntry).modify i (fun e => { e with key := key x, val := val v }) = ⟨(mput x v ents clock).map (men key val)⟩ := by
        apply Array.ext'
        simp only [Array.toList_modify, mput, hf]
        apply List.ext_getElem?
        intro j
        rw [List.getElem?_modify, List.getElem?_map, List.getElem?_map, List.getElem?_modify]
        by_cases hj : i = j
        · subst hj; simp [hi, men]
        · simp [hj]
      rw [e]
      simp [mclk, hf]
  unfold unitV; rw [hrun]
  exact k _ (H.updU hu (putO_at (heap_lt hb')) (Ext.putO _ _))
/-! ### what these lists are -/
def mkeys (ents : List (κ × ν × Nat)) : List κ := ents.map (·.1)
structure MW (ents : List (κ × ν × Nat)) (clock : Nat) : Prop where
  nd : (mkeys ents).Nodup
  bn : (ents.map (·.2.2)).Pairwise (· < ·)
  lt : ∀ e ∈ ents, e.2.2 < clock
end
section
variable {κ ν : Type} {T kt et : TypeId} {d : TypeDesc} {key : κ → Value} {val : ν → Value} {z : ν} {w w' w0 : World} {L L' F : List Chunk} {b clock : Nat} {K : VK} {R : ER}
theorem MW.nil : MW ([] : List (κ × ν × Nat)) clock := ⟨by simp [mkeys], by simp, by simp⟩
end
section
variable {κ ν : Type} [DecidableEq κ] {T kt et : TypeId} {d : TypeDesc} {key : κ → Value} {val : ν → Value} {z : ν} {w w' w0 : World} {L L' F : List Chunk} {b clock : Nat} {K : VK} {R : ER}
theorem mget_none {x : κ} {ents : List (κ × ν × Nat)} : mget x ents = none ↔ x ∉ mkeys ents := by
  unfold mget; rw [Option.map_eq_none_iff, mfind_none]
  simp only [mkeys, List.mem_map, not_exists, not_and]
  exact ⟨fun h e he hx => h e he hx.symm, fun h e he hx => h e he hx.symm⟩
theorem mget_some {x : κ} {v : ν} {ents : List (κ × ν × Nat)} (h : mget x ents = some v) : ∃ n, (x, v, n) ∈ ents := by
  unfold mget at h
  obtain ⟨⟨i, v'⟩, hf, e⟩ := Option.map_eq_some_iff.1 h
  simp only at e; subst e
  obtain ⟨_, n, hi⟩ := mfind_some hf
  exact ⟨n, List.mem_of_getElem? hi⟩
theorem mget_isSome {x : κ} {ents : List (κ × ν × Nat)} : (mget x ents).isSome = decide (x ∈ mkeys ents) := by
  rw [Bool.eq_iff_iff, decide_eq_true_eq]
  constructor
  · intro h
    obtain ⟨v, hv⟩ := Option.isSome_iff_exists.1 h
    obtain ⟨n, hm⟩ := mget_some hv
    exact List.mem_map.2 ⟨_, hm, rfl⟩
  · intro h
    cases hg : mget x ents with
    | none => exact absurd h (mget_none.1 hg)
    | some v => rfl
/-- A new key. -/
theorem mput_new {x : κ} {v : ν} {ents : List (κ × ν × Nat)} (h : x ∉ mkeys ents) : mput x v ents clock = ents ++ [(x, v, clock)] ∧ mclk x ents clock = clock + 1 := by
  have : mfind x ents 0 = none := mfind_none.2 fun e he hx => h (List.mem_map.2 ⟨e, he, hx.symm⟩)
  simp [mput, mclk, this]
end
section
variable {κ ν : Type} {T kt et : TypeId} {d : TypeDesc} {key : κ → Value} {val : ν → Value} {z : ν} {w w' w0 : World} {L L' F : List Chunk} {b clock : Nat} {K : VK} {R : ER}
theorem MW.put_new {x : κ} {v : ν} {ents : List (κ × ν × Nat)} (h : x ∉ mkeys ents) (hw : MW ents clock) : MW (ents ++ [(x, v, clock)]) (clock + 1) := by
  refine ⟨?_, ?_, fun e he => ?_⟩
  · simp only [mkeys, List.map_append, List.map_cons, List.map_nil]
    rw [List.nodup_append]
    refine ⟨hw.nd, by simp, fun a ha b hb => ?_⟩
    simp at hb; subst hb; rintro rfl; exact h ha
  · rw [List.map_append, List.pairwise_append]
    refine ⟨hw.bn, by simp, fun a ha b hb => ?_⟩
    simp at hb; subst hb
    obtain ⟨e, he, rfl⟩ := List.mem_map.1 ha
    exact hw.lt e he
  · rcases List.mem_append.1 he with he | he
    · have := hw.lt e he; omega
    · simp at he; subst he; simp
end
section
variable {κ ν : Type} [DecidableEq κ] {T kt et : TypeId} {d : TypeDesc} {key : κ → Value} {val : ν → Value} {z : ν} {w w' w0 : World} {L L' F : List Chunk} {b clock : Nat} {K : VK} {R : ER}
/-- The key is there: its place keeps its birth. -/
theorem mput_old {x : κ} {v : ν} {ents : List (κ × ν × Nat)} (h : x ∈ mkeys ents) (hw : MW ents clock) : mkeys (mput x v ents clock) = mkeys ents ∧ mclk x ents clock = clock ∧ MW (mput x v ents clock) clock := by
  cases hf : mfind x ents 0 with
  | none =>
    obtain ⟨e, he, hx⟩ := List.mem_map.1 h
    exact absurd hx.symm (mfind_none.1 hf e he)
  | some p =>
    obtain ⟨i, v0⟩ := p
    obtain ⟨_, n, hi⟩ := mfind_some hf
    simp only [Nat.sub_zero] at hi
    have e1 : mput x v ents clock = ents.modify i fun e => (x, v, e.2.2) := by simp [mput, hf]
    have k1 : mkeys (mput x v ents clock) = mkeys ents := by
      rw [e1]; unfold mkeys
      apply List.ext_getElem?; intro j
      rw [List.getElem?_map, List.getElem?_modify, List.getElem?_map]
      by_cases hj : i = j
      · subst hj; simp [hi]
      · simp [hj]
    have k2 : (mput x v ents clock).map (·.2.2) = ents.map (·.2.2) := by
      rw [e1]
      apply List.ext_getElem?; intro j
      rw [List.getElem?_map, List.getElem?_modify, List.getElem?_map]
      by_cases hj : i = j
      · subst hj; simp [hi]
      · simp [hj]
    refine ⟨k1, by simp [mclk, hf], by rw [k1]; exact hw.nd, by rw [k2]; exact hw.bn, fun e he => ?_⟩
    have : e.2.2 ∈ (mput x v ents clock).map (·.2.2) := List.mem_map_of_mem he
    rw [k2] at this
    obtain ⟨e', he', h'⟩ := List.mem_map.1 this
    rw [← h']; exact hw.lt e' he'
/-! ### deleting, clearing -/
theorem eraseIdx_map' {α β : Type} (f : α → β) : ∀ (l : List α) (i : Nat), (l.map f).eraseIdx i = (l.eraseIdx i).map f
  | [], i => by simp
  | a :: l, 0 => rfl
  | a :: l, i + 1 => by simp [eraseIdx_map' f l i]
theorem delete_h (M : MapK T kt et d key val z) (x : κ) {ents : List (κ × ν × Nat)} {ty : Nat} {cc : Array Bool} (H : Hp w0 w L) (hu : Upd L b (.o (mobj key val ents clock)) [] (.o (mobj key val (mdel x ents) clock)) [] L') (k : ∀ w', Hp w0 w' L' → K (.tuple ⟨[]⟩) w') :
    blt Pg R .delete ⟨[T, kt]⟩ ty cc ⟨[.map (some b), key x]⟩ K w := by
  have hb' : w.heap[b]? = some (mobj key val ents clock) := (H.blk _ hu.has).2
  have hrun : (Builtin.delete_ ⟨[T, kt]⟩ ty ⟨[.map (some b), key x]⟩).run Pg w = .ok (.tuple ⟨[]⟩) (putB w b (mobj key val (mdel x ents) clock)) := by
    unfold Builtin.delete_
    have e0 : (⟨[T, kt]⟩ : Array TypeId)[0]? = some T := rfl
    have e1 : (⟨[.map (some b), key x]⟩ : Array Value)[0]? = some (.map (some b)) := rfl
    have e2 : (⟨[.map (some b), key x]⟩ : Array Value)[1]? = some (key x) := rfl
    simp only [e0, e1, e2, Sem.run_bind, run_underlying' M.under, Result.andThen, run_getO hb', mobj, M.chk, findKey_run M]
    cases hf : mfind x ents 0 with
    | none =>
      simp only [Option.map_none]
      rw [Sem.run_bind, run_setM _ hb']
      simp [mdel, hf]
    | some p =>
      obtain ⟨i, v0⟩ := p
      simp only [Option.map_some]
      rw [Sem.run_bind, run_setM _ hb']
      have : (⟨ents.map (men key val)⟩ : Array MapEntry).eraseIdxIfInBounds i = ⟨(mdel x ents).map (men key val)⟩ := by
        apply Array.ext'
        simp [mdel, hf, eraseIdx_map']
      rw [this]
      rfl
  unfold blt semV
  have : (builtin .delete ⟨[T, kt]⟩ ty cc ⟨[.map (some b), key x]⟩).run Pg w = .ok (.value (.tuple ⟨[]⟩)) (putB w b (mobj key val (mdel x ents) clock)) := run_value hrun
  rw [this]
  exact k _ (H.updU hu (putO_at (heap_lt hb')) (Ext.putO _ _))
theorem mfind_idx {x : κ} : ∀ {ents : List (κ × ν × Nat)} {i j : Nat} {v : ν}, mfind x ents i = some (j, v) → ∀ m, m < j - i → ∀ e, ents[m]? = some e → x ≠ e.1
  | [], i, j, v, h => by simp [mfind] at h
  | a :: es, i, j, v, h => by
    unfold mfind at h; split at h
    · rename_i hx
      injection h with h; injection h with h1 h2
      subst h1
      intro m hm; omega
    · rename_i hx
      intro m hm e he
      cases m with
      | zero => simp at he; subst he; exact hx
      | succ m => exact mfind_idx h m (by omega) e (by simpa using he)
theorem mdel_eq {x : κ} {ents : List (κ × ν × Nat)} (hn : (mkeys ents).Nodup) : mdel x ents = ents.filter fun e => decide (e.1 ≠ x) := by
  unfold mdel
  cases hf : mfind x ents 0 with
  | none =>
    symm; rw [List.filter_eq_self]
    intro e he; simp; exact fun h => mfind_none.1 hf e he h.symm
  | some p =>
    obtain ⟨i, v0⟩ := p
    obtain ⟨h00, n, hi⟩ := mfind_some hf
    simp only [Nat.sub_zero] at hi
    simp only
    clear hf h00
    induction ents generalizing i with
    | nil => simp at hi
    | cons a es ih =>
      simp only [mkeys, List.map_cons, List.nodup_cons] at hn
      cases i with
      | zero =>
        simp only [List.getElem?_cons_zero, Option.some.injEq] at hi
        subst hi
        simp only [List.eraseIdx_cons_zero]
        rw [List.filter_cons, if_neg (by simp), List.filter_eq_self.2]
        intro e he; simp; rintro rfl
        exact hn.1 (List.mem_map.2 ⟨e, he, rfl⟩)
      | succ i =>
        simp only [List.getElem?_cons_succ] at hi
        simp only [List.eraseIdx_cons_succ]
        have hne : a.1 ≠ x := by
          rintro rfl
          exact hn.1 (List.mem_map.2 ⟨_, List.mem_of_getElem? hi, rfl⟩)
        rw [List.filter_cons, if_pos (by simpa using hne), ih hn.2 i hi]
end
section
variable {κ ν : Type} {T kt et : TypeId} {d : TypeDesc} {key : κ → Value} {val : ν → Value} {z : ν} {w w' w0 : World} {L L' F : List Chunk} {b clock : Nat} {K : VK} {R : ER}
theorem MW.sub {ents ents' : List (κ × ν × Nat)} (hw : MW ents clock) (h : List.Sublist ents' ents) : MW ents' clock :=
  ⟨(h.map _).nodup hw.nd, hw.bn.sublist (h.map _), fun e he => hw.lt e (h.subset he)⟩
end
section
variable {κ ν : Type} [DecidableEq κ] {T kt et : TypeId} {d : TypeDesc} {key : κ → Value} {val : ν → Value} {z : ν} {w w' w0 : World} {L L' F : List Chunk} {b clock : Nat} {K : VK} {R : ER}
theorem MW.del {x : κ} {ents : List (κ × ν × Nat)} (hw : MW ents clock) : MW (mdel x ents) clock := by
  rw [mdel_eq hw.nd]; exact hw.sub List.filter_sublist
theorem clear_m {ents : List (κ × ν × Nat)} (M : MapK T kt et d key val z) {ty : Nat} {cc : Array Bool} (H : Hp w0 w L) (hu : Upd L b (.o (mobj key val ents clock)) [] (.o (mobj key val [] clock)) [] L') (k : ∀ w', Hp w0 w' L' → K (.tuple ⟨[]⟩) w') :
    blt Pg R .clear ⟨[T]⟩ ty cc ⟨[.map (some b)]⟩ K w := by
  have hb' : w.heap[b]? = some (mobj key val ents clock) := (H.blk _ hu.has).2
  have hrun : (Builtin.clear_ ⟨[T]⟩ ty ⟨[.map (some b)]⟩).run Pg w = .ok (.tuple ⟨[]⟩) (putB w b (mobj key val ([] : List (κ × ν × Nat)) clock)) := by
    unfold Builtin.clear_
    have e0 : (⟨[T]⟩ : Array TypeId)[0]? = some T := rfl
    have e1 : (⟨[.map (some b)]⟩ : Array Value)[0]? = some (.map (some b)) := rfl
    simp only [e0, e1, Sem.run_bind, run_underlying' M.under, Result.andThen, run_getO hb', mobj]
    rw [run_setM _ hb']
    rfl
  unfold blt semV
  have : (builtin .clear ⟨[T]⟩ ty cc ⟨[.map (some b)]⟩).run Pg w = .ok (.value (.tuple ⟨[]⟩)) (putB w b (mobj key val ([] : List (κ × ν × Nat)) clock)) := run_value hrun
  rw [this]
  exact k _ (H.updU hu (putO_at (heap_lt hb')) (Ext.putO _ _))
theorem mlen_h {ents : List (κ × ν × Nat)} (M : MapK T kt et d key val z) {ty : Nat} {cc : Array Bool} (H : Hp w0 w L) (hm : Has L b (.o (mobj key val ents clock)) []) (k : K (I (ents.length : Int)) w) :
    blt Pg R .len ⟨[T]⟩ ty cc ⟨[.map (some b)]⟩ K w := by
  have hb' : w.heap[b]? = some (mobj key val ents clock) := (H.blk _ hm).2
  have hrun : (Builtin.len_ ⟨[T]⟩ ty ⟨[.map (some b)]⟩).run Pg w = .ok (I (ents.length : Int)) w := by
    unfold Builtin.len_
    have e0 : (⟨[T]⟩ : Array TypeId)[0]? = some T := rfl
    have e1 : (⟨[.map (some b)]⟩ : Array Value)[0]? = some (.map (some b)) := rfl
    simp only [e0, e1, Sem.run_bind, run_underlying' M.under, Result.andThen, run_getO hb', mobj]
    simp [goInt]
  unfold blt semV
  have : (builtin .len ⟨[T]⟩ ty cc ⟨[.map (some b)]⟩).run Pg w = .ok (.value (I (ents.length : Int))) w := run_value hrun
  rw [this]; exact k
/-! ### ranging -/
def iobj (b since : Nat) (seen : List Nat) (st : Nat) : Obj := .mapIter (some b) since ⟨seen⟩ st
theorem range_h {ents : List (κ × ν × Nat)} (M : MapK T kt et d key val z) (H : Hp w0 w L) (hm : Has L b (.o (mobj key val ents clock)) []) (k : ∀ w' r, Hp w0 w' (⟨r, .o (iobj b clock [] clock), []⟩ :: L) → K (ptr r 0) w') :
    valV Pg R (Instr.range T (.map (some b))) K w := by
  have hb' : w.heap[b]? = some (mobj key val ents clock) := (H.blk _ hm).2
  have hrun : (Instr.range T (.map (some b))).run Pg w = .ok (ptr w.heap.size 0) (w.alloc (iobj b clock [] clock)) := by
    unfold Instr.range
    simp only [Sem.run_bind, run_underlying' M.under, Result.andThen, run_getO hb', mobj]
    rfl
  unfold valV; rw [hrun]
  refine k _ _ (H.newOf (t := .o (iobj b clock [] clock)) (l := []) ?_ (Ext.alloc [] w _))
  show (w.heap.push _)[w.heap.size]? = _
  simp [Chunk.obj]
end
section
variable {κ ν : Type} {T kt et : TypeId} {d : TypeDesc} {key : κ → Value} {val : ν → Value} {z : ν} {w w' w0 : World} {L L' F : List Chunk} {b clock : Nat} {K : VK} {R : ER}
theorem next_h {ents : List (κ × ν × Nat)} {r since c0 : Nat} {seen : List Nat} {ty : Nat} (H : Hp w0 w (⟨r, .o (iobj b since seen c0), []⟩ :: L)) (hm : Has L b (.o (mobj key val ents clock)) []) (hold : ∀ e ∈ ents, e.2.2 < since) (hsc : since ≤ c0)
    (k1 : (∀ e ∈ ents, e.2.2 ∈ seen) → K (.tuple ⟨[.bool false]⟩) w)
    (k2 : ∀ w' e, e ∈ ents → e.2.2 ∉ seen → Hp w0 w' (⟨r, .o (iobj b since (seen ++ [e.2.2]) clock), []⟩ :: L) → K (.tuple ⟨[.bool true, key e.1, val e.2.1]⟩) w') :
    valV Pg R (Instr.next (ptr r 0) false ty) K w := by
  have hb' : w.heap[b]? = some (mobj key val ents clock) := (H.blk _ (Has.cons hm)).2
  have hr : w.heap[r]? = some (iobj b since seen c0) := (H.blk ⟨r, .o (iobj b since seen c0), []⟩ (by simp)).2
  have hmem : ∀ x, x ∈ (leftOf ⟨ents.map (men key val)⟩ ⟨seen⟩).toList ↔ ∃ e ∈ ents, e.2.2 ∉ seen ∧ x = men key val e := by
    intro x
    simp only [leftOf, Array.toList_filter, List.mem_filter, List.mem_map, Bool.not_eq_true', List.contains_toArray, List.contains_eq_mem, decide_eq_false_iff_not]
    constructor
    · rintro ⟨⟨e, he, rfl⟩, hn⟩; exact ⟨e, he, hn, rfl⟩
    · rintro ⟨e, he, hn, rfl⟩; exact ⟨⟨e, he, rfl⟩, hn⟩
  unfold valV
  rcases run_next_at (P := Pg) w ty r b since c0 ⟨seen⟩ ⟨ents.map (men key val)⟩ clock hr hb' (by intro x hx; simp at hx; obtain ⟨a, v, n, he, rfl⟩ := hx; exact hold _ he) hsc with ⟨h1, h2⟩ | ⟨x, hx, w1, hw1, h2⟩
  · rw [h2]
    refine k1 fun e he => Decidable.byContradiction fun hn => ?_
    have := (hmem (men key val e)).2 ⟨e, he, hn, rfl⟩
    have h0 : (leftOf ⟨ents.map (men key val)⟩ ⟨seen⟩).toList = [] := List.length_eq_zero_iff.1 (by simpa using h1)
    rw [h0] at this; cases this
  · rw [h2]
    obtain ⟨e, he, hn, rfl⟩ := (hmem x).1 hx
    have H1 : Hp w0 w1 (⟨r, .o (iobj b since seen c0), []⟩ :: L) := by
      rcases hw1 with rfl | rfl
      · exact H
      · exact H.drew
    have hr1 : w1.heap[r]? = some (iobj b since seen c0) := (H1.blk ⟨r, .o (iobj b since seen c0), []⟩ (by simp)).2
    have e2 : ChangeMaps.setBlock w1 r (.mapIter (some b) since ((⟨seen⟩ : Array Nat).push e.2.2) clock) = putB w1 r (iobj b since (seen ++ [e.2.2]) clock) := by
      simp [ChangeMaps.setBlock, putB, iobj]
    have e3 : (men key val e).born = e.2.2 := rfl
    rw [e3, e2]
    refine k2 _ e he hn (H1.updU Upd.here (putO_at (heap_lt hr1)) (Ext.putO _ _))
end
section
variable {κ ν : Type} [DecidableEq κ] {T kt et : TypeId} {d : TypeDesc} {key : κ → Value} {val : ν → Value} {z : ν} {w w' w0 : World} {L L' F : List Chunk} {b clock : Nat} {K : VK} {R : ER}
end
section
variable {κ ν : Type} {T kt et : TypeId} {d : TypeDesc} {key : κ → Value} {val : ν → Value} {z : ν} {w w' w0 : World} {L L' F : List Chunk} {b clock : Nat} {K : VK} {R : ER}
theorem entry_h {ents : List (κ × ν × Nat)} {r since : Nat} {seen : List Nat} {e : κ × ν × Nat} (H : Hp w0 w (⟨r, .o (iobj b since (seen ++ [e.2.2]) clock), []⟩ :: L)) (hm : Has L b (.o (mobj key val ents clock)) []) (he : e ∈ ents) (hw : MW ents clock)
    (k : K (.tuple ⟨[key e.1, val e.2.1]⟩) w) : valV Pg R (Instr.entry (ptr r 0)) K w := by
  have hb' : w.heap[b]? = some (mobj key val ents clock) := (H.blk _ (Has.cons hm)).2
  have hr : w.heap[r]? = some (iobj b since (seen ++ [e.2.2]) clock) := (H.blk ⟨r, .o (iobj b since (seen ++ [e.2.2]) clock), []⟩ (by simp)).2
  unfold valV
  rw [run_entry_at (P := Pg) w r b since ⟨seen⟩ ⟨ents.map (men key val)⟩ clock (men key val e) (by rw [hr]; simp [iobj, men]) hb' (by simp; exact ⟨e.1, e.2.1, e.2.2, he, rfl⟩) (by
    have : (ents.map (men key val)).map (·.born) = ents.map (·.2.2) := by rw [List.map_map]; rfl
    simp only [this]
    exact hw.bn.imp fun h => Nat.ne_of_lt h)]
  exact k
end
section
variable {κ ν : Type} [DecidableEq κ] {T kt et : TypeId} {d : TypeDesc} {key : κ → Value} {val : ν → Value} {z : ν} {w w' w0 : World} {L L' F : List Chunk} {b clock : Nat} {K : VK} {R : ER}
end
end Go.Proofs.Ytmmbepdghpjgeaa.Den
end

section
set_option linter.unusedVariables false
set_option linter.unusedSimpArgs false
namespace Go.Proofs.Ytmmbepdghpjgeaa.Den
open Go
section
variable {P : Program} {w : World}
theorem s_checkKey (em : Bool) : ∀ (d t : Nat) (ks : List Nat), leaves P d t = some ks → ∀ n, d ≤ n →
    (isAggO P t = some false → ∀ v w, (Instr.checkKey em n t v).run P w = .ok () w) ∧
    (isAggO P t = some true → ∀ (xs : Array Value) w, xs.size = ks.length → (Instr.checkKey em n t (.agg xs)).run P w = .ok () w)
  | 0, t, ks, h, n, hn => by simp [leaves] at h
  | d + 1, t, ks, h, n, hn => by
    obtain ⟨n, rfl⟩ : ∃ m, n = m + 1 := ⟨n - 1, by omega⟩
    unfold leaves at h
    split at h
    · rename_i k hu
      have ha := isAggO_leaf hu (by simp) (by simp)
      refine ⟨fun _ v w => ?_, fun h => by rw [ha] at h; cases h⟩
      simp [Instr.checkKey, Sem.run_bind, run_underlying' hu, Result.andThen]
    · rename_i hu
      have ha := isAggO_leaf hu (by simp) (by simp)
      refine ⟨fun _ v w => ?_, fun h => by rw [ha] at h; cases h⟩
      simp [Instr.checkKey, Sem.run_bind, run_underlying' hu, Result.andThen]
    · rename_i hu
      have ha := isAggO_leaf hu (by simp) (by simp)
      refine ⟨fun _ v w => ?_, fun h => by rw [ha] at h; cases h⟩
      simp [Instr.checkKey, Sem.run_bind, run_underlying' hu, Result.andThen]
    · rename_i fs hu
      have hag : isAggO P t = some true := by unfold isAggO; rw [hu]
      refine ⟨fun h => (by rw [hag] at h; cases h), fun _ xs w hsz => ?_⟩
      cases hst : P.stoodInHeld t with
      | true => simp [hst] at h
      | false =>
        simp only [hst, cond_false] at h
        rw [Instr.checkKey, Sem.run_bind, run_underlying' hu]
        simp only [Result.andThen]
        rw [← Array.forIn_toList]
        have key : ∀ (fs : List Field) (off : Nat) (ks : List Nat), leavesF P (leaves P d) off fs = some ks → off + ks.length = xs.size → (forIn fs PUnit.unit fun f (r : PUnit) =>
            if f.name ≠ "_" then (do
              let a ← part f.type xs f.offset
              Instr.checkKey em n f.type a
              pure (ForInStep.yield PUnit.unit))
            else pure (ForInStep.yield PUnit.unit) : Sem PUnit).run P w = .ok () w := by
          intro fs
          induction fs with
          | nil => intro off ks h hb; rfl
          | cons f fs ih =>
            intro off ks h hb
            simp only [leavesF] at h
            cases hc : (f.name == "_" || !(Nat.beq f.offset off)) with
            | true => simp [hc] at h
            | false =>
              simp only [hc, cond_false] at h
              simp only [Bool.or_eq_false_iff, beq_eq_false_iff_ne, Bool.not_eq_false'] at hc
              obtain ⟨hc1, hc2⟩ := hc
              have hoff : f.offset = off := Nat.eq_of_beq_eq_true hc2
              split at h
              · rename_i l s h1 h2
                cases hls : Nat.beq l.length s with
                | false => simp [hls] at h
                | true =>
                  simp only [hls, cond_true] at h
                  have hls' : l.length = s := Nat.eq_of_beq_eq_true hls
                  split at h
                  · rename_i r h3
                    injection h with h; subst h
                    simp only [List.length_append] at hb
                    have ihr := ih (off + s) r h3 (by omega)
                    have he := s_checkKey em d f.type l h1 n (by omega)
                    have step : ∃ a, (part f.type xs f.offset).run P w = .ok a w ∧ (Instr.checkKey em n f.type a).run P w = .ok () w := by
                      cases hag : isAggO P f.type with
                      | none =>
                        exfalso
                        unfold leaves at h1
                        cases d with
                        | zero => simp at h1
                        | succ d =>
                          unfold isAggO at hag
                          split at hag
                          · cases hag
                          · cases hag
                          · cases hag
                          · rename_i hn; simp only [hn] at h1; cases h1
                      | some ag =>
                        cases ag with
                        | true =>
                          refine ⟨_, s_partN hag h2, he.2 hag _ w ?_⟩
                          simp; omega
                        | false =>
                          obtain ⟨k, rfl, _⟩ := (s_equalIn (P := P) d f.type l h1 d (Nat.le_refl _)).1 hag
                          simp only [List.length_cons, List.length_nil] at hb
                          simp only [List.length_singleton] at hls'
                          exact ⟨_, s_part1 hag (by rw [hoff]; exact Array.getElem?_eq_getElem (by omega)), he.1 hag _ w⟩
                    obtain ⟨a, s1, s2⟩ := step
                    rw [List.forIn_cons, Sem.run_bind]
                    simp only [ne_eq, hc1, not_false_eq_true, if_true, Sem.run_bind, s1, s2, Result.andThen_ok, Sem.run_pure]
                    exact ihr
                  · cases h
              · cases h
        have := key fs.toList 0 ks h (by omega)
        rw [Sem.run_bind]
        exact (congrArg (fun r => Result.andThen r fun _ w' => Sem.run P (pure ()) w') this)
    · cases h
end
/-- A map whose keys are structs of plain cells. -/
theorem MapK.agg {κ ν : Type} [DecidableEq κ] {T kt et : TypeId} {fs : Array Field} {cells : κ → List Value} {val : ν → Value} {z : ν} {ks : List Nat} (h1 : Pg.underlying T = some (.map kt et)) (h2 : Pg.underlying kt = some (.struct fs)) (h3 : (Pg.info? et).bind (·.zero) = some (val z))
    (h4 : leaves Pg 20 kt = some ks) (h5 : ∀ x, (cells x).length = ks.length) (h6 : ∀ x y, eqCells ks (cells x) (cells y) = some (decide (x = y))) (h7 : ∀ x, Instr.sameBits 10000 (.agg ⟨cells x⟩) (.agg ⟨cells x⟩) = true) :
    MapK T kt et (.struct fs) (fun x => .agg ⟨cells x⟩) val z :=
  ⟨h1, h2, h3, fun x y w => s_equalAgg h2 h4 (h6 x y) w, fun b x w => (s_checkKey b 20 kt ks h4 10000 (by omega)).2 (by unfold isAggO; rw [h2]) _ w (h5 x), .inr fun x y => rfl, h7⟩
end Go.Proofs.Ytmmbepdghpjgeaa.Den
end

section
set_option linter.unusedVariables false
set_option linter.unusedSimpArgs false
set_option maxRecDepth 8000
set_option maxHeartbeats 1000000
namespace Go.Proofs.Ytmmbepdghpjgeaa.Den
open Go Go.RowKit
/-- A connection: protocol, source, dest, from, to; what is stored of it: expiry, number. -/
abbrev Con := Int × Int × Int × Int × Int
abbrev Ey := Int × Int
def Con.enc (x : Con) : List Value := [I x.1, U32 x.2.1, U32 x.2.2.1, I x.2.2.2.1, I x.2.2.2.2]
def kC (x : Con) : Value := .agg ⟨Con.enc x⟩
def vE (x : Ey) : Value := .agg ⟨[I x.1, I x.2]⟩
theorem mapC : MapK (κ := Con) (ν := Ey) 115 119 121 (.struct (Pg.fieldsOf 119)) kC vE (0, 0) :=
  MapK.agg (cells := Con.enc) (ks := [0, 0, 0, 0, 0]) (by kernel_rfl) (by kernel_rfl) (by kernel_rfl) (by kernel_rfl) (fun _ => rfl) (fun x y => by
    simp only [Con.enc, eqCells, eqLeaf, if_true]
    have : (x.1 == y.1 && (x.2.1 == y.2.1 && (x.2.2.1 == y.2.2.1 && (x.2.2.2.1 == y.2.2.2.1 && (x.2.2.2.2 == y.2.2.2.2 && true))))) = decide (x = y) := by rw [Bool.eq_iff_iff]; simp [Prod.ext_iff]
    rw [this]) (fun x => by simp [Instr.sameBits, Con.enc])
theorem elI64 : ElT 91 2 cI.sz 8 [I 0] := ⟨by kernel_rfl, by kernel_rfl, rfl⟩
def newErr (l : List Rul) (limit life : Int) : Int :=
  if checkAll l ≠ 0 then checkAll l else if !inn limit 1 100 || decide (life < 1) || decide (1099511627776 < life) then 34 else 0
section
variable {w w' w0 : World} {L L' F cs A X Y : List Chunk} {s : Value} {K : VK} {R : ER} {b i j : Nat}
theorem nil_of {α : Type} {C : Cod α} {xs : List α} {n c : Nat} (hz : 0 < C.sz) (h : TR C w0 cs (.slice none n c) xs) : xs = [] := by
  rcases h with (⟨c', he, h0, _⟩ | ⟨a, c', he, _⟩) | ⟨b, o, c', e, l, he, _⟩
  · rcases Nat.mul_eq_zero.1 h0 with h | h
    · exact List.length_eq_zero_iff.1 h
    · omega
  · cases he
  · cases he
theorem cloneRul_spec {xs : List _} (h : TR cRul w0 cs s xs) (H : Hp w0 w L) (m1 : ∀ c ∈ cs, c ∈ L) (hl : xs.length ≤ 2 ^ 40) :
    Calls Pg 18 ⟨[s]⟩ w fun e w' => ∃ s' cs', e = .returned s' ∧ Hp w0 w' (cs' ++ L) ∧ TS cRul 29 s' xs cs' := by
  apply F18_calls
  unfold F18
  obtain ⟨⟨a, k, cc⟩, rfl⟩ := h.sh
  cases a with
  | none =>
    have := nil_of (by decide) h
    subst this
    simp only [Sh.val]
    (try simp only [W0])
    exact ⟨_, [], rfl, by simpa using H, TS.nil⟩
  | some a =>
    simp only [Sh.val] at h ⊢
    (try simp only [W0])
    refine lit0_t (C := cRul) elRul H fun w s0 H h0 => ?_
    refine append_t (C := cRul) (F := L) elRul H h0 Split.nil h m1 (by simp; omega) (by simp; omega) fun w s' cs' H h' => ?_
    exact ⟨s', cs', rfl, H, by simpa using h'⟩
theorem clone64_spec {xs : List _} (h : TR cI w0 cs s xs) (H : Hp w0 w L) (m1 : ∀ c ∈ cs, c ∈ L) (hl : xs.length ≤ 2 ^ 40) :
    Calls Pg 62 ⟨[s]⟩ w fun e w' => ∃ s' cs', e = .returned s' ∧ Hp w0 w' (cs' ++ L) ∧ TS cI 2 s' xs cs' := by
  apply F62_calls
  unfold F62
  obtain ⟨⟨a, k, cc⟩, rfl⟩ := h.sh
  cases a with
  | none =>
    have := nil_of (by decide) h
    subst this
    simp only [Sh.val]
    (try simp only [W0])
    exact ⟨_, [], rfl, by simpa using H, TS.nil⟩
  | some a =>
    simp only [Sh.val] at h ⊢
    (try simp only [W0])
    refine lit0_t (C := cI) elI64 H fun w s0 H h0 => ?_
    refine append_t (C := cI) (F := L) elI64 H h0 Split.nil h m1 (by simp; omega) (by simp; omega) fun w s' cs' H h' => ?_
    exact ⟨s', cs', rfl, H, by simpa using h'⟩
theorem new_err {l : List Rul} {limit life : Int} (hl : TR cRul w0 cs s l) (hok : ∀ r ∈ l, r.Ok) (hn : l.length < 2 ^ 63) (H : Hp w0 w L) (m1 : ∀ c ∈ cs, c ∈ L) (he : newErr l limit life ≠ 0) :
    Calls Pg 19 ⟨[s, I limit, I life]⟩ w fun e w' => e = .returned (.tuple ⟨[.pointer none, I (newErr l limit life)]⟩) ∧ Hp w0 w' L := by
  apply F19_calls
  unfold F19
  refine cal_h (checkAll_spec hl hok hn H m1) ?_
  rintro _ w ⟨rfl, H⟩
  (try simp only [W0])
  refine neq_k (fun h => ?_) (fun h => ?_)
  · (try simp only [W0])
    exact ⟨by rw [newErr, if_pos h], H⟩
  · (try simp only [W0])
    unfold F19_j1 F19_j3
    refine cal_h (within_spec H) ?_
    rintro _ w ⟨rfl, H⟩
    have e0 : newErr l limit life = if !inn limit 1 100 || decide (life < 1) || decide (1099511627776 < life) then 34 else 0 := by rw [newErr, if_neg (by simpa using h)]
    rw [e0] at he ⊢
    cases h1 : inn limit 1 100 with
    | false =>
      (try simp only [W0])
      exact ⟨by simp, H⟩
    | true =>
      (try simp only [W0])
      refine lss_k (fun h2 => ?_) (fun h2 => ?_)
      · (try simp only [W0])
        exact ⟨by rw [if_pos (by simp [h2])], H⟩
      · (try simp only [W0])
        refine gtr_k (fun h3 => ?_) (fun h3 => ?_)
        · (try simp only [W0])
          exact ⟨by rw [if_pos (by simp [h3])], H⟩
        · exfalso
          rw [h1, if_neg (by simp; omega)] at he
          exact he rfl
theorem new_ok {l : List Rul} {limit life : Int} (hl : TR cRul w0 cs s l) (hok : ∀ r ∈ l, r.Ok) (H : Hp w0 w L) (m1 : ∀ c ∈ cs, c ∈ L) (he : newErr l limit life = 0) (hn : l.length < 2 ^ 63) :
    Calls Pg 19 ⟨[s, I limit, I life]⟩ w fun e w' => ∃ (fb mb : Nat) (sr sc : Value) (cr cc : List Chunk), e = .returned (.tuple ⟨[ptr fb 0, I 0]⟩) ∧ TS cRul 29 sr l cr ∧ TS cI 2 sc (List.replicate l.length 0) cc ∧
      Hp w0 w' (⟨fb, .t 117, [sr, sc, I limit, I life, .map (some mb), I 0, I 0]⟩ :: ⟨mb, .o (mobj kC vE [] 0), []⟩ :: (cc ++ (cr ++ L))) := by
  unfold newErr at he
  split at he
  · rename_i h; exact absurd he h
  rename_i h0
  split at he
  · cases he
  rename_i h1
  simp only [Bool.or_eq_true, Bool.not_eq_true', decide_eq_true_eq, not_or, Bool.not_eq_false] at h1
  obtain ⟨⟨h1, h2⟩, h3⟩ := h1
  have hlen : l.length ≤ 200 := by
    have h0' : checkAll l = 0 := Decidable.not_not.1 h0
    unfold checkAll at h0'
    split at h0'
    · cases h0'
    · omega
  generalize hQ : (fun (e : Ending) (w' : World) => ∃ (fb mb : Nat) (sr sc : Value) (cr cc : List Chunk), e = .returned (.tuple ⟨[ptr fb 0, I 0]⟩) ∧ TS cRul 29 sr l cr ∧ TS cI 2 sc (List.replicate l.length 0) cc ∧
      Hp w0 w' (⟨fb, .t 117, [sr, sc, I limit, I life, .map (some mb), I 0, I 0]⟩ :: ⟨mb, .o (mobj kC vE [] 0), []⟩ :: (cc ++ (cr ++ L))) : ER) = Q
  apply F19_calls
  unfold F19
  refine cal_h (checkAll_spec hl hok hn H m1) ?_
  rintro _ w ⟨rfl, H⟩
  (try simp only [W0])
  refine neq_n (by simpa using h0) ?_
  (try simp only [W0])
  unfold F19_j1 F19_j3
  refine cal_h (within_spec H) ?_
  rintro _ w ⟨rfl, H⟩
  rw [h1]
  (try simp only [W0])
  refine lss_n h2 ?_
  (try simp only [W0])
  refine gtr_n h3 ?_
  (try simp only [W0])
  unfold F19_j2
  refine drew_k H fun w H => ?_
  refine pv_of (lenS_tr hl) ?_
  (try simp only [W0])
  have fin : ∀ (w : World) (sr sc : Value) (mb : Nat) (cr cc : List Chunk), TS cRul 29 sr l cr → TS cI 2 sc (List.replicate l.length 0) cc → Hp w0 w (⟨mb, .o (mobj kC vE [] 0), []⟩ :: (cc ++ (cr ++ L))) →
      pv (bldO [.slice none 0 0, .slice none 0 0, .int .i64 0, .int .i64 0, .map none, .int .i64 0, .int .i64 0] [(0,1, sr), (1,1, sc), (2,1, I limit), (3,1, I life), (4,1, .map (some mb))]) (fun v8 => bx 117 v8 fun v9 => Q (.returned (.tuple ⟨[v9, (.int .i64 0)]⟩))) w := by
    intro w sr sc mb cr cc t1 t2 H
    obtain ⟨k1, rfl⟩ := t1.sh
    obtain ⟨k2, rfl⟩ := t2.sh
    refine bld_a ?_
    refine bx_m H fun w fb H => ?_
    subst hQ
    exact ⟨fb, mb, _, _, cr, cc, rfl, t1, t2, H⟩
  have hb : l.length * 8 ≤ 2 ^ 48 := by omega
  have mk : ∀ {L : List Chunk} {w : World} {K : VK} (H : Hp w0 w L) (k : ∀ w' s cs, Hp w0 w' (cs ++ L) → TS cI 2 s (List.replicate l.length 0) cs → K s w'), valV Pg noR (Instr.makeSlice 91 (I (l.length : Int)) (I (l.length : Int))) K w :=
    fun H k => make_t (C := cI) (x := 0) elI64 rfl H rfl hb (by omega) k
  refine ⟨?_, ?_, ?_⟩
  · refine cal_h (cloneRul_spec hl H (fun c hc => m1 c hc) (by omega)) ?_
    rintro _ w ⟨sr, cr, rfl, H, tr⟩
    (try simp only [W0])
    refine ⟨?_, ?_⟩
    · refine mk H fun w sc cc H tc => ?_
      (try simp only [W0])
      refine make_m (key := kC) (val := vE) H fun w mb H => ?_
      (try simp only [W0])
      exact fin w sr sc mb cr cc tr tc H.re
    · (try simp only [allW])
      refine make_m (key := kC) (val := vE) H fun w mb H => ?_
      (try simp only [W0])
      refine mk H fun w sc cc H tc => ?_
      (try simp only [W0])
      exact fin w sr sc mb cr cc tr tc H.re
  · refine mk H fun w sc cc H tc => ?_
    (try simp only [W0])
    refine ⟨?_, ?_⟩
    · refine cal_h (cloneRul_spec hl H (fun c hc => List.mem_append_right _ (m1 c hc)) (by omega)) ?_
      rintro _ w ⟨sr, cr, rfl, H, tr⟩
      (try simp only [W0])
      refine make_m (key := kC) (val := vE) H fun w mb H => ?_
      (try simp only [W0])
      exact fin w sr sc mb cr cc tr tc H.re
    · (try simp only [allW])
      refine make_m (key := kC) (val := vE) H fun w mb H => ?_
      (try simp only [W0])
      refine cal_h (cloneRul_spec hl H (fun c hc => List.mem_cons_of_mem _ (List.mem_append_right _ (m1 c hc))) (by omega)) ?_
      rintro _ w ⟨sr, cr, rfl, H, tr⟩
      (try simp only [W0])
      exact fin w sr sc mb cr cc tr tc H.re
  · (try simp only [allW])
    refine make_m (key := kC) (val := vE) H fun w mb H => ?_
    (try simp only [W0])
    refine ⟨?_, ?_⟩
    · refine cal_h (cloneRul_spec hl H (fun c hc => List.mem_cons_of_mem _ (m1 c hc)) (by omega)) ?_
      rintro _ w ⟨sr, cr, rfl, H, tr⟩
      (try simp only [W0])
      refine mk H fun w sc cc H tc => ?_
      (try simp only [W0])
      exact fin w sr sc mb cr cc tr tc H.re
    · refine mk H fun w sc cc H tc => ?_
      (try simp only [W0])
      refine cal_h (cloneRul_spec hl H (fun c hc => List.mem_append_right _ (List.mem_cons_of_mem _ (m1 c hc))) (by omega)) ?_
      rintro _ w ⟨sr, cr, rfl, H, tr⟩
      (try simp only [W0])
      exact fin w sr sc mb cr cc tr tc H.re
end
end Go.Proofs.Ytmmbepdghpjgeaa.Den
end

section
set_option linter.unusedVariables false
set_option linter.unusedSimpArgs false
set_option maxRecDepth 8000
set_option maxHeartbeats 1000000
namespace Go.Proofs.Ytmmbepdghpjgeaa.Den
open Go Go.RowKit
theorem nd_inj {α : Type} {l : List α} (h : l.Nodup) {i j : Nat} (hi : i < l.length) (hj : j < l.length) (e : l[i] = l[j]) : i = j := by
  have hp := List.pairwise_iff_getElem.1 h
  rcases Nat.lt_trichotomy i j with g | g | g
  · exact absurd e (hp i j hi hj g)
  · exact g
  · exact absurd e.symm (hp j i hj hi g)
theorem filter_sub {α : Type} {p q : α → Bool} (h : ∀ x, p x = true → q x = true) : ∀ l : List α, List.Sublist (l.filter p) (l.filter q)
  | [] => List.Sublist.slnil
  | a :: l => by
    rw [List.filter_cons, List.filter_cons]
    have ih := filter_sub h l
    by_cases hp : p a = true
    · rw [if_pos hp, if_pos (h a hp)]; exact ih.cons_cons a
    · rw [if_neg hp]; split
      · exact ih.cons a
      · exact ih
structure FS where
  rules : List Rul
  counts : List Int
  limit : Int
  life : Int
  ents : List (Con × Ey × Nat)
  mck : Nat
  made : Int
  clock : Int
def Pkt.con (p : Pkt) : Con := (p.proto, p.src, p.dst, p.fr, p.to)
def turned (c : Con) : Con := (c.1, c.2.2.1, c.2.1, c.2.2.2.2, c.2.2.2.1)
def FS.expire (f : FS) (now : Int) : FS := { f with clock := now, ents := f.ents.filter fun e => decide (now < e.2.1.1) }
def FS.put (f : FS) (c : Con) (v : Ey) : FS := { f with ents := mput c v f.ents f.mck, mck := mclk c f.ents f.mck }
def FS.count (f : FS) (i : Nat) : FS := { f with counts := f.counts.set i (f.counts.getD i 0 + 1) }
/-- Is a the older one? -/
def older (a b : Con × Ey × Nat) : Bool := decide (a.2.1.1 < b.2.1.1) || (decide (a.2.1.1 = b.2.1.1) && decide (a.2.1.2 < b.2.1.2))
def oldest : List (Con × Ey × Nat) → Option (Con × Ey × Nat)
  | [] => none
  | e :: l => match oldest l with
    | none => some e
    | some d => if older d e then some d else some e
def FS.make (f : FS) (c : Con) (x : Int) : FS :=
  let f := if f.limit ≤ (f.ents.length : Int) then (match oldest f.ents with | some d => { f with ents := mdel d.1 f.ents } | none => f) else f
  { f.put c (x, f.made + 1) with made := f.made + 1 }
def FS.rule (f : FS) (p : Pkt) (now : Int) : (Int × Int × Int) × FS :=
  let i := deciding f.rules p
  if i < 0 then ((1, i, 0), f)
  else match f.rules[i.toNat]? with
    | none => ((0, 0, 0), f)
    | some r => ((r.act, i, 0), if r.keep && p.start then (f.count i.toNat).make p.con (now + f.life) else f.count i.toNat)
def FS.decide (f : FS) (p : Pkt) (now : Int) : (Int × Int × Int) × FS :=
  if p.check ≠ 0 then ((0, 0, p.check), f)
  else if now < 0 ∨ 1099511627776 < now then ((0, 0, 34), f)
  else if now < f.clock then ((0, 0, 30), f)
  else match mget p.con (f.expire now).ents with
    | some v => ((1, -1, 0), (f.expire now).put p.con (now + f.life, v.2))
    | none => match mget (turned p.con) (f.expire now).ents with
      | some v => ((1, -1, 0), (f.expire now).put (turned p.con) (now + f.life, v.2))
      | none => (f.expire now).rule p now
/-- The filter's own memory. -/
def FS.mem (fb mb : Nat) (sr sc : Value) (f : FS) (F : List Chunk) : List Chunk :=
  ⟨fb, .t 117, [sr, sc, I f.limit, I f.life, .map (some mb), I f.made, I f.clock]⟩ :: ⟨mb, .o (mobj kC vE f.ents f.mck), []⟩ :: F
/-- A call of make does what it should. -/
def MakeOK (f : FS) (c : Con) (x : Int) : Prop := ∀ (w0 w : World) (fb mb : Nat) (sr sc : Value) (F : List Chunk), Hp w0 w (f.mem fb mb sr sc F) →
  Calls Pg 50 ⟨[ptr fb 0, kC c, I x]⟩ w fun e w' => e = .returned (.tuple ⟨[]⟩) ∧ Hp w0 w' ((f.make c x).mem fb mb sr sc F)
theorem decFrom_lt {p : Pkt} : ∀ (l : List Rul) (i : Nat) (last : Int), decFrom p l i last = last ∨ ((i : Int) ≤ decFrom p l i last ∧ decFrom p l i last < (i : Int) + l.length ∧ ∃ r, l[(decFrom p l i last).toNat - i]? = some r ∧ r.fits p = true)
  | [], i, last => .inl rfl
  | r :: l, i, last => by
    unfold decFrom
    split
    · rcases decFrom_lt (p := p) l (i + 1) last with h | ⟨h1, h2, r', h3, h4⟩
      · exact .inl h
      · refine .inr ⟨by omega, by simp only [List.length_cons]; omega, r', ?_, h4⟩
        have e : (decFrom p l (i + 1) last).toNat - i = (decFrom p l (i + 1) last).toNat - (i + 1) + 1 := by omega
        rw [e, List.getElem?_cons_succ]; exact h3
    · rename_i hf
      have hf' : r.fits p = true := by simpa using hf
      split
      · refine .inr ⟨by omega, by simp only [List.length_cons]; omega, r, ?_, hf'⟩
        have e : (i : Int).toNat - i = 0 := by omega
        rw [e]; rfl
      · right
        rcases decFrom_lt (p := p) l (i + 1) (i : Int) with h | ⟨h1, h2, r', h3, h4⟩
        · rw [h]
          refine ⟨by omega, by simp only [List.length_cons]; omega, r, ?_, hf'⟩
          have e : (i : Int).toNat - i = 0 := by omega
          rw [e]; rfl
        · refine ⟨by omega, by simp only [List.length_cons]; omega, r', ?_, h4⟩
          have e : (decFrom p l (i + 1) (i : Int)).toNat - i = (decFrom p l (i + 1) (i : Int)).toNat - (i + 1) + 1 := by omega
          rw [e, List.getElem?_cons_succ]; exact h3
theorem deciding_lt {l : List Rul} {p : Pkt} : deciding l p = -2 ∨ (0 ≤ deciding l p ∧ deciding l p < l.length ∧ ∃ r, l[(deciding l p).toNat]? = some r ∧ r.fits p = true) := by
  rcases decFrom_lt (p := p) l 0 (-2) with h | ⟨h1, h2, h3⟩
  · exact .inl h
  · exact .inr ⟨by unfold deciding; omega, by unfold deciding; omega, h3⟩
section
variable {w w' w0 : World} {L L' F cs A X Y cc cr : List Chunk} {s sr sc : Value} {K : VK} {R : ER} {b i j fb mb : Nat} {f : FS} {p : Pkt} {now : Int}
theorem turned_spec {c : Con} (H : Hp w0 w L) : Calls Pg 48 ⟨[.agg ⟨Con.enc c⟩]⟩ w fun e w' => e = .returned (.agg ⟨Con.enc (turned c)⟩) ∧ Hp w0 w' L := by
  apply F48_calls
  unfold F48 Con.enc
  refine bx_m H fun w b1 H => ?_
  refine al_m (ys := [I 0, U32 0, U32 0, I 0, I 0]) H (by kernel_rfl) fun w b2 H => ?_
  simp only [W0]
  refine ld_a ?_
  (try simp only [W0])
  refine ld_a ?_
  (try simp only [W0])
  refine ld_a ?_
  (try simp only [W0])
  refine ld_a ?_
  (try simp only [W0])
  refine ld_a ?_
  refine bld_a ?_
  refine stA_a fun w H => ?_
  refine ldA_a ?_
  exact ⟨rfl, H.tail.tail⟩
/-- States whose time has come are dropped. -/
theorem expire_walk {Q : ER} {b4 : Nat} (hw : MW f.ents f.mck) (H : Hp w0 w (⟨b4, .t 45, p.enc⟩ :: f.mem fb mb sr sc F)) (hc : f.clock = now)
    (g : ∀ w', Hp w0 w' (⟨b4, .t 45, p.enc⟩ :: (f.expire now).mem fb mb sr sc F) → F20_j5 Q (ptr fb 0) (I now) (ptr b4 0) w') :
    F20_j18 Q (ptr fb 0) (I now) (ptr b4 0) w := by
  unfold F20_j18
  unfold FS.mem at H g
  simp only [W0]
  refine ld_a ?_
  refine range_h mapC (ents := f.ents) (clock := f.mck) H has fun w r H => ?_
  unfold F20_j19
  refine loop4 (F20_l2_succ _) (fun m x0 x2 x4 x46 w => ∃ (seen : List Nat) (E : List (Con × Ey × Nat)), x0 = ptr fb 0 ∧ x2 = I now ∧ x4 = ptr b4 0 ∧ x46 = ptr r 0 ∧ MW E f.mck ∧ m = (E.filter fun e => decide (e.2.2 ∉ seen)).length ∧
    E = (f.ents.filter fun e => !(decide (e.2.2 ∈ seen) && decide (e.2.1.1 ≤ now))) ∧
    Hp w0 w (⟨r, .o (iobj mb f.mck seen f.mck), []⟩ :: ⟨b4, .t 45, p.enc⟩ :: ⟨fb, .t 117, [sr, sc, I f.limit, I f.life, .map (some mb), I f.made, I f.clock]⟩ :: ⟨mb, .o (mobj kC vE E f.mck), []⟩ :: F)) ?_ (m := (f.ents.filter fun e => decide (e.2.2 ∉ ([] : List Nat))).length)
    ⟨[], f.ents, rfl, rfl, rfl, rfl, hw, rfl, by symm; rw [List.filter_eq_self]; intro e he; simp, H⟩
  clear H
  rintro m k _ _ _ _ w ⟨seen, E, rfl, rfl, rfl, rfl, hE, rfl, hEq, H⟩ hk
  unfold F20_b2
  refine next_h (key := kC) (val := vE) (ents := E) (clock := f.mck) H has (fun e he => hE.lt e he) (Nat.le_refl _) (fun hall => ?_) (fun w e he hns H => ?_)
  · simp only [W0]
    refine g w ?_
    have : E = (f.expire now).ents := by
      rw [hEq]
      refine List.filter_congr fun e he => ?_
      rw [Bool.eq_iff_iff]
      simp only [Bool.not_eq_true', Bool.and_eq_false_iff, decide_eq_false_iff_not, decide_eq_true_eq]
      constructor
      · intro h
        rcases h with h | h
        · have hmem : e ∈ E := by
            rw [hEq, List.mem_filter]
            exact ⟨he, by simp [h]⟩
          exact absurd (hall e hmem) h
        · omega
      · intro h; exact .inr (by omega)
    have hcl : (f.expire now).clock = f.clock := hc.symm
    rw [← this, hcl]
    exact H.tail
  · simp only [W0]
    unfold F20_j20
    refine entry_h (key := kC) (val := vE) (ents := E) H has he hE ?_
    simp only [W0]
    refine al_m (ys := [I 0, U32 0, U32 0, I 0, I 0]) H (by kernel_rfl) fun w b5 H => ?_
    refine al_m (ys := [I 0, I 0]) H (by kernel_rfl) fun w b6 H => ?_
    obtain ⟨⟨k1, k2, k3, k4, k5⟩, ⟨v1, v2⟩, bn⟩ := e
    unfold kC vE Con.enc
    refine stA_a fun w H => ?_
    refine stA_a fun w H => ?_
    (try simp only [W0])
    refine ld_a ?_
    have hnew : ∀ e ∈ E, e.2.2 = bn → e = ((k1, k2, k3, k4, k5), (v1, v2), bn) := by
      intro e he' hb
      have hnd : (E.map (·.2.2)).Nodup := hE.bn.imp fun h => Nat.ne_of_lt h
      obtain ⟨i, hi, e1⟩ := List.getElem_of_mem he'
      obtain ⟨j, hj, e2⟩ := List.getElem_of_mem he
      have h3 : (E.map (·.2.2))[i]'(by simpa using hi) = (E.map (·.2.2))[j]'(by simpa using hj) := by
        rw [List.getElem_map, List.getElem_map, e1, e2]; exact hb
      have hij : i = j := nd_inj hnd _ _ h3
      subst hij
      rw [← e1, e2]
    have hdec : (List.filter (fun e => decide (e.2.2 ∉ seen ++ [bn])) E).length < (List.filter (fun e => decide (e.2.2 ∉ seen)) E).length := by
      have hsub : List.Sublist (List.filter (fun e => decide (e.2.2 ∉ seen ++ [bn])) E) (List.filter (fun e => decide (e.2.2 ∉ seen)) E) := by
        refine filter_sub (fun e => ?_) E
        simp only [List.mem_append, List.mem_singleton, not_or, decide_eq_true_eq]
        exact fun h => h.1
      rcases Nat.lt_or_ge (List.filter (fun e => decide (e.2.2 ∉ seen ++ [bn])) E).length (List.filter (fun e => decide (e.2.2 ∉ seen)) E).length with h | h
      · exact h
      · have := hsub.eq_of_length_le h
        have hm1 : ((k1, k2, k3, k4, k5), (v1, v2), bn) ∈ List.filter (fun e => decide (e.2.2 ∉ seen)) E := List.mem_filter.2 ⟨he, by simpa using hns⟩
        rw [← this] at hm1
        have := (List.mem_filter.1 hm1).2
        simp at this
    refine leq_k (fun hx => ?_) (fun hx => ?_)
    · simp only [W0]
      refine drew_k H fun w H => ?_
      (try simp only [W0])
      refine ld_a ?_
      refine ldA_a ?_
      (try simp only [W0])
      refine delete_h mapC (k1, k2, k3, k4, k5) (ents := E) H updd fun w H => ?_
      have hdel : mdel (k1, k2, k3, k4, k5) E = f.ents.filter fun e => !(decide (e.2.2 ∈ seen ++ [bn]) && decide (e.2.1.1 ≤ now)) := by
        rw [mdel_eq hE.nd]
        rw [hEq, List.filter_filter]
        refine List.filter_congr fun e hef => ?_
        have heE : (!(decide (e.2.2 ∈ seen) && decide (e.2.1.1 ≤ now))) = true → e ∈ E := fun h => by rw [hEq, List.mem_filter]; exact ⟨hef, h⟩
        rw [Bool.eq_iff_iff]
        simp only [Bool.and_eq_true, decide_eq_true_eq, Bool.not_eq_true', Bool.and_eq_false_iff, decide_eq_false_iff_not, List.mem_append, List.mem_singleton, not_or]
        constructor
        · rintro ⟨h1, h2⟩
          have hE' := heE (by simpa [Bool.and_eq_false_iff] using h2)
          by_cases hb : e.2.2 = bn
          · have := hnew e hE' hb
            subst this; exact absurd rfl h1
          · rcases h2 with h2 | h2
            · exact .inl ⟨h2, hb⟩
            · exact .inr h2
        · rintro (⟨h1, h2⟩ | h1)
          · refine ⟨?_, .inl h1⟩
            intro hkk
            have hE' := heE (by simp [h1])
            have hnd := hE.nd
            obtain ⟨i, hi, e1⟩ := List.getElem_of_mem hE'
            obtain ⟨j, hj, e2⟩ := List.getElem_of_mem he
            have h3 : (mkeys E)[i]'(by simpa [mkeys] using hi) = (mkeys E)[j]'(by simpa [mkeys] using hj) := by
              simp only [mkeys, List.getElem_map, e1, e2]; exact hkk
            have hij : i = j := nd_inj hnd _ _ h3
            subst hij
            rw [e1] at e2; rw [e2] at h2; exact h2 rfl
          · refine ⟨?_, .inr h1⟩
            intro hkk
            have hE' := heE (by simp; omega)
            have hnd := hE.nd
            obtain ⟨i, hi, e1⟩ := List.getElem_of_mem hE'
            obtain ⟨j, hj, e2⟩ := List.getElem_of_mem he
            have h3 : (mkeys E)[i]'(by simpa [mkeys] using hi) = (mkeys E)[j]'(by simpa [mkeys] using hj) := by
              simp only [mkeys, List.getElem_map, e1, e2]; exact hkk
            have hij : i = j := nd_inj hnd _ _ h3
            subst hij
            rw [e1] at e2; rw [e2] at h1; exact h1 hx
      have hlt : (List.filter (fun e => decide (e.2.2 ∉ seen ++ [bn])) (mdel (k1, k2, k3, k4, k5) E)).length < (List.filter (fun e => decide (e.2.2 ∉ seen)) E).length := by
        refine Nat.lt_of_le_of_lt ?_ hdec
        rw [mdel_eq hE.nd]
        exact (List.Sublist.filter _ List.filter_sublist).length_le
      exact hk _ _ _ _ _ _ hlt ⟨seen ++ [bn], mdel (k1, k2, k3, k4, k5) E, rfl, rfl, rfl, rfl, hE.del, rfl, hdel, H.tail.tail⟩
    · simp only [W0]
      have hsame : E = f.ents.filter fun e => !(decide (e.2.2 ∈ seen ++ [bn]) && decide (e.2.1.1 ≤ now)) := by
        rw [hEq]
        refine List.filter_congr fun e hef => ?_
        have heE : (!(decide (e.2.2 ∈ seen) && decide (e.2.1.1 ≤ now))) = true → e ∈ E := fun h => by rw [hEq, List.mem_filter]; exact ⟨hef, h⟩
        rw [Bool.eq_iff_iff]
        simp only [Bool.and_eq_true, decide_eq_true_eq, Bool.not_eq_true', Bool.and_eq_false_iff, decide_eq_false_iff_not, List.mem_append, List.mem_singleton, not_or]
        constructor
        · intro h2
          have hE' := heE (by simpa [Bool.and_eq_false_iff] using h2)
          by_cases hb : e.2.2 = bn
          · have := hnew e hE' hb
            subst this; exact .inr hx
          · rcases h2 with h2 | h2
            · exact .inl ⟨h2, hb⟩
            · exact .inr h2
        · rintro (⟨h1, h2⟩ | h1)
          · exact .inl h1
          · exact .inr h1
      exact hk _ _ _ _ _ _ hdec ⟨seen ++ [bn], E, rfl, rfl, rfl, rfl, hE, rfl, hsame, H.tail.tail⟩
end
end Go.Proofs.Ytmmbepdghpjgeaa.Den
end

section
set_option linter.unusedVariables false
set_option linter.unusedSimpArgs false
set_option maxRecDepth 8000
set_option maxHeartbeats 1000000
namespace Go.Proofs.Ytmmbepdghpjgeaa.Den
open Go Go.RowKit
def cCon : Cod Con := ⟨5, Con.enc, fun _ => rfl, by intro r c hc; simp only [Con.enc, List.mem_cons, List.not_mem_nil, or_false] at hc; rcases hc with rfl | rfl | rfl | rfl | rfl <;> rfl⟩
theorem elCon : ElT 123 119 cCon.sz 32 [I 0, U32 0, U32 0, I 0, I 0] := ⟨by kernel_rfl, by kernel_rfl, rfl⟩
theorem Con.enc_sc (x : Con) : ∀ c ∈ Con.enc x, scalar c = true := cCon.sc x
/-- What holds of a filter; n bounds its counters. -/
structure FS.Inv (n : Nat) (f : FS) : Prop where
  l1 : 1 ≤ f.life
  l2 : f.life ≤ 1099511627776
  mw : MW f.ents f.mck
  cl : f.counts.length = f.rules.length
  cb : ∀ c ∈ f.counts, 0 ≤ c ∧ c ≤ n
  rok : ∀ r ∈ f.rules, r.Ok ∧ r.check = 0
  rl : f.rules.length ≤ 200
  m1 : 0 ≤ f.made
  m2 : f.made ≤ n
section
variable {w w' w0 : World} {L L' F cs A X Y cc cr : List Chunk} {s sr sc : Value} {K : VK} {R : ER} {b i j fb mb n : Nat} {f : FS} {p : Pkt} {now : Int}
theorem FS.Inv.expire (h : f.Inv n) (now : Int) : (f.expire now).Inv n := ⟨h.l1, h.l2, h.mw.sub List.filter_sublist, h.cl, h.cb, h.rok, h.rl, h.m1, h.m2⟩
/-- Looking one connection up. -/
theorem look_round {Q : ER} {k1 : V7} {b4 b12 : Nat} {x75 : Value} {c75 : List Chunk} {cons : List Con} {c : Con} {m : Int} (hi : f.Inv n) (hnow : 0 ≤ now) (hnow2 : now ≤ 1099511627776) (h75 : TR cCon w0 c75 x75 cons) (hc : cons[i]? = some c) (hlen : i < 100)
    (H : Hp w0 w L) (m1 : ∀ c ∈ c75, c ∈ L) (hf : Split L (f.mem fb mb sr sc []) F)
    (g1 : ∀ v, mget c f.ents = some v → ∀ w', Hp w0 w' ((f.put c (now + f.life, v.2)).mem fb mb sr sc F) → Q (.returned (.tuple ⟨[I 1, I (-1), I 0]⟩)) w')
    (g2 : mget c f.ents = none → ∀ w', Hp w0 w' L → k1 (ptr fb 0) (I now) (ptr b4 0) (ptr b12 0) x75 (I m) (I ((i + 1 : Nat) : Int)) w') :
    F20_j12 Q k1 (ptr fb 0) (I now) (ptr b4 0) (ptr b12 0) x75 (I m) (I (i : Int)) w := by
  unfold F20_j12 F20_j14
  refine ixN_t (C := cCon) h75 H m1 hc (by decide) ?_
  refine al_m (ys := [I 0, U32 0, U32 0, I 0, I 0]) H (by kernel_rfl) fun w b5 H => ?_
  refine stA_m H updd (by exact cCon.len c) rfl (by exact cCon.sc c) fun w H => ?_
  refine drew_k H fun w H => ?_
  have hin : ∀ x ∈ f.mem fb mb sr sc [], x ∈ L := fun x hx => (hf.2 x).2 (List.mem_append_left _ hx)
  have hF : (⟨fb, .t 117, [sr, sc, I f.limit, I f.life, .map (some mb), I f.made, I f.clock]⟩ : Chunk) ∈ L := hin _ (by simp [FS.mem])
  have hM : (⟨mb, .o (mobj kC vE f.ents f.mck), []⟩ : Chunk) ∈ L := hin _ (by simp [FS.mem])
  have back : ∀ {w : World} {b5 b6 : Nat} {l5 l6 : List Value} {t5 t6 : Tag}, Hp w0 w (⟨b6, t6, l6⟩ :: ⟨b5, t5, l5⟩ :: L) → Hp w0 w (f.mem fb mb sr sc F) := by
    intro w b5 b6 l5 l6 t5 t6 H
    exact (H.tail.tail).split hf
  simp only [W0]
  refine ld_m (b := fb) (o := 4) (t := 117) (l := [sr, sc, I f.limit, I f.life, .map (some mb), I f.made, I f.clock]) H (Has.cons hF) rfl ?_
  (try simp only [W0])
  refine ldA_m (l := Con.enc c) H has (by exact cCon.len c) ?_
  (try simp only [W0])
  have fin : ∀ (w : World) (b6 : Nat), Hp w0 w (⟨b6, .t 121, [I ((mget c f.ents).getD (0, 0)).1, I ((mget c f.ents).getD (0, 0)).2]⟩ :: ⟨b5, .t 119, Con.enc c⟩ :: L) →
      F20_j15 Q k1 (ptr fb 0) (I now) (ptr b4 0) (ptr b12 0) (ptr b5 0) (ptr b6 0) (.bool (mget c f.ents).isSome) x75 (I m) (I (i : Int)) w := by
    intro w b6 H
    unfold F20_j15 F20_j16
    cases hg : mget c f.ents with
    | none =>
      simp only [Option.isSome_none, W0]
      unfold F20_j13
      refine add_k (z := ((i + 1 : Nat) : Int)) (by omega) (by omega) (by omega) ?_
      exact g2 hg _ H.tail.tail
    | some v =>
      rw [hg] at H
      simp only [Option.isSome_some, W0]
      unfold F20_j17
      refine drew_k H fun w H => ?_
      have H' : Hp w0 w (⟨fb, .t 117, [sr, sc, I f.limit, I f.life, .map (some mb), I f.made, I f.clock]⟩ :: ⟨mb, .o (mobj kC vE f.ents f.mck), []⟩ :: ⟨b6, .t 121, [I v.1, I v.2]⟩ :: ⟨b5, .t 119, Con.enc c⟩ :: F) := by
        refine H.to fun g => ?_
        have := hf.1 g
        simp only [FS.mem, List.map_append, List.map_cons, List.map_nil, List.sum_append, List.sum_cons, List.sum_nil] at this
        simp only [Option.getD_some, List.map_cons, List.sum_cons]
        omega
      clear H
      simp only [W0]
      refine ld_a ?_
      (try simp only [W0])
      refine ldA_m (l := Con.enc c) H' has (by exact cCon.len c) ?_
      (try simp only [W0])
      refine ld_a ?_
      refine add_k (by have := hi.l1; omega) (by have := hi.l2; omega) rfl ?_
      (try simp only [W0])
      refine ld_a ?_
      refine bld_a ?_
      (try simp only [W0])
      refine put_h mapC c (now + f.life, v.2) (ents := f.ents) (clock := f.mck) H' updd fun w H => ?_
      refine g1 v hg w ?_
      refine H.to fun g => ?_
      simp only [FS.mem, FS.put, List.map_cons, List.sum_cons]
      omega
  refine ⟨?_, ?_⟩
  · refine lookup2_h mapC c (ents := f.ents) (clock := f.mck) H (Has.cons hM) ?_
    simp only [W0]
    refine al_m (ys := [I 0, I 0]) H (by kernel_rfl) fun w b6 H => ?_
    refine rdA_m H has (by exact cCon.len c) ?_
    refine rd1_m H (hm := Has.cons (Has.cons hF)) (o := 4) rfl ?_
    unfold lkv vE
    (try simp only [W0])
    refine stA_a fun w H => ?_
    exact fin w b6 H
  · simp only [allW, W0]
    refine al_m (ys := [I 0, I 0]) H (by kernel_rfl) fun w b6 H => ?_
    refine rdA_m H has (by exact cCon.len c) ?_
    refine rd1_m H (hm := Has.cons (Has.cons hF)) (o := 4) rfl ?_
    (try simp only [W0])
    refine lookup2_h mapC c (ents := f.ents) (clock := f.mck) H (Has.cons (Has.cons hM)) ?_
    unfold lkv vE
    simp only [W0]
    refine stA_a fun w H => ?_
    exact fin w b6 H
end
end Go.Proofs.Ytmmbepdghpjgeaa.Den
end

section
set_option linter.unusedVariables false
set_option linter.unusedSimpArgs false
set_option maxRecDepth 8000
set_option maxHeartbeats 1000000
namespace Go.Proofs.Ytmmbepdghpjgeaa.Den
open Go Go.RowKit
section
variable {w w' w0 : World} {L L' F cs A X Y cc cr : List Chunk} {s sr sc : Value} {K : VK} {R : ER} {b i j fb mb n : Nat} {f : FS} {p : Pkt} {now : Int}
/-- The rule that decides. -/
theorem rule_walk {Q : ER} {b4 b12 : Nat} (hi : f.Inv n) (hn : n < 2 ^ 60) (hp : p.Ok) (hnow : 0 ≤ now) (hnow2 : now ≤ 1099511627776) (hr : TR cRul w0 cr sr f.rules) (hm : ∀ c ∈ cr, c ∈ F) (hc : TS cI 2 sc f.counts cc)
    (hmk : ∀ r, f.rules[(deciding f.rules p).toNat]? = some r → r.keep = true → p.start = true → MakeOK (f.count (deciding f.rules p).toNat) p.con (now + f.life))
    (H : Hp w0 w (⟨b12, .t 119, Con.enc p.con⟩ :: ⟨b4, .t 45, p.enc⟩ :: f.mem fb mb sr sc (cc ++ F)))
    (g : ∀ w' cc', TS cI 2 sc (f.rule p now).2.counts cc' → Hp w0 w' ((f.rule p now).2.mem fb mb sr sc (cc' ++ F)) → Q (.returned (.tuple ⟨[I (f.rule p now).1.1, I (f.rule p now).1.2.1, I (f.rule p now).1.2.2]⟩)) w') :
    F20_j6 Q (ptr fb 0) (I now) (ptr b4 0) (ptr b12 0) w := by
  unfold FS.mem at H
  have hsr : scalar sr = true := hr.sc
  have hsc : scalar sc = true := hc.sc
  unfold F20_j6
  refine drew_k H fun w H => ?_
  simp only [W0]
  refine ld_a ?_
  refine ldA_m (l := p.enc) H has rfl ?_
  (try simp only [W0])
  refine cal_h (deciding_spec hr hi.rok hp (by have := hi.rl; omega) H (fun c hc => List.mem_cons_of_mem _ (List.mem_cons_of_mem _ (List.mem_cons_of_mem _ (List.mem_cons_of_mem _ (List.mem_append_right _ (hm c hc))))))) ?_
  rintro _ w ⟨rfl, H⟩
  (try simp only [W0])
  refine lss_k (fun h0 => ?_) (fun h0 => ?_)
  · have e : f.rule p now = ((1, deciding f.rules p, 0), f) := by unfold FS.rule; simp only; rw [if_pos h0]
    rw [e] at g
    (try simp only [W0])
    exact g w cc hc H.tail.tail
  · (try simp only [W0])
    rcases deciding_lt (l := f.rules) (p := p) with h1 | ⟨h1, h2, r, hx, hfit⟩
    · omega
    obtain ⟨i, hi'⟩ : ∃ i : Nat, deciding f.rules p = (i : Int) := ⟨(deciding f.rules p).toNat, by omega⟩
    have e : f.rule p now = ((r.act, (i : Int), 0), if r.keep && p.start then (f.count i).make p.con (now + f.life) else f.count i) := by
      unfold FS.rule; simp only; rw [if_neg h0, hx]; simp only [hi', Int.toNat_natCast]
    rw [hi'] at hx hmk h2 ⊢
    rw [Int.toNat_natCast] at hx hmk
    rw [e] at g
    simp only at g
    have hcl := hi.cl
    have hcx : f.counts[i]? = some (f.counts.getD i 0) := by
      rw [List.getD_eq_getElem?_getD, List.getElem?_eq_getElem (by omega)]; rfl
    have hcb := hi.cb _ (List.mem_of_getElem? hcx)
    unfold F20_j7
    (try simp only [W0])
    refine ld_a ?_
    refine ix1_t (C := cI) hc.tr H (by intro c hc; simp [hc]) hcx rfl rfl ?_
    refine add_k (by omega) (by omega) rfl ?_
    refine ist1_t (C := cI) (x := f.counts.getD i 0 + 1) hc H (F := ⟨b12, .t 119, Con.enc p.con⟩ :: ⟨b4, .t 45, p.enc⟩ :: ⟨fb, .t 117, [sr, sc, I f.limit, I f.life, .map (some mb), I f.made, I f.clock]⟩ :: ⟨mb, .o (mobj kC vE f.ents f.mck), []⟩ :: F) spl (by omega) rfl rfl fun w cc' H hc' => ?_
    have hm' : ∀ c ∈ cr, c ∈ cc' ++ (⟨b12, .t 119, Con.enc p.con⟩ :: ⟨b4, .t 45, p.enc⟩ :: ⟨fb, .t 117, [sr, sc, I f.limit, I f.life, .map (some mb), I f.made, I f.clock]⟩ :: ⟨mb, .o (mobj kC vE f.ents f.mck), []⟩ :: F) :=
      fun c hc => List.mem_append_right _ (List.mem_cons_of_mem _ (List.mem_cons_of_mem _ (List.mem_cons_of_mem _ (List.mem_cons_of_mem _ (hm c hc)))))
    unfold F20_j9
    (try simp only [W0])
    refine ld_a ?_
    refine ixN_t (C := cRul) hr H hm' hx (by decide) ?_
    refine al_m (ys := rul0.enc) H (by kernel_rfl) fun w b6 H => ?_
    refine stA_m (vs := r.enc) H updd (by exact r.enc_len) rfl (by exact r.enc_sc) fun w H => ?_
    (try simp only [W0])
    refine ld_m H has (o := 2) (v := .bool r.keep) rfl ?_
    have fin : ∀ (w : World) (f' : FS) (F' : List Chunk), f'.counts = f.counts.set i (f.counts.getD i 0 + 1) → f' = (if r.keep && p.start then (f.count i).make p.con (now + f.life) else f.count i) →
        Hp w0 w (f'.mem fb mb sr sc (F' ++ (cc' ++ F))) → F20_j8 Q (ptr fb 0) (I (i : Int)) w := by
      intro w f' F' hcc hf' H
      unfold FS.mem at H
      unfold F20_j8
      (try simp only [W0])
      refine ld_a ?_
      refine ixF_t (C := cRul) (f := 0) hr H (fun c hc => List.mem_cons_of_mem _ (List.mem_cons_of_mem _ (List.mem_append_right _ (List.mem_append_right _ (hm c hc))))) hx rfl ?_
      (try simp only [W0])
      rw [← hf'] at g
      refine g w cc' ?_ (H.to fun q => by simp only [FS.mem, List.map_append, List.map_cons, List.sum_append, List.sum_cons]; omega)
      rw [hcc]; exact hc'
    have hmkc : ((f.count i).make p.con (now + f.life)).counts = f.counts.set i (f.counts.getD i 0 + 1) := by
      unfold FS.make FS.put
      simp only
      split
      · cases oldest (f.count i).ents <;> rfl
      · rfl
    have no : (r.keep && p.start) = false → F20_j8 Q (ptr fb 0) (I (i : Int)) w := by
      intro hk
      refine fin w (f.count i) [⟨b6, .t 29, r.enc⟩, ⟨b12, .t 119, Con.enc p.con⟩, ⟨b4, .t 45, p.enc⟩] rfl (by rw [hk]; rfl) (H.to fun q => by simp only [FS.mem, FS.count, List.map_append, List.map_cons, List.map_nil, List.sum_append, List.sum_cons, List.sum_nil]; omega)
    cases hk : r.keep with
    | false => (try simp only [W0]); exact no (by rw [hk]; rfl)
    | true =>
      (try simp only [W0])
      refine ld_m H has (o := 7) (v := .bool p.start) rfl ?_
      (try simp only [W0])
      cases hs : p.start with
      | false => (try simp only [W0]); exact no (by rw [hs]; simp)
      | true =>
        (try simp only [W0])
        refine drew_k H fun w H => ?_
        refine ldA_m (l := Con.enc p.con) H has (by exact cCon.len p.con) ?_
        (try simp only [W0])
        refine ld_a ?_
        refine add_k (by have := hi.l1; omega) (by have := hi.l2; omega) rfl ?_
        (try simp only [W0])
        have H2 : Hp w0 w ((f.count i).mem fb mb sr sc ([⟨b6, .t 29, r.enc⟩, ⟨b12, .t 119, Con.enc p.con⟩, ⟨b4, .t 45, p.enc⟩] ++ (cc' ++ F))) :=
          H.to fun q => by simp only [FS.mem, FS.count, List.map_append, List.map_cons, List.map_nil, List.sum_append, List.sum_cons, List.sum_nil]; omega
        refine cal_h (hmk r hx hk hs _ _ _ _ _ _ _ H2) ?_
        rintro _ w ⟨rfl, H⟩
        (try simp only [W0])
        exact fin w ((f.count i).make p.con (now + f.life)) _ hmkc (by rw [hk, hs]; rfl) H
theorem decide_spec (hi : f.Inv n) (hn : n < 2 ^ 60) (hp : p.Ok) (hr : TR cRul w0 cr sr f.rules) (hm : ∀ c ∈ cr, c ∈ F) (hc : TS cI 2 sc f.counts cc)
    (hmk : ∀ r, f.rules[(deciding f.rules p).toNat]? = some r → r.keep = true → p.start = true → MakeOK ((f.expire now).count (deciding f.rules p).toNat) p.con (now + f.life))
    (H : Hp w0 w (f.mem fb mb sr sc (cc ++ F))) :
    Calls Pg 20 ⟨[ptr fb 0, .agg ⟨p.enc⟩, I now]⟩ w fun e w' => ∃ cc', e = .returned (.tuple ⟨[I (f.decide p now).1.1, I (f.decide p now).1.2.1, I (f.decide p now).1.2.2]⟩) ∧ TS cI 2 sc (f.decide p now).2.counts cc' ∧ Hp w0 w' ((f.decide p now).2.mem fb mb sr sc (cc' ++ F)) := by
  have hsr : scalar sr = true := hr.sc
  have hsc : scalar sc = true := hc.sc
  generalize hQ : (fun (e : Ending) (w' : World) => ∃ cc', e = .returned (.tuple ⟨[I (f.decide p now).1.1, I (f.decide p now).1.2.1, I (f.decide p now).1.2.2]⟩) ∧ TS cI 2 sc (f.decide p now).2.counts cc' ∧ Hp w0 w' ((f.decide p now).2.mem fb mb sr sc (cc' ++ F)) : ER) = Q
  have fin : ∀ (a i e : Int) (f' : FS) (w' : World) (cc' : List Chunk), f.decide p now = ((a, i, e), f') → TS cI 2 sc f'.counts cc' → Hp w0 w' (f'.mem fb mb sr sc (cc' ++ F)) → Q (.returned (.tuple ⟨[I a, I i, I e]⟩)) w' := by
    intro a i e f' w' cc' h1 h2 h3
    subst hQ
    rw [h1]
    exact ⟨cc', rfl, h2, h3⟩
  apply F20_calls
  unfold F20
  refine bx_m H fun w b4 H => ?_
  simp only [W0]
  unfold F20_j1
  refine ldA_m (l := p.enc) H has rfl ?_
  refine cal_h (pcheck_spec H) ?_
  rintro _ w ⟨rfl, H⟩
  (try simp only [W0])
  refine neq_k (fun h1 => ?_) (fun h1 => ?_)
  · (try simp only [W0])
    exact fin _ _ _ f w cc (by unfold FS.decide; rw [if_pos h1]) hc H.tail
  · (try simp only [W0])
    unfold F20_j2
    have h1' : p.check = 0 := by simpa using h1
    have bad : (now < 0 ∨ 1099511627776 < now) → Q (.returned (.tuple ⟨[I 0, I 0, I 34]⟩)) w := fun h => fin _ _ _ f w cc (by unfold FS.decide; rw [if_neg (by simp [h1']), if_pos h]) hc H.tail
    refine lss_k (fun h2 => ?_) (fun h2 => ?_)
    · (try simp only [W0])
      exact bad (.inl h2)
    · (try simp only [W0])
      refine gtr_k (fun h3 => ?_) (fun h3 => ?_)
      · (try simp only [W0])
        exact bad (.inr h3)
      · (try simp only [W0])
        unfold F20_j3
        unfold FS.mem at H
        (try simp only [W0])
        refine ld_a ?_
        refine lss_k (fun h4 => ?_) (fun h4 => ?_)
        · (try simp only [W0])
          exact fin _ _ _ f w cc (by unfold FS.decide; rw [if_neg (by simp [h1']), if_neg (by omega), if_pos h4]) hc H.tail
        · (try simp only [W0])
          unfold F20_j4
          (try simp only [W0])
          refine st_a fun w H => ?_
          simp only [List.set_cons_zero, List.set_cons_succ] at H
          have e0 : f.decide p now = match mget p.con (f.expire now).ents with
              | some v => ((1, -1, 0), (f.expire now).put p.con (now + f.life, v.2))
              | none => match mget (turned p.con) (f.expire now).ents with
                | some v => ((1, -1, 0), (f.expire now).put (turned p.con) (now + f.life, v.2))
                | none => (f.expire now).rule p now := by
            conv => lhs; unfold FS.decide
            rw [if_neg (by simp [h1']), if_neg (by omega), if_neg h4]
            first | done | rfl
          have hi2 := hi.expire now
          have hcE : (f.expire now).counts = f.counts := rfl
          have hlE : (f.expire now).life = f.life := rfl
          refine expire_walk (f := { f with clock := now }) hi.mw H rfl fun w H => ?_
          have hexp : ({ f with clock := now } : FS).expire now = f.expire now := rfl
          rw [hexp] at H
          generalize hf1 : f.expire now = f1 at *
          unfold F20_j5
          (try simp only [W0])
          refine ld_m H has (o := 4) (v := I p.proto) rfl ?_
          (try simp only [W0])
          refine ld_m H has (o := 2) (v := U32 p.src) rfl ?_
          (try simp only [W0])
          refine ld_m H has (o := 3) (v := U32 p.dst) rfl ?_
          (try simp only [W0])
          refine ld_m H has (o := 5) (v := I p.fr) rfl ?_
          (try simp only [W0])
          refine ld_m H has (o := 6) (v := I p.to) rfl ?_
          refine bld_a ?_
          refine al_m (ys := [I 0, U32 0, U32 0, I 0, I 0]) H (by kernel_rfl) fun w b12 H => ?_
          refine stA_m (vs := Con.enc p.con) H updd rfl rfl (Con.enc_sc _) fun w H => ?_
          unfold F20_j10
          refine drew_k H fun w H => ?_
          refine ldA_m (l := Con.enc p.con) H has rfl ?_
          refine ldA_m (l := Con.enc p.con) H has rfl ?_
          (try simp only [W0])
          refine cal_h (turned_spec H) ?_
          rintro _ w ⟨rfl, H⟩
          (try simp only [W0])
          refine rdA_m H has rfl ?_
          (try simp only [W0])
          refine lit_t (C := cCon) [p.con, turned p.con] elCon H rfl (by decide) (by decide) rfl fun w s7 c7 H h7 => ?_
          refine pv_of (lenS_ts h7) ?_
          unfold F20_j11
          refine ⟨3, ?_⟩
          show F20_l1 Q 3 (ptr fb 0) (I now) (ptr b4 0) (ptr b12 0) s7 (I 2) (I 0) w
          rw [F20_l1_succ]
          unfold F20_b1
          refine lss_y (by decide) ?_
          (try simp only [W0])
          have hsp : Split (c7 ++ (⟨b12, .t 119, Con.enc p.con⟩ :: ⟨b4, .t 45, p.enc⟩ :: f1.mem fb mb sr sc (cc ++ F))) (f1.mem fb mb sr sc []) (c7 ++ (⟨b12, .t 119, Con.enc p.con⟩ :: ⟨b4, .t 45, p.enc⟩ :: (cc ++ F))) := by
            refine ⟨fun q => ?_, fun x => ?_⟩
            · simp only [FS.mem, List.map_append, List.map_cons, List.map_nil, List.sum_append, List.sum_cons, List.sum_nil]; omega
            · simp only [FS.mem, List.mem_append, List.mem_cons, List.not_mem_nil, or_false]
              constructor
              · rintro (h | h | h | h | h | h | h) <;> simp [h]
              · rintro ((h | h) | h | h | h | h | h) <;> simp [h]
          have m7 : ∀ c ∈ c7, c ∈ c7 ++ (⟨b12, .t 119, Con.enc p.con⟩ :: ⟨b4, .t 45, p.enc⟩ :: f1.mem fb mb sr sc (cc ++ F)) := fun c hc => List.mem_append_left _ hc
          have drop : ∀ {f2 : FS} {w : World}, Hp w0 w (f2.mem fb mb sr sc (c7 ++ (⟨b12, .t 119, Con.enc p.con⟩ :: ⟨b4, .t 45, p.enc⟩ :: (cc ++ F)))) → Hp w0 w (f2.mem fb mb sr sc (cc ++ F)) := fun H =>
            H.to fun q => by simp only [FS.mem, List.map_append, List.map_cons, List.map_nil, List.sum_append, List.sum_cons, List.sum_nil]; omega
          refine look_round (i := 0) (c := p.con) hi2 (by omega) (by omega) h7.tr rfl (by decide) H m7 hsp ?_ ?_
          · intro v hv w' H'
            refine fin _ _ _ (f1.put p.con (now + f1.life, v.2)) w' cc ?_ (by rw [show (f1.put p.con (now + f1.life, v.2)).counts = f.counts from hcE]; exact hc) (drop H')
            rw [e0, hv, hlE]
          · intro hv w H
            rw [F20_l1_succ]
            unfold F20_b1
            refine lss_y (by decide) ?_
            (try simp only [W0])
            refine look_round (i := 1) (c := turned p.con) hi2 (by omega) (by omega) h7.tr rfl (by decide) H m7 hsp ?_ ?_
            · intro v hv2 w' H'
              refine fin _ _ _ (f1.put (turned p.con) (now + f1.life, v.2)) w' cc ?_ (by rw [show (f1.put (turned p.con) (now + f1.life, v.2)).counts = f.counts from hcE]; exact hc) (drop H')
              rw [e0, hv]; simp only [hv2, hlE]
            · intro hv2 w H
              rw [F20_l1_succ]
              unfold F20_b1
              refine lss_n (by decide) ?_
              (try simp only [W0])
              have hrE : f1.rules = f.rules := by rw [← hf1]; rfl
              refine rule_walk (f := f1) (cc := cc) hi2 hn hp (by omega) (by omega) (by rw [hrE]; exact hr) hm (by rw [hcE]; exact hc) (by rw [hrE, hlE]; exact hmk) H.right fun w' cc' h1 h2 => ?_
              have e1 : f.decide p now = f1.rule p now := by rw [e0, hv]; simp only [hv2]
              exact fin _ _ _ (f1.rule p now).2 w' cc' e1 h1 h2
end
end Go.Proofs.Ytmmbepdghpjgeaa.Den
end

section
set_option linter.unusedVariables false
set_option linter.unusedSimpArgs false
set_option maxRecDepth 8000
set_option maxHeartbeats 1000000
namespace Go.Proofs.Ytmmbepdghpjgeaa.Den
open Go Go.RowKit
/-- The action about a packet, without states. -/
def act0 (l : List Rul) (p : Pkt) : Int := if deciding l p < 0 then 1 else (l.getD (deciding l p).toNat rul0).act
def dec0 (l : List Rul) (p : Pkt) : Int × Bool := if newErr l 1 1 ≠ 0 ∨ p.check ≠ 0 then (0, false) else (act0 l p, true)
theorem decFrom_start (p : Pkt) (b : Bool) : ∀ (l : List Rul) (i : Nat) (last : Int), decFrom { p with start := b } l i last = decFrom p l i last
  | [], i, last => rfl
  | r :: l, i, last => by
    unfold decFrom
    rw [decFrom_start p b l (i + 1) last, decFrom_start p b l (i + 1) (i : Int)]
    rfl
theorem deciding_start (p : Pkt) (b : Bool) (l : List Rul) : deciding l { p with start := b } = deciding l p := decFrom_start p b l 0 (-2)
def nokeep (l : List Rul) (p : Pkt) : Prop := ∀ r ∈ l, r.keep = true → p.start = false
theorem FS.rule_plain {f : FS} {p : Pkt} {now : Int} (hk : nokeep f.rules p) : (f.rule p now).1 = (if deciding f.rules p < 0 then 1 else (f.rules.getD (deciding f.rules p).toNat rul0).act, deciding f.rules p, 0) ∧
    (f.rule p now).2.ents = f.ents ∧ (f.rule p now).2.rules = f.rules ∧ (f.rule p now).2.clock = f.clock ∧ (f.rule p now).2.life = f.life ∧ (f.rule p now).2.mck = f.mck ∧ (f.rule p now).2.made = f.made ∧ (f.rule p now).2.limit = f.limit ∧
    ((f.rule p now).2.counts = f.counts ∨ ∃ i, (f.rule p now).2.counts = f.counts.set i (f.counts.getD i 0 + 1)) := by
  unfold FS.rule
  simp only
  split
  · rename_i h
    exact ⟨rfl, rfl, rfl, rfl, rfl, rfl, rfl, rfl, .inl rfl⟩
  · rename_i h
    rcases deciding_lt (l := f.rules) (p := p) with h1 | ⟨h1, h2, r, hx, hfit⟩
    · omega
    rw [hx]
    have hg : f.rules.getD (deciding f.rules p).toNat rul0 = r := by rw [List.getD_eq_getElem?_getD, hx]; rfl
    have hno : (r.keep && p.start) = false := by
      cases hkr : r.keep with
      | false => rfl
      | true => rw [hk r (List.mem_of_getElem? hx) hkr]; rfl
    simp only [hno, hg, Bool.false_eq_true, if_false]
    exact ⟨(by first | rfl | trivial), (by first | rfl | trivial), (by first | rfl | trivial), (by first | rfl | trivial), (by first | rfl | trivial), (by first | rfl | trivial), (by first | rfl | trivial), (by first | rfl | trivial), .inr ⟨_, rfl⟩⟩
theorem FS.decide_plain {f : FS} {p : Pkt} {now : Int} (he : f.ents = []) (h0 : 0 ≤ now) (h1 : now ≤ 1099511627776) (hc : f.clock ≤ now) (hk : nokeep f.rules p) :
    (f.decide p now).1 = (if p.check ≠ 0 then (0, 0, p.check) else (act0 f.rules p, deciding f.rules p, 0)) ∧
    (f.decide p now).2.ents = [] ∧ (f.decide p now).2.rules = f.rules ∧ (f.decide p now).2.clock ≤ now ∧ (f.decide p now).2.life = f.life ∧ (f.decide p now).2.mck = f.mck ∧ (f.decide p now).2.made = f.made ∧ (f.decide p now).2.limit = f.limit ∧
    ((f.decide p now).2.counts = f.counts ∨ ∃ i, (f.decide p now).2.counts = f.counts.set i (f.counts.getD i 0 + 1)) := by
  unfold FS.decide
  split
  · rename_i h
    exact ⟨rfl, he, rfl, hc, rfl, rfl, rfl, rfl, .inl rfl⟩
  · rename_i h
    rw [if_neg (by omega), if_neg (by omega)]
    have e1 : (f.expire now).ents = [] := by unfold FS.expire; simp only [he]; rfl
    rw [e1]
    show ((f.expire now).rule p now).1 = _ ∧ _
    obtain ⟨g1, g2, g3, g4, g5, g6, g7, g8, g9⟩ := FS.rule_plain (f := f.expire now) (now := now) hk
    exact ⟨g1, g2.trans e1, g3, by show ((f.expire now).rule p now).2.clock ≤ now; rw [g4]; exact Int.le_refl _, g5, g6, g7, g8, g9⟩
theorem FS.Inv.plain {n : Nat} {f : FS} {p : Pkt} {now : Int} (hi : f.Inv n) (he : f.ents = []) (h0 : 0 ≤ now) (h1 : now ≤ 1099511627776) (hc : f.clock ≤ now) (hk : nokeep f.rules p) : (f.decide p now).2.Inv (n + 1) := by
  obtain ⟨_, g2, g3, _, g5, g6, g7, g8, g9⟩ := FS.decide_plain he h0 h1 hc hk
  refine ⟨by rw [g5]; exact hi.l1, by rw [g5]; exact hi.l2, by rw [g2, g6]; exact ⟨by simp [mkeys], by simp, by simp⟩, ?_, ?_, by rw [g3]; exact hi.rok, by rw [g3]; exact hi.rl, by rw [g7]; exact hi.m1, by rw [g7]; have := hi.m2; omega⟩
  · rw [g3]; rcases g9 with g | ⟨i, g⟩ <;> rw [g]
    · exact hi.cl
    · rw [List.length_set]; exact hi.cl
  · intro c hc'
    rcases g9 with g | ⟨i, g⟩ <;> rw [g] at hc'
    · have := hi.cb c hc'; omega
    · rcases List.mem_or_eq_of_mem_set hc' with h | h
      · have := hi.cb c h; omega
      · subst h
        rw [List.getD_eq_getElem?_getD]
        cases hx : f.counts[i]? with
        | none => simp; omega
        | some x => have := hi.cb x (List.mem_of_getElem? hx); simp only [Option.getD_some]; omega
theorem newFS_inv {l : List Rul} {limit life : Int} (hok : ∀ r ∈ l, r.Ok) (he : newErr l limit life = 0) : (⟨l, List.replicate l.length 0, limit, life, [], 0, 0, 0⟩ : FS).Inv 0 := by
  unfold newErr at he
  split at he
  · rename_i h; exact absurd he h
  rename_i h0
  split at he
  · cases he
  rename_i h1
  simp only [Bool.or_eq_true, Bool.not_eq_true', decide_eq_true_eq, not_or, Bool.not_eq_false] at h1
  obtain ⟨⟨h1, h2⟩, h3⟩ := h1
  have h0' : checkAll l = 0 := Decidable.not_not.1 h0
  unfold checkAll at h0'
  split at h0'
  · cases h0'
  rename_i hlen
  have hall : ∀ (l : List Rul), firstBad l = 0 → ∀ r ∈ l, r.check = 0 := by
    intro l
    induction l with
    | nil => intro _ r hr; cases hr
    | cons a l ih =>
      intro h r hr
      unfold firstBad at h
      split at h
      · rename_i hne; exact absurd h hne
      · rename_i hne
        rcases List.mem_cons.1 hr with rfl | hr
        · exact Decidable.not_not.1 hne
        · exact ih h r hr
  refine ⟨by simp only; omega, by simp only; omega, ⟨by simp [mkeys], by simp, by simp⟩, by simp, ?_, fun r hr => ⟨hok r hr, hall l h0' r hr⟩, by simp only; omega, by simp, by simp⟩
  intro c hc
  have := List.eq_of_mem_replicate hc
  omega
section
variable {w w' w0 : World} {L L' F cs A X Y cc cr : List Chunk} {s sr sc : Value} {K : VK} {R : ER} {b i j fb mb n : Nat} {f : FS} {p : Pkt} {now : Int}
theorem decide39_spec {l : List Rul} (hl : TR cRul w0 cs s l) (hok : ∀ r ∈ l, r.Ok) (hp : p.Ok) (hn : l.length < 2 ^ 63) (H : Hp w0 w L) (m1 : ∀ c ∈ cs, c ∈ L) :
    Calls Pg 14 ⟨[s, .agg ⟨p.enc⟩]⟩ w fun e w' => e = .returned (.tuple ⟨[I (dec0 l p).1, .bool (dec0 l p).2]⟩) ∧ Hp w0 w' L := by
  apply F14_calls
  unfold F14
  refine bx_m H fun w b1 H => ?_
  by_cases he : newErr l 1 1 = 0
  · refine cal_h (new_ok (limit := 1) (life := 1) hl hok H (fun c hc => List.mem_cons_of_mem _ (m1 c hc)) he hn) ?_
    rintro _ w ⟨fb, mb, sr, sc, cr, cc, rfl, h2, h3, H⟩
    (try simp only [W0])
    refine neq_n (by decide) ?_
    (try simp only [W0])
    unfold F14_j1
    (try simp only [W0])
    refine st_m H (L' := ⟨fb, .t 117, [sr, sc, I 1, I 1, .map (some mb), I 0, I 0]⟩ :: ⟨mb, .o (mobj kC vE [] 0), []⟩ :: (cc ++ (cr ++ (⟨b1, .t 45, ({ p with start := false } : Pkt).enc⟩ :: L)))) (Upd.cons (Upd.cons (Upd.app (Upd.app Upd.here)))) (by exact Nat.lt_of_lt_of_le (Nat.lt_succ_self 7) (Nat.le_refl _)) rfl fun w H => ?_
    refine ldA_m (l := ({ p with start := false } : Pkt).enc) H (by exact has) rfl ?_
    refine cal_h (decide_spec (f := ⟨l, List.replicate l.length 0, 1, 1, [], 0, 0, 0⟩) (p := { p with start := false }) (now := 0) (F := cr ++ (⟨b1, .t 45, ({ p with start := false } : Pkt).enc⟩ :: L)) (newFS_inv hok he) (by decide) hp h2.tr (fun c hc => List.mem_append_left _ hc) h3
      (by intro r _ _ h; cases h) H) ?_
    rintro _ w ⟨cc', rfl, h4, H⟩
    have hd := (FS.decide_plain (f := ⟨l, List.replicate l.length 0, 1, 1, [], 0, 0, 0⟩) (p := { p with start := false }) (now := 0) rfl (by decide) (by decide) (Int.le_refl 0) (fun r _ _ => rfl)).1
    rw [hd]
    have hck : ({ p with start := false } : Pkt).check = p.check := rfl
    rw [hck]
    have H' : Hp w0 w L := H.tail.tail.right.right.tail
    by_cases hpc : p.check = 0
    · rw [if_neg (by simp [hpc])]
      (try simp only [W0])
      refine eql_y (by decide) ?_
      (try simp only [W0])
      refine ⟨?_, H'⟩
      have : dec0 l p = (act0 l p, true) := by unfold dec0; rw [if_neg (by simp [he, hpc])]
      rw [this]
      have : act0 l { p with start := false } = act0 l p := by unfold act0; rw [deciding_start]
      rw [this]
    · rw [if_pos hpc]
      (try simp only [W0])
      refine eql_n hpc ?_
      (try simp only [W0])
      refine ⟨?_, H'⟩
      have : dec0 l p = (0, false) := by unfold dec0; rw [if_pos (.inr hpc)]
      rw [this]
  · refine cal_h (new_err (limit := 1) (life := 1) hl hok hn H (fun c hc => List.mem_cons_of_mem _ (m1 c hc)) he) ?_
    rintro _ w ⟨rfl, H⟩
    (try simp only [W0])
    refine neq_y he ?_
    (try simp only [W0])
    refine ⟨?_, H.tail⟩
    have : dec0 l p = (0, false) := by unfold dec0; rw [if_pos (.inl he)]
    rw [this]
end
end Go.Proofs.Ytmmbepdghpjgeaa.Den
end

section
set_option linter.unusedVariables false
set_option linter.unusedSimpArgs false
set_option maxRecDepth 8000
set_option maxHeartbeats 1000000
namespace Go.Proofs.Ytmmbepdghpjgeaa.Den
open Go Go.RowKit
def actF (p : Pkt) : List Rul → Int → Int
  | [], a => a
  | r :: l, a => if !r.fits p then actF p l a else if r.quick then r.act else actF p l r.act
theorem actF_dec (p : Pkt) : ∀ (l pre : List Rul) (last : Int), (if decFrom p l pre.length last < 0 then 1 else ((pre ++ l).getD (decFrom p l pre.length last).toNat rul0).act) = actF p l (if last < 0 then 1 else ((pre ++ l).getD last.toNat rul0).act)
  | [], pre, last => rfl
  | r :: l, pre, last => by
    have hr : ((pre ++ r :: l).getD ((pre.length : Int)).toNat rul0) = r := by
      rw [Int.toNat_natCast, List.getD_eq_getElem?_getD, List.getElem?_append_right (Nat.le_refl _), Nat.sub_self]; rfl
    have e : pre ++ r :: l = (pre ++ [r]) ++ l := by simp
    unfold decFrom actF
    have ih1 := actF_dec p l (pre ++ [r]) (pre.length : Int)
    rw [List.length_append, List.length_singleton, ← e, hr] at ih1
    simp only [show ¬ (pre.length : Int) < 0 from by omega, if_false] at ih1
    have ih2 := actF_dec p l (pre ++ [r]) last
    rw [List.length_append, List.length_singleton, ← e] at ih2
    cases hf : r.fits p with
    | false =>
      simp only [Bool.not_false, if_true]
      exact ih2
    | true =>
      simp only [Bool.not_true, Bool.false_eq_true, if_false]
      cases hq : r.quick with
      | true =>
        simp only [if_true, show ¬ (pre.length : Int) < 0 from by omega, if_false, hr]
      | false =>
        simp only [Bool.false_eq_true, if_false]
        exact ih1
theorem act0_eq (l : List Rul) (p : Pkt) : act0 l p = actF p l 1 := actF_dec p l [] (-2)
def q0 (b : Bool) (r : Rul) : Rul := { r with quick := b }
theorem actF_snoc (p : Pkt) : ∀ (l : List Rul) (r : Rul) (x : Int), (∀ r ∈ l, r.quick = false) → actF p (l ++ [r]) x = if r.fits p then r.act else actF p l x
  | [], r, x, _ => by
    simp only [List.nil_append, actF]
    cases r.fits p <;> cases r.quick <;> rfl
  | a :: l, r, x, h => by
    simp only [List.cons_append, actF]
    rw [actF_snoc p l r x (fun r hr => h r (by simp [hr])), actF_snoc p l r a.act (fun r hr => h r (by simp [hr])), h a (by simp)]
    cases a.fits p <;> cases r.fits p <;> rfl
theorem actF_rev (p : Pkt) (x : Int) : ∀ m : List Rul, actF p (m.reverse.map (q0 false)) x = actF p (m.map (q0 true)) x
  | [] => rfl
  | r :: m => by
    rw [List.reverse_cons, List.map_append, List.map_cons, List.map_nil, actF_snoc p _ _ _ (by intro r hr; obtain ⟨a, _, rfl⟩ := List.mem_map.1 hr; rfl), actF_rev p x m]
    show (if r.fits p = true then r.act else _) = (if (!r.fits p) = true then _ else if true = true then r.act else _)
    cases r.fits p <;> rfl
theorem reversed_act (l : List Rul) (p : Pkt) : act0 (l.map (q0 false)) p = act0 (l.map (q0 true)).reverse p := by
  rw [act0_eq, act0_eq]
  have := actF_rev p 1 l.reverse
  rw [List.reverse_reverse, List.map_reverse] at this
  exact this
theorem firstBad_iff : ∀ l : List Rul, firstBad l = 0 ↔ ∀ r ∈ l, r.check = 0
  | [] => by simp [firstBad]
  | r :: l => by
    unfold firstBad
    by_cases h : r.check = 0
    · rw [if_neg (by simp [h]), firstBad_iff l]
      simp [h]
    · rw [if_pos h]
      simp [h]
theorem newErr_one {l : List Rul} : newErr l 1 1 = 0 ↔ l.length ≤ 200 ∧ ∀ r ∈ l, r.check = 0 := by
  have hi : inn 1 1 100 = true := by decide
  unfold newErr checkAll
  by_cases h : 200 < l.length
  · rw [if_pos h, if_pos (by decide)]
    constructor
    · intro h; cases h
    · intro h; omega
  · rw [if_neg h]
    by_cases h2 : firstBad l = 0
    · rw [if_neg (by simp [h2]), if_neg (by rw [hi]; decide)]
      simp only [true_iff]
      exact ⟨by omega, (firstBad_iff l).1 h2⟩
    · rw [if_pos h2]
      constructor
      · intro h3; exact absurd h3 h2
      · intro h3; exact absurd ((firstBad_iff l).2 h3.2) h2
theorem any_ok (a : Int) : (anyRul a).Ok := by unfold Rul.Ok Pat.Ok anyRul; simp only; omega
theorem any_check {a : Int} (h : a = 1 ∨ a = 2) : (anyRul a).check = 0 := by rcases h with rfl | rfl <;> decide
theorem any_fits {p : Pkt} {a : Int} (hp : p.Ok) (hc : p.check = 0) : (anyRul a).fits p = true := by
  unfold Pkt.check at hc
  split at hc
  · cases hc
  rename_i h1
  split at hc
  · cases hc
  rename_i h2
  simp only [Bool.not_eq_true', Bool.not_eq_false, Bool.or_eq_true, not_or] at h1 h2
  obtain ⟨⟨⟨h2, h3⟩, h4⟩, h5⟩ := h2
  obtain ⟨⟨p1, p2⟩, p3, p4⟩ := hp
  have hz : ∀ x : Int, 0 ≤ x → x < 4294967296 → (⟨0, 0, false⟩ : Pat).has x = true := by
    intro x hx1 hx2
    unfold Pat.has
    have e : (2 ^ (min (32 - (0 : Int)).toNat 64) : Int) = 4294967296 := by decide
    simp only [e]
    have : x.fdiv 4294967296 = 0 := by
      rw [Int.fdiv_eq_ediv_of_nonneg _ (by decide)]; exact Int.ediv_eq_zero_of_lt hx1 hx2
    rw [this]; decide
  have hd : dirMeet 3 p.dir = true := by
    unfold inn at h1
    simp only [Bool.and_eq_true, decide_eq_true_eq] at h1
    have : p.dir = 1 ∨ p.dir = 2 := by omega
    rcases this with h | h <;> rw [h] <;> decide
  unfold Rul.fits anyRul Rng.has
  simp only [hd, hz _ p1 p2, hz _ p3 p4, h4, h5]
  simp
section
variable {w w' w0 : World} {L L' F cs A X Y cc cr : List Chunk} {s sr sc : Value} {K : VK} {R : ER} {b i j fb mb n : Nat}
theorem any39_spec {a : Int} (H : Hp w0 w L) : Calls Pg 17 ⟨[I a]⟩ w fun e w' => e = .returned (.agg ⟨(anyRul a).enc⟩) ∧ Hp w0 w' L := by
  apply F17_calls
  unfold F17
  refine al_m (ys := rul0.enc) H (by kernel_rfl) fun w b H => ?_
  refine bld_a ?_
  refine bld_a ?_
  refine bld_a ?_
  refine stA_m (vs := (anyRul a).enc) H updd rfl rfl (Rul.enc_sc _) fun w H => ?_
  refine ldA_m (l := (anyRul a).enc) H has rfl ?_
  exact ⟨rfl, H.tail⟩
theorem rev_spec {xs : List Rul} (h : TS cRul 29 s xs cs) (H : Hp w0 w (cs ++ F)) (hl : xs.length < 2 ^ 60) :
    Calls Pg 21 ⟨[s]⟩ w fun e w' => ∃ cs', e = .returned (.tuple ⟨[]⟩) ∧ Hp w0 w' (cs' ++ F) ∧ TS cRul 29 s xs.reverse cs' := by
  apply F21_calls
  unfold F21
  refine pv_of (lenS_ts h) ?_
  refine sub_k (by omega) (by omega) rfl ?_
  unfold F21_j1
  refine loop3 (F21_l1_succ _) (fun m x0 x2 x3 w => ∃ (i : Nat) (ys : List Rul) (cs : List Chunk), s = x0 ∧ x2 = I (i : Int) ∧ x3 = I ((xs.length : Int) - 1 - i) ∧ m + i = xs.length + 1 ∧ i ≤ xs.length ∧ ys.length = xs.length ∧ 2 * i ≤ xs.length + 1 ∧
    (∀ t, t < xs.length → ys[t]? = if t < i ∨ xs.length - 1 - t < i then xs[xs.length - 1 - t]? else xs[t]?) ∧ TS cRul 29 s ys cs ∧ Hp w0 w (cs ++ F)) ?_ (m := xs.length + 1) ⟨0, xs, cs, rfl, rfl, by simp, rfl, Nat.zero_le _, rfl, by omega, fun t ht => by rw [if_neg (by omega)], h, H⟩
  clear H h
  rintro m k _ _ _ w ⟨i, ys, cs, rfl, rfl, rfl, hm, hi, hyl, h2i, hys, h, H⟩ hk
  unfold F21_b1
  refine lss_k (fun hlt => ?_) (fun hlt => ?_)
  · (try simp only [W0])
    unfold F21_j2
    refine drew_k H fun w H => ?_
    have ej : ((xs.length : Int) - 1 - i) = ((xs.length - 1 - i : Nat) : Int) := by omega
    rw [ej]
    have hx1 : ys[xs.length - 1 - i]? = some (ys[xs.length - 1 - i]'(by omega)) := List.getElem?_eq_getElem _
    have hx2 : ys[i]? = some (ys[i]'(by omega)) := List.getElem?_eq_getElem _
    generalize ys[xs.length - 1 - i]'(by omega) = a at hx1
    generalize ys[i]'(by omega) = c at hx2
    refine ixN_t (C := cRul) h.tr H (fun c hc => List.mem_append_left _ hc) hx1 (by decide) ?_
    refine ixN_t (C := cRul) h.tr H (fun c hc => List.mem_append_left _ hc) hx2 (by decide) ?_
    (try simp only [W0])
    refine istN_t (C := cRul) (x := a) h H Split.here (by omega) fun w cs H h => ?_
    (try simp only [W0])
    refine istN_t (C := cRul) (x := c) h H Split.here (by rw [List.length_set]; omega) fun w cs H h => ?_
    refine add_k (z := ((i + 1 : Nat) : Int)) (by omega) (by omega) (by omega) ?_
    refine sub_k (z := (xs.length : Int) - 1 - ((i + 1 : Nat) : Int)) (by omega) (by omega) (by omega) ?_
    refine hk (m - 1) _ _ _ _ (by omega) ⟨i + 1, _, cs, rfl, rfl, rfl, by omega, by omega, by rw [List.length_set, List.length_set]; exact hyl, by omega, ?_, h, H⟩
    intro t ht
    rw [List.getElem?_set, List.getElem?_set]
    have hA := hys i (by omega)
    have hB := hys (xs.length - 1 - i) (by omega)
    rw [if_neg (by omega)] at hA hB
    rw [hx2] at hA
    rw [hx1] at hB
    by_cases h1 : xs.length - 1 - i = t
    · subst h1
      rw [if_pos rfl, if_pos (by rw [List.length_set]; omega), if_pos (by omega), hA]
      congr 1; omega
    · rw [if_neg h1]
      by_cases h2 : i = t
      · subst h2
        rw [if_pos rfl, if_pos (by omega), if_pos (by omega), hB]
      · rw [if_neg h2, hys t ht]
        by_cases h3 : t < i ∨ xs.length - 1 - t < i
        · rw [if_pos h3, if_pos (by omega)]
        · rw [if_neg h3, if_neg (by omega)]
  · (try simp only [W0])
    refine ⟨cs, (by first | rfl | trivial), H, ?_⟩
    have : ys = xs.reverse := by
      apply List.ext_getElem?
      intro t
      by_cases ht : t < xs.length
      · rw [hys t ht, List.getElem?_reverse ht]
        split
        · rfl
        · congr 1; omega
      · rw [List.getElem?_eq_none (by omega), List.getElem?_eq_none (by rw [List.length_reverse]; omega)]
    rw [← this]; exact h
end
end Go.Proofs.Ytmmbepdghpjgeaa.Den
end

section
set_option linter.unusedVariables false
set_option linter.unusedSimpArgs false
set_option maxRecDepth 8000
set_option maxHeartbeats 1000000
namespace Go.Proofs.Ytmmbepdghpjgeaa.Den
open Go Go.RowKit
theorem behind_eq {p : Pat} (hp : p.Ok) (h0 : 0 ≤ p.bits) (h32 : p.bits ≤ 32) : p.behind = decide (¬ (p.adr * 2 ^ p.bits.toNat) % 4294967296 = 0) := by
  obtain ⟨p1, p2⟩ := hp
  obtain ⟨a, ha⟩ : ∃ a : Nat, p.adr = (a : Int) := ⟨p.adr.toNat, by omega⟩
  have hk : p.bits.toNat ≤ 32 := by omega
  unfold Pat.behind
  rw [Nat.min_eq_left (by omega), ha]
  generalize p.bits.toNat = k at hk
  have h2 : 2 ^ k ≤ 2 ^ 32 := Nat.pow_le_pow_right (by decide) hk
  have hlt : a * 2 ^ k < 18446744073709551616 := by
    have : a * 2 ^ k ≤ a * 2 ^ 32 := Nat.mul_le_mul_left _ h2
    omega
  have e1 : (a : Int) * 2 ^ k = ((a * 2 ^ k : Nat) : Int) := by push_cast; rfl
  rw [e1, wrapu64_id (a := ((a * 2 ^ k : Nat) : Int)) (by omega) (by omega)]
  generalize a * 2 ^ k = n at *
  have e2 : (BitVec.ofInt 64 (n : Int) &&& BitVec.ofInt 64 4294967295).toNat = n % 4294967296 := by
    rw [BitVec.toNat_and]
    have : BitVec.ofInt 64 (4294967295 : Int) = BitVec.ofNat 64 4294967295 := by decide
    rw [this, BitVec.ofInt_natCast, BitVec.toNat_ofNat, BitVec.toNat_ofNat, Nat.mod_eq_of_lt hlt]
    exact Nat.and_two_pow_sub_one_eq_mod n 32
  rw [e2, wrapu64_id (by omega) (by omega)]
  exact decide_eq_decide.2 (by omega)
theorem dir_eq {a b : Int} (ha : a = 1 ∨ a = 2 ∨ a = 3) (hb : b = 1 ∨ b = 2) : dirMeet a b = (decide (a = 3) || decide (a = b)) := by
  rcases ha with rfl | rfl | rfl <;> rcases hb with rfl | rfl <;> decide
theorem shl32_n {k : IntKind} {a n : Int} (h : 0 ≤ n) : bin .shl (.int .u32 a) (.int k n) = some (.int .u32 (IntKind.u32.wrap (a * 2 ^ (min n.toNat 32)))) := by
  show (if n < 0 then none else some (Value.int .u32 (IntKind.u32.wrap (a * 2 ^ (min n.toNat IntKind.u32.bits))))) = _
  rw [if_neg (by omega)]; rfl
theorem shr32_n {k : IntKind} {a n : Int} (h : 0 ≤ n) : bin .shr (.int .u32 a) (.int k n) = some (.int .u32 (a.fdiv (2 ^ (min n.toNat 32)))) := by
  show (if n < 0 then none else some (Value.int .u32 (a.fdiv (2 ^ (min n.toNat IntKind.u32.bits))))) = _
  rw [if_neg (by omega)]; rfl
section
variable {w w' w0 : World} {L L' F cs A X Y : List Chunk} {s : Value} {K : VK} {R : ER} {b i j : Nat}
theorem gwithin_spec {n lo hi : Int} (H : Hp w0 w L) : Calls Pg 77 ⟨[I n, I lo, I hi]⟩ w fun e w' => e = .returned (.bool (inn n lo hi)) ∧ Hp w0 w' L := by
  apply F77_calls
  unfold F77
  refine geq_k (fun h => ?_) (fun h => ?_)
  · (try simp only [W0])
    refine leq_k (fun h2 => ?_) (fun h2 => ?_)
    · (try simp only [W0]); exact ⟨by rw [inn, decide_eq_true h, decide_eq_true h2]; rfl, H⟩
    · (try simp only [W0]); exact ⟨by rw [inn, decide_eq_true h, decide_eq_false h2]; rfl, H⟩
  · (try simp only [W0]); exact ⟨by rw [inn, decide_eq_false h]; rfl, H⟩
theorem gvalid_spec {r : Rng} (H : Hp w0 w L) : Calls Pg 78 ⟨[.agg ⟨r.enc⟩]⟩ w fun e w' => e = .returned (.bool r.valid) ∧ Hp w0 w' L := by
  apply F78_calls
  unfold F78 Rng.enc
  refine bx_m H fun w b H => ?_
  simp only [W0]
  refine ld_a ?_
  refine geq_k (fun h => ?_) (fun h => ?_)
  · (try simp only [W0])
    refine ld_a ?_
    (try simp only [W0])
    refine ld_a ?_
    (try simp only [W0])
    refine leq_k (fun h2 => ?_) (fun h2 => ?_)
    · (try simp only [W0])
      refine ld_a ?_
      (try simp only [W0])
      refine leq_k (fun h3 => ?_) (fun h3 => ?_)
      · (try simp only [W0]); exact ⟨by rw [Rng.valid, decide_eq_true h, decide_eq_true h2, decide_eq_true h3]; rfl, H.tail⟩
      · (try simp only [W0]); exact ⟨by rw [Rng.valid, decide_eq_true h, decide_eq_true h2, decide_eq_false h3]; rfl, H.tail⟩
    · (try simp only [W0]); exact ⟨by rw [Rng.valid, decide_eq_true h, decide_eq_false h2]; rfl, H.tail⟩
  · (try simp only [W0]); exact ⟨by rw [Rng.valid, decide_eq_false h]; rfl, H.tail⟩
theorem gclean_spec {p : Pat} (hp : p.Ok) (h0 : 0 ≤ p.bits) (h32 : p.bits ≤ 32) (H : Hp w0 w L) : Calls Pg 79 ⟨[.agg ⟨p.enc⟩]⟩ w fun e w' => e = .returned (.bool (!p.behind)) ∧ Hp w0 w' L := by
  rw [behind_eq hp h0 h32]
  obtain ⟨p1, p2⟩ := hp
  apply F79_calls
  unfold F79 Pat.enc
  refine bx_m H fun w b H => ?_
  simp only [W0]
  refine ld_a ?_
  refine eql_k (fun h => ?_) (fun h => ?_)
  · (try simp only [W0])
    refine ⟨?_, H.tail⟩
    have : p.adr * 2 ^ p.bits.toNat % 4294967296 = 0 := by
      rw [h]; exact Int.mul_emod_left _ _
    rw [decide_eq_false (by simp [this])]; rfl
  · (try simp only [W0])
    refine ld_a ?_
    (try simp only [W0])
    refine ld_a ?_
    (try simp only [W0])
    rw [wrapu64_id h0 (by omega)]
    refine pv_of (shl32_n h0) ?_
    (try simp only [W0])
    rw [bin_eql]
    (try simp only [W0])
    refine ⟨?_, H.tail⟩
    have e1 : (2 ^ IntKind.u32.bits : Int) = 4294967296 := by decide
    have : IntKind.u32.wrap (p.adr * 2 ^ min p.bits.toNat 32) = p.adr * 2 ^ p.bits.toNat % 4294967296 := by
      rw [Nat.min_eq_left (by omega)]
      simp only [IntKind.wrap, e1, IntKind.signed, Bool.false_and, Bool.false_eq_true, if_false]
    rw [this]; simp
theorem gcheck_spec {r : Rul} (hr : r.Ok) (H : Hp w0 w L) : Calls Pg 57 ⟨[.agg ⟨r.enc⟩]⟩ w fun e w' => e = .returned (I r.check) ∧ Hp w0 w' L := by
  apply F57_calls
  unfold F57 Rul.enc
  refine bx_m H fun w b H => ?_
  have fin : ∀ (n : Int) (w : World), r.check = n → Hp w0 w (⟨b, .t 38, [I r.act, .bool r.quick, .bool r.keep, I r.dir, I r.ifc, I r.proto, U32 r.src.adr, I r.src.bits, .bool r.src.no, U32 r.dst.adr, I r.dst.bits, .bool r.dst.no, I r.fr.low, I r.fr.high, I r.to.low, I r.to.high]⟩ :: L) →
      (Ending.returned (I n) = .returned (I r.check) ∧ Hp w0 w L) := fun n w h H => ⟨by rw [h], H.tail⟩
  simp only [W0]
  refine ld_a ?_
  refine cal_h (gwithin_spec H) ?_
  rintro _ w ⟨rfl, H⟩
  cases c1 : inn r.act 1 2 with
  | false => simp only [W0]; exact fin _ w (by unfold Rul.check; simp_all) H
  | true =>
  simp only [W0]
  refine ld_a ?_
  refine cal_h (gwithin_spec H) ?_
  rintro _ w ⟨rfl, H⟩
  cases c2 : inn r.dir 1 3 with
  | false => simp only [W0]; exact fin _ w (by unfold Rul.check; simp_all) H
  | true =>
  simp only [W0]
  unfold F57_j1 F57_j3
  simp only [W0]
  refine ld_a ?_
  refine cal_h (gwithin_spec H) ?_
  rintro _ w ⟨rfl, H⟩
  cases c3 : inn r.ifc (-1) 255 with
  | false => simp only [W0]; exact fin _ w (by unfold Rul.check; simp_all) H
  | true =>
  simp only [W0]
  refine ld_a ?_
  refine cal_h (gwithin_spec H) ?_
  rintro _ w ⟨rfl, H⟩
  cases c4 : inn r.proto (-1) 255 with
  | false => simp only [W0]; exact fin _ w (by unfold Rul.check; simp_all) H
  | true =>
  simp only [W0]
  refine ld_a ?_
  refine cal_h (gwithin_spec H) ?_
  rintro _ w ⟨rfl, H⟩
  cases c5 : inn r.src.bits 0 32 with
  | false => simp only [W0]; exact fin _ w (by unfold Rul.check; simp_all) H
  | true =>
  simp only [W0]
  refine ld_a ?_
  refine cal_h (gwithin_spec H) ?_
  rintro _ w ⟨rfl, H⟩
  cases c6 : inn r.dst.bits 0 32 with
  | false => simp only [W0]; exact fin _ w (by unfold Rul.check; simp_all) H
  | true =>
  simp only [W0]
  refine ldP_m (ys := r.fr.enc) H has (Nat.le_of_ble_eq_true rfl) rfl ?_
  (try simp only [W0])
  refine cal_h (gvalid_spec (r := r.fr) H) ?_
  rintro _ w ⟨rfl, H⟩
  cases c7 : r.fr.valid with
  | false => simp only [W0]; exact fin _ w (by unfold Rul.check; simp_all) H
  | true =>
  simp only [W0]
  refine ldP_m (ys := r.to.enc) H has (Nat.le_of_ble_eq_true rfl) rfl ?_
  (try simp only [W0])
  refine cal_h (gvalid_spec (r := r.to) H) ?_
  rintro _ w ⟨rfl, H⟩
  cases c8 : r.to.valid with
  | false => simp only [W0]; exact fin _ w (by unfold Rul.check; simp_all) H
  | true =>
  simp only [W0]
  have hb5 : 0 ≤ r.src.bits ∧ r.src.bits ≤ 32 := by unfold inn at c5; simp at c5; exact c5
  have hb6 : 0 ≤ r.dst.bits ∧ r.dst.bits ≤ 32 := by unfold inn at c6; simp at c6; exact c6
  unfold F57_j2
  (try simp only [W0])
  refine ldP_m (ys := r.src.enc) H has (Nat.le_of_ble_eq_true rfl) rfl ?_
  (try simp only [W0])
  refine cal_h (gclean_spec hr.1 hb5.1 hb5.2 H) ?_
  rintro _ w ⟨rfl, H⟩
  cases c9 : r.src.behind with
  | true => simp only [W0]; exact fin _ w (by unfold Rul.check; simp_all) H
  | false =>
  simp only [W0]
  refine ldP_m (ys := r.dst.enc) H has (Nat.le_of_ble_eq_true rfl) rfl ?_
  (try simp only [W0])
  refine cal_h (gclean_spec hr.2 hb6.1 hb6.2 H) ?_
  rintro _ w ⟨rfl, H⟩
  cases c10 : r.dst.behind with
  | true => simp only [W0]; exact fin _ w (by unfold Rul.check; simp_all) H
  | false =>
  simp only [W0]
  refine ld_a ?_
  cases c11 : r.keep with
  | false => simp only [W0]; exact fin _ w (by unfold Rul.check; simp_all) H
  | true =>
  simp only [W0]
  rw [c11] at H fin
  refine ld_a ?_
  refine eql_k (fun h => ?_) (fun h => ?_)
  · (try simp only [W0]); exact fin _ w (by unfold Rul.check; simp_all) H
  · (try simp only [W0]); exact fin _ w (by unfold Rul.check; simp_all) H
theorem gpcheck_spec {p : Pkt} (H : Hp w0 w L) : Calls Pg 58 ⟨[.agg ⟨p.enc⟩]⟩ w fun e w' => e = .returned (I p.check) ∧ Hp w0 w' L := by
  apply F58_calls
  unfold F58 Pkt.enc
  refine bx_m H fun w b H => ?_
  have fin : ∀ (n : Int) (w : World), p.check = n → Hp w0 w (⟨b, .t 67, [I p.dir, I p.ifc, U32 p.src, U32 p.dst, I p.proto, I p.fr, I p.to, .bool p.start]⟩ :: L) →
      (Ending.returned (I n) = .returned (I p.check) ∧ Hp w0 w L) := fun n w h H => ⟨by rw [h], H.tail⟩
  simp only [W0]
  refine ld_a ?_
  refine cal_h (gwithin_spec H) ?_
  rintro _ w ⟨rfl, H⟩
  cases c1 : inn p.dir 1 2 with
  | false => simp only [W0]; exact fin _ w (by unfold Pkt.check; simp_all) H
  | true =>
  simp only [W0]
  unfold F58_j1
  simp only [W0]
  refine ld_a ?_
  refine cal_h (gwithin_spec H) ?_
  rintro _ w ⟨rfl, H⟩
  cases c2 : inn p.ifc 0 255 with
  | false => simp only [W0]; exact fin _ w (by unfold Pkt.check; simp_all) H
  | true =>
  simp only [W0]
  refine ld_a ?_
  refine cal_h (gwithin_spec H) ?_
  rintro _ w ⟨rfl, H⟩
  cases c3 : inn p.proto 0 255 with
  | false => simp only [W0]; exact fin _ w (by unfold Pkt.check; simp_all) H
  | true =>
  simp only [W0]
  refine ld_a ?_
  refine cal_h (gwithin_spec H) ?_
  rintro _ w ⟨rfl, H⟩
  cases c4 : inn p.fr 0 65535 with
  | false => simp only [W0]; exact fin _ w (by unfold Pkt.check; simp_all) H
  | true =>
  simp only [W0]
  refine ld_a ?_
  refine cal_h (gwithin_spec H) ?_
  rintro _ w ⟨rfl, H⟩
  cases c5 : inn p.to 0 65535 with
  | false => simp only [W0]; exact fin _ w (by unfold Pkt.check; simp_all) H
  | true =>
  simp only [W0]
  exact fin _ w (by unfold Pkt.check; simp_all) H
theorem gfits_spec {p : Pat} {a : Int} (hp : p.Ok) (h0 : 0 ≤ p.bits) (h32 : p.bits ≤ 32) (ha : 0 ≤ a) (ha2 : a < 4294967296) (H : Hp w0 w L) :
    Calls Pg 89 ⟨[U32 a, .agg ⟨p.enc⟩]⟩ w fun e w' => e = .returned (.bool (p.has a)) ∧ Hp w0 w' L := by
  obtain ⟨p1, p2⟩ := hp
  apply F89_calls
  unfold F89 Pat.enc
  refine bx_m H fun w b H => ?_
  simp only [W0]
  refine ld_a ?_
  refine eql_k (fun h => ?_) (fun h => ?_)
  · simp only [W0]
    refine ld_a ?_
    refine ⟨?_, H.tail⟩
    have hz : ∀ x : Int, 0 ≤ x → x < 4294967296 → x.fdiv (2 ^ (min (32 - p.bits).toNat 64)) = 0 := by
      intro x hx1 hx2
      rw [h]
      have e : (2 ^ (min (32 - (0 : Int)).toNat 64) : Int) = 4294967296 := by decide
      rw [e, Int.fdiv_eq_ediv_of_nonneg _ (by decide)]; exact Int.ediv_eq_zero_of_lt hx1 hx2
    unfold Pat.has
    rw [hz _ ha ha2, hz _ p1 p2]; rfl
  · simp only [W0]
    refine ld_a ?_
    (try simp only [W0])
    refine sub_k (by omega) (by omega) rfl ?_
    (try simp only [W0])
    rw [wrapu64_id (by omega) (by omega)]
    refine pv_of (shr32_n (by omega)) ?_
    (try simp only [W0])
    refine ld_a ?_
    (try simp only [W0])
    refine ld_a ?_
    (try simp only [W0])
    refine sub_k (by omega) (by omega) rfl ?_
    (try simp only [W0])
    rw [wrapu64_id (by omega) (by omega)]
    refine pv_of (shr32_n (by omega)) ?_
    (try simp only [W0])
    rw [bin_eql]
    (try simp only [W0])
    refine ld_a ?_
    refine ⟨?_, H.tail⟩
    unfold Pat.has
    rw [Nat.min_eq_left (by omega), Nat.min_eq_left (by omega)]
theorem check_dir {r : Rul} (h : r.check = 0) : r.dir = 1 ∨ r.dir = 2 ∨ r.dir = 3 := by
  unfold Rul.check at h
  split at h
  · cases h
  rename_i h1
  simp only [Bool.or_eq_true, Bool.not_eq_true', not_or, Bool.not_eq_false] at h1
  have := h1.2
  unfold inn at this
  simp only [Bool.and_eq_true, decide_eq_true_eq] at this
  omega
theorem check_act {r : Rul} (h : r.check = 0) : r.act = 1 ∨ r.act = 2 := by
  unfold Rul.check at h
  split at h
  · cases h
  rename_i h1
  simp only [Bool.or_eq_true, Bool.not_eq_true', not_or, Bool.not_eq_false] at h1
  have := h1.1
  unfold inn at this
  simp only [Bool.and_eq_true, decide_eq_true_eq] at this
  omega
theorem pcheck_dir {p : Pkt} (h : p.check = 0) : p.dir = 1 ∨ p.dir = 2 := by
  unfold Pkt.check at h
  split at h
  · cases h
  rename_i h1
  unfold inn at h1
  simp only [Bool.not_eq_true', Bool.not_eq_false, Bool.and_eq_true, decide_eq_true_eq] at h1
  omega
theorem gmatches_spec {r : Rul} {p : Pkt} (hr : r.Ok) (hp : p.Ok) (hc : r.check = 0) (hpc : p.check = 0) (H : Hp w0 w L) : Calls Pg 80 ⟨[.agg ⟨r.enc⟩, .agg ⟨p.enc⟩]⟩ w fun e w' => e = .returned (.bool (r.fits p)) ∧ Hp w0 w' L := by
  obtain ⟨hb1, hb2⟩ := check_bits hc
  have hdir := dir_eq (check_dir hc) (pcheck_dir hpc)
  apply F80_calls
  unfold F80
  refine bx_m H fun w b1 H => ?_
  refine bx_m H fun w b2 H => ?_
  refine ldA_m (l := r.enc) H has rfl ?_
  refine cal_h (gcheck_spec hr H) ?_
  rintro _ w ⟨rfl, H⟩
  (try simp only [W0])
  refine neq_n (by simpa using hc) ?_
  (try simp only [W0])
  refine ldA_m (l := p.enc) H has rfl ?_
  (try simp only [W0])
  refine cal_h (gpcheck_spec H) ?_
  rintro _ w ⟨rfl, H⟩
  (try simp only [W0])
  refine neq_n (by simpa using hpc) ?_
  (try simp only [W0])
  unfold F80_j1
  unfold Rul.enc Pkt.enc at H
  have fin : ∀ (v : Bool) (w : World), r.fits p = v → Hp w0 w (⟨b2, .t 67, [I p.dir, I p.ifc, U32 p.src, U32 p.dst, I p.proto, I p.fr, I p.to, .bool p.start]⟩ :: ⟨b1, .t 38, [I r.act, .bool r.quick, .bool r.keep, I r.dir, I r.ifc, I r.proto, U32 r.src.adr, I r.src.bits, .bool r.src.no, U32 r.dst.adr, I r.dst.bits, .bool r.dst.no, I r.fr.low, I r.fr.high, I r.to.low, I r.to.high]⟩ :: L) →
      (Ending.returned (.bool v) = .returned (.bool (r.fits p)) ∧ Hp w0 w L) := fun n w h H => ⟨by rw [h], H.tail.tail⟩
  (try simp only [W0])
  refine ld_a ?_
  refine or_step (b1 := b1) (b2 := b2) (o1 := 3) (o2 := 0) (x := r.dir) (y := p.dir) ?_ H has has rfl rfl
  rw [← hdir]
  cases c1 : dirMeet r.dir p.dir with
  | false => simp only [W0]; exact fin _ w (by unfold Rul.fits; simp_all) H
  | true =>
  simp only [W0]
  refine ld_a ?_
  refine or_step (b1 := b1) (b2 := b2) (o1 := 4) (o2 := 1) (x := r.ifc) (y := p.ifc) ?_ H has has rfl rfl
  cases c2 : (decide (r.ifc = -1) || decide (r.ifc = p.ifc)) with
  | false => simp only [W0]; exact fin _ w (by unfold Rul.fits; simp_all) H
  | true =>
  simp only [W0]
  refine ld_a ?_
  refine or_step (b1 := b1) (b2 := b2) (o1 := 5) (o2 := 4) (x := r.proto) (y := p.proto) ?_ H has has rfl rfl
  cases c3 : (decide (r.proto = -1) || decide (r.proto = p.proto)) with
  | false => simp only [W0]; exact fin _ w (by unfold Rul.fits; simp_all) H
  | true =>
  simp only [W0]
  refine ld_a ?_
  (try simp only [W0])
  refine ldP_m (ys := r.src.enc) H has (Nat.le_of_ble_eq_true rfl) rfl ?_
  (try simp only [W0])
  refine cal_h (gfits_spec hr.1 hb1.1 hb1.2 hp.1.1 hp.1.2 H) ?_
  rintro _ w ⟨rfl, H⟩
  cases c4 : r.src.has p.src with
  | false => simp only [W0]; exact fin _ w (by unfold Rul.fits; simp_all) H
  | true =>
  simp only [W0]
  refine ld_a ?_
  (try simp only [W0])
  refine ldP_m (ys := r.dst.enc) H has (Nat.le_of_ble_eq_true rfl) rfl ?_
  (try simp only [W0])
  refine cal_h (gfits_spec hr.2 hb2.1 hb2.2 hp.2.1 hp.2.2 H) ?_
  rintro _ w ⟨rfl, H⟩
  cases c5 : r.dst.has p.dst with
  | false => simp only [W0]; exact fin _ w (by unfold Rul.fits; simp_all) H
  | true =>
  simp only [W0]
  refine ld_a ?_
  (try simp only [W0])
  refine ld_a ?_
  (try simp only [W0])
  refine ld_a ?_
  (try simp only [W0])
  refine cal_h (gwithin_spec H) ?_
  rintro _ w ⟨rfl, H⟩
  rw [show inn p.fr r.fr.low r.fr.high = r.fr.has p.fr from rfl]
  cases c6 : r.fr.has p.fr with
  | false => simp only [W0]; exact fin _ w (by unfold Rul.fits; simp_all) H
  | true =>
  simp only [W0]
  refine ld_a ?_
  (try simp only [W0])
  refine ld_a ?_
  (try simp only [W0])
  refine ld_a ?_
  (try simp only [W0])
  refine cal_h (gwithin_spec H) ?_
  rintro _ w ⟨rfl, H⟩
  rw [show inn p.to r.to.low r.to.high = r.to.has p.to from rfl]
  (try simp only [W0])
  exact fin _ w (by unfold Rul.fits; simp_all) H
theorem gdecide_spec {l : List Rul} {p : Pkt} (hl : TR cRul w0 cs s l) (hok : ∀ r ∈ l, r.Ok ∧ r.check = 0) (hp : p.Ok) (hpc : p.check = 0) (hn : l.length < 2 ^ 62) (H : Hp w0 w L) (m1 : ∀ c ∈ cs, c ∈ L) :
    Calls Pg 59 ⟨[s, .agg ⟨p.enc⟩]⟩ w fun e w' => e = .returned (I (deciding l p)) ∧ Hp w0 w' L := by
  apply F59_calls
  unfold F59
  refine bx_m H fun w b3 H => ?_
  unfold F59_j2 F59_j3
  refine loop4 (F59_l1_succ _) (fun m x x3 x5 z w => ∃ (i : Nat) (last : Int), s = x ∧ x3 = ptr b3 0 ∧ x5 = I last ∧ z = I (i : Int) ∧ m + i = l.length ∧ deciding l p = decFrom p (l.drop i) i last ∧ Hp w0 w (⟨b3, .t 67, p.enc⟩ :: L)) ?_ (m := l.length) ⟨0, -2, rfl, rfl, rfl, rfl, rfl, rfl, H⟩
  clear H
  rintro m k _ _ _ _ w ⟨i, last, rfl, rfl, rfl, rfl, hm, he, H⟩ hk
  unfold F59_b1
  refine pv_of (lenS_tr hl) ?_
  refine lss_k (fun hi => ?_) (fun hi => ?_)
  · (try simp only [W0])
    have hx : l[i]? = some l[i] := List.getElem?_eq_getElem (by omega)
    generalize l[i] = r at hx
    obtain ⟨hr1, hr2⟩ := hok r (List.mem_of_getElem? hx)
    unfold F59_j4 F59_j6
    refine drew_k H fun w H => ?_
    refine ixN_t (C := cRul) hl H (by intro c hc; exact List.mem_cons_of_mem _ (m1 c hc)) hx (by decide) ?_
    refine ldA_m (l := p.enc) H has rfl ?_
    (try simp only [W0])
    refine cal_h (gmatches_spec hr1 hp hr2 hpc H) ?_
    rintro _ w ⟨rfl, H⟩
    rw [decFrom_drop hx] at he
    cases hf : r.fits p with
    | false =>
      simp only [W0]
      rw [hf] at he
      unfold F59_j5
      refine add_k (z := ((i + 1 : Nat) : Int)) (by omega) (by omega) (by omega) ?_
      exact hk (m - 1) _ _ _ _ _ (by omega) ⟨i + 1, last, rfl, rfl, rfl, rfl, by omega, he, H⟩
    | true =>
      simp only [W0]
      rw [hf] at he
      refine ixF_t (C := cRul) (f := 1) (v := .bool r.quick) hl H (by intro c hc; exact List.mem_cons_of_mem _ (m1 c hc)) hx rfl ?_
      cases hq : r.quick with
      | true =>
        simp only [W0]
        rw [hq] at he
        exact ⟨by rw [he]; rfl, H.tail⟩
      | false =>
        simp only [W0]
        rw [hq] at he
        unfold F59_j5
        refine add_k (z := ((i + 1 : Nat) : Int)) (by omega) (by omega) (by omega) ?_
        exact hk (m - 1) _ _ _ _ _ (by omega) ⟨i + 1, (i : Int), rfl, rfl, rfl, rfl, by omega, he, H⟩
  · (try simp only [W0])
    unfold F59_j1
    exact ⟨by rw [he, List.drop_of_length_le (by omega)]; rfl, H.tail⟩
end
end Go.Proofs.Ytmmbepdghpjgeaa.Den
end
