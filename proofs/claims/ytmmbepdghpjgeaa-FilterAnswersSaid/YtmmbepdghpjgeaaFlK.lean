/- Packet filter: Check, checkPacket, fits, Matches. Conditions: none. -/
import Derived.Test.YtmmbepdghpjgeaaFlM
import Derived.Test.YtmmbepdghpjgeaaFns
set_option linter.unusedVariables false
set_option linter.unusedSimpArgs false
set_option maxRecDepth 8000
set_option maxHeartbeats 1000000
namespace Go.Proofs.Ytmmbepdghpjgeaa.Den
open Go Go.RowKit
theorem wrapu64_id {a : Int} (h1 : 0 ≤ a) (h2 : a < 18446744073709551616) : IntKind.u64.wrap a = a := by
  have e1 : (2 ^ IntKind.u64.bits : Int) = 18446744073709551616 := by decide
  simp only [IntKind.wrap, e1, IntKind.signed, Bool.false_and, Bool.false_eq_true, if_false]
  omega
section
variable {w w' w0 : World} {L L' F cs A X Y : List Chunk} {s : Value} {K : VK} {R : ER} {b i j : Nat}
theorem within_spec {n lo hi : Int} (H : Hp w0 w L) : Calls Pg 42 ⟨[I n, I lo, I hi]⟩ w fun e w' => e = .returned (.bool (inn n lo hi)) ∧ Hp w0 w' L := by
  apply F42_calls
  unfold F42
  refine geq_k (fun h => ?_) (fun h => ?_)
  · try simp only [W0]
    refine leq_k (fun h2 => ?_) (fun h2 => ?_)
    · (try simp only [W0]); exact ⟨by rw [inn, decide_eq_true h, decide_eq_true h2]; rfl, H⟩
    · (try simp only [W0]); exact ⟨by rw [inn, decide_eq_true h, decide_eq_false h2]; rfl, H⟩
  · (try simp only [W0]); exact ⟨by rw [inn, decide_eq_false h]; rfl, H⟩
theorem valid_spec {r : Rng} (H : Hp w0 w L) : Calls Pg 43 ⟨[.agg ⟨r.enc⟩]⟩ w fun e w' => e = .returned (.bool r.valid) ∧ Hp w0 w' L := by
  apply F43_calls
  unfold F43 Rng.enc
  refine bx_m H fun w b H => ?_
  try simp only [W0]
  refine ld_a ?_
  refine geq_k (fun h => ?_) (fun h => ?_)
  · try simp only [W0]
    refine ld_a ?_
    try simp only [W0]
    refine ld_a ?_
    try simp only [W0]
    refine leq_k (fun h2 => ?_) (fun h2 => ?_)
    · try simp only [W0]
      refine ld_a ?_
      try simp only [W0]
      refine leq_k (fun h3 => ?_) (fun h3 => ?_)
      · (try simp only [W0]); exact ⟨by rw [Rng.valid, decide_eq_true h, decide_eq_true h2, decide_eq_true h3]; rfl, H.tail⟩
      · (try simp only [W0]); exact ⟨by rw [Rng.valid, decide_eq_true h, decide_eq_true h2, decide_eq_false h3]; rfl, H.tail⟩
    · (try simp only [W0]); exact ⟨by rw [Rng.valid, decide_eq_true h, decide_eq_false h2]; rfl, H.tail⟩
  · (try simp only [W0]); exact ⟨by rw [Rng.valid, decide_eq_false h]; rfl, H.tail⟩
theorem shl_n {k : IntKind} {a n : Int} (h : 0 ≤ n) : bin .shl (.int .u64 a) (.int k n) = some (.int .u64 (IntKind.u64.wrap (a * 2 ^ (min n.toNat 64)))) := by
  show (if n < 0 then none else some (Value.int .u64 (IntKind.u64.wrap (a * 2 ^ (min n.toNat IntKind.u64.bits))))) = _
  rw [if_neg (by omega)]; rfl
theorem shr_n {k : IntKind} {a n : Int} (h : 0 ≤ n) : bin .shr (.int .u64 a) (.int k n) = some (.int .u64 (a.fdiv (2 ^ (min n.toNat 64)))) := by
  show (if n < 0 then none else some (Value.int .u64 (a.fdiv (2 ^ (min n.toNat IntKind.u64.bits))))) = _
  rw [if_neg (by omega)]; rfl
theorem and_n {k : IntKind} {a b : Int} : bin .and (.int k a) (.int k b) = some (.int k (k.wrap (BitVec.ofInt k.bits a &&& BitVec.ofInt k.bits b).toNat)) := by
  show (if k = k then bitsI .and k a b else none) = _
  rw [if_pos rfl]; rfl
theorem behind_spec {p : Pat} (hp : p.Ok) (h0 : 0 ≤ p.bits) (H : Hp w0 w L) : Calls Pg 44 ⟨[.agg ⟨p.enc⟩]⟩ w fun e w' => e = .returned (.bool p.behind) ∧ Hp w0 w' L := by
  obtain ⟨p1, p2⟩ := hp
  apply F44_calls
  unfold F44 Pat.enc
  refine bx_m H fun w b H => ?_
  try simp only [W0]
  refine ld_a ?_
  try simp only [W0]
  rw [wrapu64_id p1 (by omega)]
  refine ld_a ?_
  refine pv_of (shl_n h0) ?_
  refine pv_of and_n ?_
  rw [bin_neq]
  try simp only [W0]
  exact ⟨rfl, H.tail⟩
theorem rcheck_spec {r : Rul} (hr : r.Ok) (H : Hp w0 w L) : Calls Pg 15 ⟨[.agg ⟨r.enc⟩]⟩ w fun e w' => e = .returned (I r.check) ∧ Hp w0 w' L := by
  apply F15_calls
  unfold F15 Rul.enc
  refine bx_m H fun w b H => ?_
  have fin : ∀ (n : Int) (w : World), r.check = n → Hp w0 w (⟨b, .t 29, [I r.act, .bool r.quick, .bool r.keep, I r.dir, I r.ifc, I r.proto, U32 r.src.adr, I r.src.bits, .bool r.src.no, U32 r.dst.adr, I r.dst.bits, .bool r.dst.no, I r.fr.low, I r.fr.high, I r.to.low, I r.to.high]⟩ :: L) →
      (Ending.returned (I n) = .returned (I r.check) ∧ Hp w0 w L) := fun n w h H => ⟨by rw [h], H.tail⟩
  try simp only [W0]
  refine ld_a ?_
  refine cal_h (within_spec H) ?_
  rintro _ w ⟨rfl, H⟩
  cases c1 : inn r.act 1 2 with
  | false => (try simp only [W0]); exact fin _ w (by unfold Rul.check; simp_all) H
  | true =>
  try simp only [W0]
  refine ld_a ?_
  refine cal_h (within_spec H) ?_
  rintro _ w ⟨rfl, H⟩
  cases c2 : inn r.dir 1 3 with
  | false => (try simp only [W0]); exact fin _ w (by unfold Rul.check; simp_all) H
  | true =>
  try simp only [W0]
  refine ld_a ?_
  refine cal_h (within_spec H) ?_
  rintro _ w ⟨rfl, H⟩
  cases c3 : inn r.ifc (-1) 255 with
  | false => (try simp only [W0]); exact fin _ w (by unfold Rul.check; simp_all) H
  | true =>
  try simp only [W0]
  refine ld_a ?_
  refine cal_h (within_spec H) ?_
  rintro _ w ⟨rfl, H⟩
  cases c4 : inn r.proto (-1) 255 with
  | false => (try simp only [W0]); exact fin _ w (by unfold Rul.check; simp_all) H
  | true =>
  try simp only [W0]
  refine ld_a ?_
  refine cal_h (within_spec H) ?_
  rintro _ w ⟨rfl, H⟩
  cases c5 : inn r.src.bits 0 32 with
  | false => (try simp only [W0]); exact fin _ w (by unfold Rul.check; simp_all) H
  | true =>
  try simp only [W0]
  refine ld_a ?_
  refine cal_h (within_spec H) ?_
  rintro _ w ⟨rfl, H⟩
  cases c6 : inn r.dst.bits 0 32 with
  | false => (try simp only [W0]); exact fin _ w (by unfold Rul.check; simp_all) H
  | true =>
  try simp only [W0]
  refine ldP_m (ys := r.fr.enc) H has (Nat.le_of_ble_eq_true rfl) rfl ?_
  try simp only [W0]
  refine cal_h (valid_spec (r := r.fr) H) ?_
  rintro _ w ⟨rfl, H⟩
  cases c7 : r.fr.valid with
  | false => (try simp only [W0]); exact fin _ w (by unfold Rul.check; simp_all) H
  | true =>
  try simp only [W0]
  refine ldP_m (ys := r.to.enc) H has (Nat.le_of_ble_eq_true rfl) rfl ?_
  try simp only [W0]
  refine cal_h (valid_spec (r := r.to) H) ?_
  rintro _ w ⟨rfl, H⟩
  cases c8 : r.to.valid with
  | false => (try simp only [W0]); exact fin _ w (by unfold Rul.check; simp_all) H
  | true =>
  try simp only [W0]
  have hb5 : 0 ≤ r.src.bits := by unfold inn at c5; simp at c5; omega
  have hb6 : 0 ≤ r.dst.bits := by unfold inn at c6; simp at c6; omega
  refine ldP_m (ys := r.src.enc) H has (Nat.le_of_ble_eq_true rfl) rfl ?_
  try simp only [W0]
  refine cal_h (behind_spec hr.1 hb5 H) ?_
  rintro _ w ⟨rfl, H⟩
  cases c9 : r.src.behind with
  | true => (try simp only [W0]); exact fin _ w (by unfold Rul.check; simp_all) H
  | false =>
  try simp only [W0]
  refine ldP_m (ys := r.dst.enc) H has (Nat.le_of_ble_eq_true rfl) rfl ?_
  try simp only [W0]
  refine cal_h (behind_spec hr.2 hb6 H) ?_
  rintro _ w ⟨rfl, H⟩
  cases c10 : r.dst.behind with
  | true => (try simp only [W0]); exact fin _ w (by unfold Rul.check; simp_all) H
  | false =>
  try simp only [W0]
  refine ld_a ?_
  cases c11 : r.keep with
  | false => (try simp only [W0]); exact fin _ w (by unfold Rul.check; simp_all) H
  | true =>
  try simp only [W0]
  rw [c11] at H fin
  refine ld_a ?_
  refine eql_k (fun h => ?_) (fun h => ?_)
  · (try simp only [W0]); exact fin _ w (by unfold Rul.check; simp_all) H
  · (try simp only [W0]); exact fin _ w (by unfold Rul.check; simp_all) H
end
end Go.Proofs.Ytmmbepdghpjgeaa.Den
