/- Packet filter, the reader of a rule's text: part. Conditions: none. -/
import Derived.Test.YtmmbepdghpjgeaaFlH
import Derived.Laws.Strings
set_option linter.unusedVariables false
set_option linter.unusedSimpArgs false
set_option maxRecDepth 8000
set_option maxHeartbeats 1000000
namespace Go.Proofs.Ytmmbepdghpjgeaa.Den
open Go Go.RowKit
theorem bts_inj {a b : ByteArray} (h : bts a = bts b) : a = b := by
  have h1 : a.data.toList = b.data.toList := by
    refine List.map_inj_right (f := UInt8.toNat) (fun x y e => UInt8.toNat_inj.1 e) |>.1 h
  have h2 : a.data = b.data := Array.toList_inj.1 h1
  cases a; cases b; simp at h2; rw [h2]
theorem str_beq (a b : ByteArray) : (a.toList == b.toList) = decide (bts a = bts b) := by
  rw [ByteArray.toList_eq, ByteArray.toList_eq, Bool.eq_iff_iff]
  simp only [beq_iff_eq, decide_eq_true_eq]
  exact ⟨fun h => by unfold bts; rw [h], fun h => by rw [bts_inj h]⟩
theorem binS_n {a b : ByteArray} (h : decide (bts a = bts b) = false := by decide) : binS .eql (.string a) (.string b) = some (.bool false) := by
  show some (Value.bool (a.toList == b.toList)) = _; rw [str_beq, h]
theorem binS_y {a b : ByteArray} (h : decide (bts a = bts b) = true := by decide) : binS .eql (.string a) (.string b) = some (.bool true) := by
  show some (Value.bool (a.toList == b.toList)) = _; rw [str_beq, h]
theorem ruleWords_ok : ∀ wd ∈ ruleWords, wd.size ≤ 1000 ∧ ∀ x ∈ bts wd, x ≠ 32 ∧ x ≠ 10 := by
  have : ruleWords.all (fun wd => decide (wd.size ≤ 1000) && (bts wd).all (fun x => decide (x ≠ 32) && decide (x ≠ 10))) = true := by decide
  intro wd hwd
  have h := List.all_eq_true.1 this wd hwd
  rw [Bool.and_eq_true, decide_eq_true_eq] at h
  refine ⟨h.1, fun x hx => ?_⟩
  have := List.all_eq_true.1 h.2 x hx
  simpa using this
theorem drop_ok (n : Nat) : ∀ wd ∈ ruleWords.drop n, wd.size ≤ 1000 ∧ ∀ x ∈ bts wd, x ≠ 32 ∧ x ≠ 10 := fun wd h => ruleWords_ok wd (List.mem_of_mem_drop h)
section
variable {w w' w0 : World} {L L' F cs A X Y : List Chunk} {s : Value} {K : VK} {R : ER} {b i j at' : Nat} {S : ByteArray}
theorem part_end {Q : ER} {k : Nat} {x9 : Int} (hk : k ≤ 8) (h9 : -1 ≤ x9) (h10 : x9 ≤ 100) (g : Q (.returned (I (if 0 ≤ x9 then (k : Int) + 1 + x9 else -1))) w) : F65_j1 Q (I (k : Int)) (I x9) w := by
  unfold F65_j1
  refine geq_k (fun h => ?_) (fun h => ?_)
  · simp only [W0]
    rw [if_pos h] at g
    refine add_k (by omega) (by omega) rfl ?_
    exact add_k (by omega) (by omega) rfl g
  · simp only [W0]
    rw [if_neg (by omega)] at g
    exact g
theorem side_le {nxt : List ByteArray} {a : Pat} {r : Rng} {k : Int} (hn : sideP S i nxt = some (a, r, k, j)) (hi : i ≤ S.size) : j ≤ S.size ∧ -1 ≤ k ∧ k < nxt.length := by
  unfold sideP at hn
  simp only [Option.bind_eq_bind, Option.bind_eq_some_iff] at hn
  obtain ⟨i1, h1, h2⟩ := hn
  have q1 := sign_le h1 (by decide)
  have hti : ∀ (a : Pat) (i : Nat), ((portsP S i).bind fun __discr => (moreP S __discr.2).bind fun __discr_1 => if __discr_1.1 = true then (chooseP S __discr_1.2 nxt).bind fun __discr_2 => some (a, __discr.1, (__discr_2.1 : Int), __discr_2.2) else some (a, __discr.1, -1, __discr_1.2)) = tailP S nxt a i := fun _ _ => rfl
  simp only [hti] at h2
  have tk : ∀ {a a' : Pat} {r : Rng} {k : Int} {i j : Nat}, tailP S nxt a i = some (a', r, k, j) → i ≤ S.size → j ≤ S.size ∧ -1 ≤ k ∧ k < nxt.length := by
    intro a a' r k i j h hi
    refine ⟨tail_le h hi, ?_⟩
    unfold tailP at h
    simp only [Option.bind_eq_bind, Option.bind_eq_some_iff] at h
    obtain ⟨⟨r', i1⟩, h1, ⟨m, i2⟩, h2, h3⟩ := h
    simp only at h2 h3
    have q1 := ports_le h1 hi
    have q2 := more_le h2 q1
    cases m with
    | false =>
      simp only [Bool.false_eq_true, if_false, Option.some.injEq, Prod.mk.injEq] at h3
      obtain ⟨rfl, rfl, rfl, rfl⟩ := h3; omega
    | true =>
      simp only [if_true, Option.bind_eq_some_iff, Option.some.injEq, Prod.mk.injEq] at h3
      obtain ⟨⟨k', i3⟩, h4, rfl, rfl, rfl, rfl⟩ := h3
      have := (choose_le h4 q2.1).2
      simp only; omega
  split at h2
  · simp only [Option.bind_eq_some_iff] at h2
    obtain ⟨⟨a', i2⟩, h3, ⟨m, i3⟩, h4, h5⟩ := h2
    simp only at h4 h5
    have q2 := pat_le h3 q1.2
    have q3 := more_le h4 q2
    cases m with
    | false =>
      simp only [Bool.false_eq_true, if_false, Option.some.injEq, Prod.mk.injEq] at h5
      obtain ⟨rfl, rfl, rfl, rfl⟩ := h5; omega
    | true =>
      simp only [if_true, Option.bind_eq_some_iff] at h5
      obtain ⟨⟨k', i4⟩, h6, h7⟩ := h5
      simp only at h7
      have q4 := choose_le h6 q3.1
      have q5 := q4.2
      rw [List.length_cons] at q5
      split at h7
      · simp only [Option.some.injEq, Prod.mk.injEq] at h7
        obtain ⟨rfl, rfl, rfl, rfl⟩ := h7; omega
      · exact tk h7 q4.1
  · simp only [Option.bind_eq_some_iff] at h2
    obtain ⟨⟨k', i2⟩, h3, h4⟩ := h2
    exact tk h4 (choose_le h3 q1.2).1
theorem count_le {n : Nat} (hn : countP S i = some (n, j)) : j ≤ S.size := by
  unfold countP at hn
  simp only [Option.bind_eq_bind, Option.bind_eq_some_iff] at hn
  obtain ⟨i1, h1, ⟨n', i2⟩, h2, h3⟩ := hn
  simp only at h3
  split at h3
  · injection h3 with h3
    obtain ⟨rfl, rfl⟩ := Prod.mk.inj h3
    exact (num_le h2 (sign_le h1 (by decide)).2).1
  · cases h3
theorem fpart_spec {r r' : Rul} {nx : Int} {k rb : Nat} (hws : TR cStr w0 cs s ruleWords) (m1 : ∀ c ∈ cs, c ∈ L) (mt : ∀ c ∈ cs, c.t ≠ .t 102)
    (H : Hp w0 w (⟨rb, .t 29, r.enc⟩ :: L)) (hu : Upd L b (.t 102) [.string S, I (i : Int)] (.t 102) [.string S, I (j : Int)] L') (hn : partP S i r k = some (r', nx, j))
    (hk : k < 8) (hS : S.size ≤ 1000) (hi : i ≤ S.size) :
    Calls Pg 65 ⟨[ptr b 0, ptr rb 0, s, I (k : Int)]⟩ w fun e w' => e = .returned (I nx) ∧ Hp w0 w' (⟨rb, .t 29, r'.enc⟩ :: L') := by
  obtain ⟨X, Y, rfl, rfl⟩ := hu
  have M1 : ∀ c ∈ cs, c ∈ (⟨rb, .t 29, r.enc⟩ : Chunk) :: (X ++ ⟨b, .t 102, [.string S, I (i : Int)]⟩ :: Y) := fun c hc => List.mem_cons_of_mem _ (m1 c hc)
  apply F65_calls
  unfold F65 F65_j2
  have hkc : k = 0 ∨ k = 1 ∨ k = 2 ∨ k = 3 ∨ k = 4 ∨ k = 5 ∨ k = 6 ∨ k = 7 := by omega
  rcases hkc with rfl | rfl | rfl | rfl | rfl | rfl | rfl | rfl
  · simp only [partP, Option.some.injEq, Prod.mk.injEq] at hn
    obtain ⟨rfl, rfl, rfl⟩ := hn
    refine ix1_t (C := cStr) hws H M1 (i := 0) rfl rfl rfl ?_
    repeat (first | refine pv_of (binS_n) ?_ | refine pv_of (binS_y) ?_ | simp only [W0] | unfold F65_j3 | unfold F65_j4 | unfold F65_j5 | unfold F65_j6 | unfold F65_j7 | unfold F65_j8 | unfold F65_j9 | unfold F65_j10 | unfold F65_j11 | unfold F65_j12 | unfold F65_j13 | unfold F65_j14 | unfold F65_j16 | unfold F65_j17)
    unfold Rul.enc at H
    refine st_a fun w H => ?_
    simp only [List.set_cons_zero, List.set_cons_succ] at H
    exact part_end (k := 0) (by decide) (by decide) (by decide) ⟨rfl, H⟩
  · simp only [partP, Option.some.injEq, Prod.mk.injEq] at hn
    obtain ⟨rfl, rfl, rfl⟩ := hn
    refine ix1_t (C := cStr) hws H M1 (i := 1) rfl rfl rfl ?_
    repeat (first | refine pv_of (binS_n) ?_ | refine pv_of (binS_y) ?_ | simp only [W0] | unfold F65_j3 | unfold F65_j4 | unfold F65_j5 | unfold F65_j6 | unfold F65_j7 | unfold F65_j8 | unfold F65_j9 | unfold F65_j10 | unfold F65_j11 | unfold F65_j12 | unfold F65_j13 | unfold F65_j14 | unfold F65_j16 | unfold F65_j17)
    unfold Rul.enc at H
    refine st_a fun w H => ?_
    simp only [List.set_cons_zero, List.set_cons_succ] at H
    exact part_end (k := 1) (by decide) (by decide) (by decide) ⟨rfl, H⟩
  · simp only [partP, Option.some.injEq, Prod.mk.injEq] at hn
    obtain ⟨rfl, rfl, rfl⟩ := hn
    refine ix1_t (C := cStr) hws H M1 (i := 2) rfl rfl rfl ?_
    repeat (first | refine pv_of (binS_n) ?_ | refine pv_of (binS_y) ?_ | simp only [W0] | unfold F65_j3 | unfold F65_j4 | unfold F65_j5 | unfold F65_j6 | unfold F65_j7 | unfold F65_j8 | unfold F65_j9 | unfold F65_j10 | unfold F65_j11 | unfold F65_j12 | unfold F65_j13 | unfold F65_j14 | unfold F65_j16 | unfold F65_j17)
    unfold Rul.enc at H
    refine st_a fun w H => ?_
    simp only [List.set_cons_zero, List.set_cons_succ] at H
    exact part_end (k := 2) (by decide) (by decide) (by decide) ⟨rfl, H⟩
  · simp only [partP, Option.map_eq_some_iff] at hn
    obtain ⟨⟨n, j'⟩, hc, hn⟩ := hn
    simp only [Prod.mk.injEq] at hn
    obtain ⟨rfl, rfl, rfl⟩ := hn
    refine ix1_t (C := cStr) hws H M1 (i := 3) rfl rfl rfl ?_
    repeat (first | refine pv_of (binS_n) ?_ | refine pv_of (binS_y) ?_ | simp only [W0] | unfold F65_j3 | unfold F65_j4 | unfold F65_j5 | unfold F65_j6 | unfold F65_j7 | unfold F65_j8 | unfold F65_j9 | unfold F65_j10 | unfold F65_j11 | unfold F65_j12 | unfold F65_j13 | unfold F65_j14 | unfold F65_j16 | unfold F65_j17)
    refine cal_h (fcounted_spec H updP.cons hc hS hi) ?_
    rintro _ w ⟨rfl, H⟩
    simp only [W0]
    unfold Rul.enc at H
    refine st_a fun w H => ?_
    simp only [List.set_cons_zero, List.set_cons_succ] at H
    exact part_end (k := 3) (by decide) (by decide) (by decide) ⟨rfl, H⟩
  · simp only [partP, Option.map_eq_some_iff] at hn
    obtain ⟨⟨n, j'⟩, hc, hn⟩ := hn
    simp only [Prod.mk.injEq] at hn
    obtain ⟨rfl, rfl, rfl⟩ := hn
    refine ix1_t (C := cStr) hws H M1 (i := 4) rfl rfl rfl ?_
    repeat (first | refine pv_of (binS_n) ?_ | refine pv_of (binS_y) ?_ | simp only [W0] | unfold F65_j3 | unfold F65_j4 | unfold F65_j5 | unfold F65_j6 | unfold F65_j7 | unfold F65_j8 | unfold F65_j9 | unfold F65_j10 | unfold F65_j11 | unfold F65_j12 | unfold F65_j13 | unfold F65_j14 | unfold F65_j16 | unfold F65_j17)
    refine cal_h (fcounted_spec H updP.cons hc hS hi) ?_
    rintro _ w ⟨rfl, H⟩
    simp only [W0]
    unfold Rul.enc at H
    refine st_a fun w H => ?_
    simp only [List.set_cons_zero, List.set_cons_succ] at H
    exact part_end (k := 4) (by decide) (by decide) (by decide) ⟨rfl, H⟩
  · simp only [partP, Option.map_eq_some_iff] at hn
    obtain ⟨⟨a, rg, kk, j'⟩, hc, hn⟩ := hn
    simp only [Prod.mk.injEq] at hn
    obtain ⟨rfl, rfl, rfl⟩ := hn
    have hkk := side_le hc hi
    have hlen : (ruleWords.drop 6).length ≤ 8 := by decide
    refine ix1_t (C := cStr) hws H M1 (i := 5) rfl rfl rfl ?_
    repeat (first | refine pv_of (binS_n) ?_ | refine pv_of (binS_y) ?_ | simp only [W0] | unfold F65_j3 | unfold F65_j4 | unfold F65_j5 | unfold F65_j6 | unfold F65_j7 | unfold F65_j8 | unfold F65_j9 | unfold F65_j10 | unfold F65_j11 | unfold F65_j12 | unfold F65_j13 | unfold F65_j14 | unfold F65_j16 | unfold F65_j17)
    first | unfold F65_j15 | unfold F65_j18
    refine add_k (z := ((6 : Nat) : Int)) (by decide) (by decide) (by decide) ?_
    obtain ⟨s2, hs2, hr2⟩ := slRfrom_t (C := cStr) (lo := 6) (by decide) hws (by decide)
    refine pv_of hs2 ?_
    refine cal_h (fside_spec hr2 (fun c hc => List.mem_cons_of_mem _ (m1 c hc)) mt H updP.cons hc (drop_ok 6) (by decide) hS hi) ?_
    rintro _ w ⟨rfl, H⟩
    simp only [W0]
    unfold Rul.enc at H
    unfold Pat.enc
    refine stP_m H updd rfl (Nat.le_of_ble_eq_true rfl) (by intro c hc; simp only [List.mem_cons, List.not_mem_nil, or_false] at hc; rcases hc with rfl | rfl | rfl <;> rfl) fun w H => ?_
    try simp only [W0]
    refine stP_m H updd rfl (Nat.le_of_ble_eq_true rfl) (by intro c hc; simp only [List.mem_cons, List.not_mem_nil, or_false] at hc; rcases hc with rfl | rfl <;> rfl) fun w H => ?_
    exact part_end (k := 5) (by decide) (by omega) (by omega) ⟨rfl, H⟩
  · simp only [partP, Option.map_eq_some_iff] at hn
    obtain ⟨⟨a, rg, kk, j'⟩, hc, hn⟩ := hn
    simp only [Prod.mk.injEq] at hn
    obtain ⟨rfl, rfl, rfl⟩ := hn
    have hkk := side_le hc hi
    have hlen : (ruleWords.drop 7).length ≤ 8 := by decide
    refine ix1_t (C := cStr) hws H M1 (i := 6) rfl rfl rfl ?_
    repeat (first | refine pv_of (binS_n) ?_ | refine pv_of (binS_y) ?_ | simp only [W0] | unfold F65_j3 | unfold F65_j4 | unfold F65_j5 | unfold F65_j6 | unfold F65_j7 | unfold F65_j8 | unfold F65_j9 | unfold F65_j10 | unfold F65_j11 | unfold F65_j12 | unfold F65_j13 | unfold F65_j14 | unfold F65_j16 | unfold F65_j17)
    first | unfold F65_j15 | unfold F65_j18
    refine add_k (z := ((7 : Nat) : Int)) (by decide) (by decide) (by decide) ?_
    obtain ⟨s2, hs2, hr2⟩ := slRfrom_t (C := cStr) (lo := 7) (by decide) hws (by decide)
    refine pv_of hs2 ?_
    refine cal_h (fside_spec hr2 (fun c hc => List.mem_cons_of_mem _ (m1 c hc)) mt H updP.cons hc (drop_ok 7) (by decide) hS hi) ?_
    rintro _ w ⟨rfl, H⟩
    simp only [W0]
    unfold Rul.enc at H
    unfold Pat.enc
    refine stP_m H updd rfl (Nat.le_of_ble_eq_true rfl) (by intro c hc; simp only [List.mem_cons, List.not_mem_nil, or_false] at hc; rcases hc with rfl | rfl | rfl <;> rfl) fun w H => ?_
    try simp only [W0]
    refine stP_m H updd rfl (Nat.le_of_ble_eq_true rfl) (by intro c hc; simp only [List.mem_cons, List.not_mem_nil, or_false] at hc; rcases hc with rfl | rfl <;> rfl) fun w H => ?_
    exact part_end (k := 6) (by decide) (by omega) (by omega) ⟨rfl, H⟩
  · simp only [partP, Option.some.injEq, Prod.mk.injEq] at hn
    obtain ⟨rfl, rfl, rfl⟩ := hn
    refine ix1_t (C := cStr) hws H M1 (i := 7) rfl rfl rfl ?_
    repeat (first | refine pv_of (binS_n) ?_ | refine pv_of (binS_y) ?_ | simp only [W0] | unfold F65_j3 | unfold F65_j4 | unfold F65_j5 | unfold F65_j6 | unfold F65_j7 | unfold F65_j8 | unfold F65_j9 | unfold F65_j10 | unfold F65_j11 | unfold F65_j12 | unfold F65_j13 | unfold F65_j14 | unfold F65_j16 | unfold F65_j17)
    unfold Rul.enc at H
    refine st_a fun w H => ?_
    simp only [List.set_cons_zero, List.set_cons_succ] at H
    exact part_end (k := 7) (by decide) (by decide) (by decide) ⟨rfl, H⟩
end
end Go.Proofs.Ytmmbepdghpjgeaa.Den
