/- Message queue: the first example (awake), walked. Conditions: none. -/
import Derived.Test.YthcekppbbanfeaaGreatMqJ
import Derived.Test.YthcekppbbanfeaaGreatOb
set_option linter.unusedVariables false
set_option linter.unusedSimpArgs false
set_option maxRecDepth 8000
set_option maxHeartbeats 2000000
namespace Go.Proofs.YthcekppbbanfeaaGreat.Den
open Go Go.RowKit
theorem undB : Pg.underlying 32 = some (.slice 5) := by kernel_rfl
theorem und8 : Pg.underlying 5 = some (.int .u8) := by kernel_rfl
theorem undS : Pg.underlying 9 = some .string := by kernel_rfl
theorem cBsz : cB.sz = 1 ∧ ∀ n, cB.enc n = [U8 n] := ⟨rfl, fun _ => rfl⟩
section
variable {w w' w0 : World} {L L' F cs cs2 A X Y cm cr D : List Chunk} {s s2 sm sr ss : Value} {K : VK} {R : ER} {b i j qb : Nat} {q : Q25} {m : Ms} {th dl now : Int} {wait : Bool}
/-- A constant text as bytes. -/
theorem text_h {parts : List (Nat × Value)} {len : Nat} (xs : List Int) {K : VK} (H : Hp w0 w L) (hl : xs.length = len) (hle : len * 1 ≤ 2 ^ 24) (h0 : len * 1 ≠ 0) (hr : buildL ((List.range (len * 1)).map fun x => [U8 0][x % 1]!) (parts.map fun p => (p.1 * 1, 1, p.2)) = some (cB.all xs))
    (k : ∀ w' (s : Sh) c, Hp w0 w' (c :: L) → TR cB w0 [c] s.val xs → K s.val w') : valV Pg R (Instr.buildSlice 32 len ⟨parts⟩) (fun v => valV Pg R (convert 32 32 v) K) w := by
  refine lit_h (sz := 1) elB H hle h0 hr fun w' b H' => ?_
  refine conv_bytes_h undB und8 H' Upd.here fun w2 H2 => k w2 ⟨some ⟨b, 0, none⟩, len, len⟩ _ H2 ?_
  have hal : (cB.all xs).length = len := by rw [all_len, hl]; show len * 1 = len; omega
  exact .inr ⟨b, 0, len, _, cB.all xs, by rw [hl]; rfl, by omega, ⟨by simp; rfl, rfl⟩, by rw [hal, hl]; show 0 + len * 1 ≤ len; omega, by rw [List.drop_zero, List.take_of_length_le (by rw [hal, hl]; show len ≤ len * 1; omega)]⟩
theorem QAt.monoD {D' : List Chunk} (hq : QAt w0 D q sm sr ss cm cr cs) (h : ∀ c ∈ D, c ∈ D') : QAt w0 D' q sm sr ss cm cr cs :=
  ⟨hq.m, hq.r, hq.s, fun k hk => (hq.dm k hk).mono h, fun k hk => (hq.ds k hk).mono h, fun x hx => h _ (hq.n x hx), hq.lm, hq.lr, hq.ls⟩
theorem mem_F {c : Chunk} (h : c ∈ F) : c ∈ q.mem qb sm sr ss cm cr cs F := List.mem_cons_of_mem _ (List.mem_append_right _ (List.mem_append_right _ (List.mem_append_right _ h)))
theorem awake_spec (H : Hp w0 w L) : Calls Pg 7 ⟨[]⟩ w fun e w' => e = .returned (.bool true) ∧ Hp w0 w' L := by
  apply F7_calls
  unfold F7
  refine cal_h (new_spec (mx := 2) (sz := 10) H) ?_
  rintro _ w (⟨hb, _⟩ | ⟨qb, _, rfl, hq, H⟩)
  · exact absurd hb (by unfold badNew; decide)
  (try simp only [W0])
  refine neq_n (by decide) ?_
  (try simp only [W0])
  unfold F7_j1
  refine text_h [97] H rfl (by decide) (by decide) rfl fun w s1 c1 H ht1 => ?_
  refine bld_a ?_
  replace H : Hp w0 w ((q0 2 10).mem qb (.slice none 0 0) (.slice none 0 0) (.slice none 0 0) [] [] [] (c1 :: L)) := H.to fun q => by simp only [Q25.mem, List.map_append, List.map_cons, List.sum_append, List.sum_cons]; omega
  refine cal_h (send_spec (D := [c1]) (m := ⟨3, s1, [97]⟩) (th := 1) (wait := false) (dl := 0) ⟨ht1, by simp⟩ (by simp) (hq.monoD (by simp)) (by decide) (by decide) H) ?_
  rintro _ w ⟨sh1, se, sn, rfl, D1, sm1, sr1, ss1, cm1, cr1, cs1, ce, cn, hse, hsn, hq1, hes, H⟩
  generalize hm1 : ({ (⟨3, s1, [97]⟩ : Ms) with sh := sh1 } : Ms) = m1 at *
  have e1 : (q0 2 10).send 1 m1 false 0 = ⟨false, [], [], 0, { q0 2 10 with num := 1, ms := [⟨m1, 1⟩] }⟩ := by subst hm1; rfl
  rw [e1] at hse hsn hq1 H ⊢
  (try simp only [W0])
  refine text_h [98] H rfl (by decide) (by decide) rfl fun w s2 c2 H ht2 => ?_
  refine bld_a ?_
  generalize hqq1 : ({ q0 2 10 with num := 1, ms := [⟨m1, 1⟩] } : Q25) = q1 at *
  have hmx1 : q1.max ≤ 64 := by subst hqq1; simp [q0]
  have hnum1 : 0 ≤ q1.num ∧ q1.num < 2 ^ 60 := by subst hqq1; simp
  have H2 : Hp w0 w (q1.mem qb sm1 sr1 ss1 cm1 cr1 cs1 (D1 ++ (c2 :: c1 :: L))) := H.to fun q => by simp only [Q25.mem, List.map_append, List.map_cons, List.sum_append, List.sum_cons]; omega
  refine cal_h (send_spec (D := D1 ++ [c2, c1]) (m := ⟨5, s2, [98]⟩) (th := 1) (wait := false) (dl := 0) ⟨ht2.mono (by simp), by simp⟩ (by intro c hc; simp at hc ⊢; rcases hc with h | h | h <;> simp [h]) (hq1.monoD (by intro c hc; simp at hc ⊢; rcases hc with h | h <;> simp [h])) hmx1 hnum1 H2) ?_
  clear H H2
  rintro _ w ⟨sh2, se2, sn2, rfl, D2, sm2, sr2, ss2, cm2, cr2, cs2, ce2, cn2, hse2, hsn2, hq2, hes2, H⟩
  generalize hm2 : ({ (⟨5, s2, [98]⟩ : Ms) with sh := sh2 } : Ms) = m2 at *
  have e2 : q1.send 1 m2 false 0 = ⟨false, [], [], 0, { q0 2 10 with num := 2, ms := [⟨m2, 2⟩, ⟨m1, 1⟩] }⟩ := by subst hqq1 hm2 hm1; kernel_rfl
  rw [e2] at hse2 hsn2 hq2 H ⊢
  (try simp only [W0])
  generalize hqq2 : ({ q0 2 10 with num := 2, ms := [⟨m2, 2⟩, ⟨m1, 1⟩] } : Q25) = q2 at *
  have hmx2 : q2.max ≤ 64 := by subst hqq2; simp [q0]
  have hnum2 : 0 ≤ q2.num ∧ q2.num < 2 ^ 60 := by subst hqq2; simp
  have H2 : Hp w0 w (q2.mem qb sm2 sr2 ss2 cm2 cr2 cs2 (D2 ++ (D1 ++ (c2 :: c1 :: L)))) := H.to fun q => by simp only [Q25.mem, List.map_append, List.map_cons, List.sum_append, List.sum_cons]; omega
  refine cal_h (recv_spec (D := D2 ++ (D1 ++ [c2, c1])) (th := 2) (wait := false) (dl := 0) (by intro c hc; simp at hc ⊢; rcases hc with h | h | h | h <;> simp [h]) hq2 hmx2 hnum2 H2) ?_
  clear H H2
  rintro _ w ⟨cp, se3, sn3, hcp, hok3, rfl, D3, sm3, sr3, ss3, cm3, cr3, cs3, ce3, cn3, hse3, hsn3, hq3, hes3, H⟩
  have e3 : q2.recv 2 false 0 cp = ⟨m2, ⟨false, [], [], 0, { q0 2 10 with num := 2, ms := [⟨m1, 1⟩] }⟩⟩ := by subst hqq2 hm2 hm1; kernel_rfl
  rw [e3] at hse3 hsn3 hq3 H hok3 ⊢
  (try simp only [W0])
  refine al_m (ys := [I 0, .slice none 0 0]) H (by kernel_rfl) fun w b4 H => ?_
  refine stA_m (vs := m2.enc) H Upd.here rfl rfl (cMs.sc m2) fun w H => ?_
  refine eql_y rfl ?_
  (try simp only [W0])
  refine eql_y rfl ?_
  (try simp only [W0])
  refine eql_y rfl ?_
  (try simp only [W0])
  refine ld_m H Has.here (o := 0) (v := I m2.pri) rfl ?_
  refine eql_y (by subst hm2; rfl) ?_
  (try simp only [W0])
  refine ld_m H Has.here (o := 1) (v := m2.sh.val) rfl ?_
  refine conv_str_h undB und8 undS cBsz hok3.1 H (by intro c hc; simp at hc; refine List.mem_cons_of_mem _ (List.mem_append_right _ (List.mem_append_right _ (mem_F ?_))); simp; rcases hc with h | h | h | h <;> simp [h]) ?_
  have hbs : m2.bs = [98] := by subst hm2; rfl
  rw [hbs]
  refine pv_of (v := .bool true) (by kernel_rfl) ?_
  (try simp only [W0])
  generalize hqq3 : ({ q0 2 10 with num := 2, ms := [⟨m1, 1⟩] } : Q25) = q3 at *
  have H2 : Hp w0 w (q3.mem qb sm3 sr3 ss3 cm3 cr3 cs3 (D3 ++ (D2 ++ (D1 ++ (c2 :: c1 :: L))))) := H.to fun q => by simp only [Q25.mem, List.map_append, List.map_cons, List.sum_append, List.sum_cons]; omega
  refine cal_h (messages_spec (D := D3 ++ (D2 ++ (D1 ++ [c2, c1]))) (by intro c hc; simp at hc ⊢; rcases hc with h | h | h | h | h <;> simp [h]) hq3 H2) ?_
  clear H H2
  rintro _ w ⟨s5, c5, D5, ys, zs, rfl, hp, _, hT, hsay, _, H⟩
  have hyl : ys.length = 1 := by
    have := congrArg List.length hsay
    rw [List.length_map, List.length_map, hp.length_eq] at this
    rw [this]; subst hqq3; rfl
  (try simp only [W0])
  refine pv_of (lenS_ts hT) ?_
  refine eql_y (by omega) ?_
  (try simp only [W0])
  refine ⟨(by first | rfl | trivial), H.to fun q => ?_⟩
  simp only [Q25.mem, List.map_append, List.map_cons, List.sum_append, List.sum_cons]; omega
end
end Go.Proofs.YthcekppbbanfeaaGreat.Den
