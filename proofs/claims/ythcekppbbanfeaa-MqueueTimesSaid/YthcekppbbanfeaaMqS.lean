/- Message queue: the laws Times and Nil, walked. Conditions: none. -/
import Derived.Test.YthcekppbbanfeaaMqR
import Derived.Test.YthcekppbbanfeaaMqO
set_option linter.unusedVariables false
set_option linter.unusedSimpArgs false
set_option maxRecDepth 8000
set_option maxHeartbeats 2000000
namespace Go.Proofs.Ythcekppbbanfeaa.Den
open Go Go.RowKit
def One25 (q : Q25) (dl : Int) : Prop := ((∃ m, q.sn = [⟨2, dl, m⟩]) ∧ q.rc = []) ∨ (q.sn = [] ∧ q.rc = [⟨2, dl⟩])
theorem One25.lates {q : Q25} {dl n : Int} (h : One25 q dl) : q.lates n = if passed n dl then [(2, dl)] else [] := by
  unfold Q25.lates
  rcases h with ⟨⟨m, h1⟩, h2⟩ | ⟨h1, h2⟩ <;> rw [h1, h2] <;> cases hp : passed n dl <;> simp [hp]
theorem One25.stay {q : Q25} {dl n : Int} (h : One25 q dl) (hp : passed n dl = false) : One25 (q.late n) dl := by
  unfold Q25.late One25
  rcases h with ⟨⟨m, h1⟩, h2⟩ | ⟨h1, h2⟩
  · left; simp [h1, h2, hp]
  · right; simp [h1, h2, hp]
theorem One25.gone {q : Q25} {dl n : Int} (h : One25 q dl) (hp : passed n dl = true) : (q.late n).sn = [] ∧ (q.late n).rc = [] := by
  unfold Q25.late
  rcases h with ⟨⟨m, h1⟩, h2⟩ | ⟨h1, h2⟩ <;> simp [h1, h2, hp]
theorem same_nil {key : Pr → Int} {C : List Pr} (h : Same key [] C) : C = [] := List.length_eq_zero_iff.1 h.len
theorem same_one {key : Pr → Int} {C : List Pr} {x : Pr} (h : Same key [x] C) : C = [x] := by
  have hl := h.len
  obtain ⟨y, rfl⟩ : ∃ y, C = [y] := List.length_eq_one_iff.1 hl
  have : y ∈ [x] := h.mem.1 (by simp)
  rw [List.mem_singleton.1 this]
section
variable {w w' w0 : World} {L L' F cs cs2 A X Y cm cr D : List Chunk} {s s2 sm sr ss : Value} {K : VK} {R : ER} {b i j qb : Nat} {q : Q25} {m : Ms} {th dl now : Int} {wait : Bool}
theorem adv_one {r : SRes} {n : Int} (h : One25 q dl) (hr : AdvOK q n r) (h1 : 0 ≤ n) (h2 : n ≤ 1099511627776) (h3 : q.now ≤ n) : r = ⟨false, if passed n dl then [⟨2, ms0, 37⟩] else [], [], 0, q.late n⟩ := by
  unfold AdvOK at hr
  rw [if_neg (by omega), if_neg (by omega)] at hr
  obtain ⟨C, _, hs, rfl⟩ := hr
  rw [h.lates] at hs
  cases hp : passed n dl with
  | true =>
    rw [hp] at hs
    rw [same_one hs]; rfl
  | false =>
    rw [hp] at hs
    rw [same_nil hs]; rfl
theorem times_end {x7 : Int} (hD : ∀ c ∈ D, c ∈ F) (hq : QAt w0 D q sm sr ss cm cr cs) (h7 : if dl < 0 ∨ 1099511627776 < dl then x7 = 34 else x7 = 0 ∧ One25 q dl) (hn : q.now = 0) (H : Hp w0 w (q.mem qb sm sr ss cm cr cs F)) (hF : Hp w0 w (q.mem qb sm sr ss cm cr cs F) → True)
    {Q : ER} (g : ∀ w, Ext [] w0 w → Q (.returned (.bool true)) w) : F5_j2 Q (I dl) (ptr qb 0) (I x7) w := by
  unfold F5_j2
  refine lss_k (fun h1 => ?_) (fun h1 => ?_)
  · (try simp only [W0])
    rw [if_pos (.inl h1)] at h7
    refine eql_y h7 ?_
    exact g w H.ext
  (try simp only [W0])
  refine gtr_k (fun h2 => ?_) (fun h2 => ?_)
  · (try simp only [W0])
    rw [if_pos (.inr h2)] at h7
    refine eql_y h7 ?_
    exact g w H.ext
  (try simp only [W0])
  rw [if_neg (by omega)] at h7
  obtain ⟨rfl, hone⟩ := h7
  unfold F5_j3
  refine neq_n (by decide) ?_
  (try simp only [W0])
  unfold F5_j4 F5_j7
  have last : ∀ (q : Q25) (D F : List Chunk) sm sr ss cm cr cs w, (∀ c ∈ D, c ∈ F) → QAt w0 D q sm sr ss cm cr cs → One25 q dl → q.now ≤ dl → Hp w0 w (q.mem qb sm sr ss cm cr cs F) → F5_j5 Q (I dl) (ptr qb 0) w := by
    intro q D F sm sr ss cm cr cs w hD hq hone hn H
    unfold F5_j5
    refine cal_h (adv_spec hq H) ?_
    rintro _ w ⟨r, se, hr, rfl, D2, sm2, sr2, ss2, cm2, cr2, cs2, ce, cn, hse, hsn, hq2, hes, H⟩
    rw [adv_one hone hr (by omega) (by omega) hn] at hse hq2 H ⊢
    clear hr
    (try simp only [W0])
    refine eql_k (fun h0 => ?_) (fun h0 => ?_)
    · (try simp only [W0])
      have hp : passed dl dl = false := by unfold passed; rw [h0]; rfl
      rw [hp] at hse
      (try simp only [W0])
      refine eql_y rfl ?_
      (try simp only [W0])
      refine pv_of (lenS_ts hse) ?_
      (try simp only [W0])
      refine eql_y rfl ?_
      (try simp only [W0])
      exact g w H.ext
    · (try simp only [W0])
      have hp : passed dl dl = true := by unfold passed; rw [decide_eq_true h0, decide_eq_true (Int.le_refl _)]; rfl
      rw [hp, if_pos rfl] at hse
      obtain ⟨hs0, hr0⟩ := hone.gone hp
      unfold F5_j6
      refine eql_y rfl ?_
      (try simp only [W0])
      refine pv_of (lenS_ts hse) ?_
      (try simp only [W0])
      refine eql_y rfl ?_
      (try simp only [W0])
      refine ixF_t (C := cEn) (i := 0) (f := 0) (v := I 2) hse.tr H (fun c hc => List.mem_append_left _ hc) rfl rfl ?_
      (try simp only [W0])
      refine eql_y rfl ?_
      (try simp only [W0])
      refine ixF_t (C := cEn) (i := 0) (f := 3) (v := I 37) hse.tr H (fun c hc => List.mem_append_left _ hc) rfl rfl ?_
      (try simp only [W0])
      refine eql_y rfl ?_
      (try simp only [W0])
      replace H := H.right.right
      refine cal_h (senders_spec hq2 H) ?_
      rintro _ w ⟨s3, c3, rfl, h3, H⟩
      (try simp only [W0])
      refine pv_of (lenS_ts h3) ?_
      refine cal_h (receivers_spec hq2 H.right) ?_
      rintro _ w ⟨s4, c4, rfl, h4, H⟩
      (try simp only [W0])
      refine pv_of (lenS_ts h4) ?_
      rw [hs0, hr0]
      refine add_k (z := 0) (by decide) (by decide) (by decide) ?_
      refine eql_y rfl ?_
      (try simp only [W0])
      exact g w H.ext
  refine gtr_k (fun h3 => ?_) (fun h3 => ?_)
  · unfold F5_j8
    (try simp only [W0])
    unfold F5_j9
    refine sub_k (z := dl - 1) (by omega) (by omega) rfl ?_
    refine cal_h (adv_spec hq H) ?_
    rintro _ w ⟨r, se, hr, rfl, D2, sm2, sr2, ss2, cm2, cr2, cs2, ce, cn, hse, hsn, hq2, hes, H⟩
    have hp : passed (dl - 1) dl = false := by unfold passed; rw [decide_eq_false (by omega : ¬ dl ≤ dl - 1), Bool.and_false]
    rw [adv_one hone hr (by omega) (by omega) (by omega), hp] at hse hq2 H ⊢
    clear hr
    (try simp only [W0])
    refine pv_of (lenS_ts hse) ?_
    refine gtr_n (by simp) ?_
    (try simp only [W0])
    refine neq_n (by decide) ?_
    (try simp only [W0])
    refine last _ (D2 ++ D) (D2 ++ F) _ _ _ _ _ _ w (fun c hc => ?_) hq2 (hone.stay hp) (by show dl - 1 ≤ dl; omega) H.right.right
    rcases List.mem_append.1 hc with h | h
    · exact List.mem_append_left _ h
    · exact List.mem_append_right _ (hD c h)
  · unfold F5_j8
    (try simp only [W0])
    exact last q D F _ _ _ _ _ _ w hD hq hone (by omega) H
theorem times_law {sd : Bool} (H : Hp w0 w []) : Calls Pg 5 ⟨[I dl, .bool sd]⟩ w fun e w' => e = .returned (.bool true) ∧ Hp w0 w' [] := by
  have hfin : ∀ w, Ext [] w0 w → (Ending.returned (.bool true) = .returned (.bool true) ∧ Hp w0 w []) := fun w h => ⟨rfl, ⟨h, by simp, by simp⟩⟩
  apply F5_calls
  unfold F5
  refine cal_h (new_spec (mx := 1) (sz := 8) H) ?_
  rintro _ w (⟨hb, _⟩ | ⟨qb, _, rfl, hq, H⟩)
  · exact absurd hb (by unfold badNew; decide)
  (try simp only [W0])
  refine neq_n (by decide) ?_
  (try simp only [W0])
  refine cal_h (awake_spec H) ?_
  rintro _ w ⟨rfl, H⟩
  (try simp only [W0])
  unfold F5_j1 F5_j10 F5_j11
  cases sd with
  | true =>
    (try simp only [W0])
    unfold F5_j12
    refine bld_a ?_
    refine cal_h (send_spec (m := ms0) (th := 1) (wait := false) (dl := 0) ⟨TR.nil, by simp [ms0]⟩ (by simp) hq (by decide) (by decide) H) ?_
    rintro _ w ⟨sh1, se, sn, rfl, D1, sm1, sr1, ss1, cm1, cr1, cs1, ce, cn, hse, hsn, hq1, hes, H⟩
    generalize hm1 : ({ ms0 with sh := sh1 } : Ms) = m1 at *
    have e1 : (q0 1 8).send 1 m1 false 0 = ⟨false, [], [], 0, { q0 1 8 with num := 1, ms := [⟨m1, 1⟩] }⟩ := by subst hm1; rfl
    rw [e1] at hse hsn hq1 H ⊢
    (try simp only [W0])
    refine bld_a ?_
    generalize hqq1 : ({ q0 1 8 with num := 1, ms := [⟨m1, 1⟩] } : Q25) = q1 at *
    have hmx1 : q1.max ≤ 64 := by subst hqq1; simp [q0]
    have hnum1 : 0 ≤ q1.num ∧ q1.num < 2 ^ 60 := by subst hqq1; simp
    refine cal_h (send_spec (m := ms0) (th := 2) (wait := true) (dl := dl) ⟨TR.nil, by simp [ms0]⟩ (by intro c hc; simpa using hc) hq1 hmx1 hnum1 H.right.right) ?_
    rintro _ w ⟨sh2, se2, sn2, rfl, D2, sm2, sr2, ss2, cm2, cr2, cs2, ce2, cn2, hse2, hsn2, hq2, hes2, H⟩
    (try simp only [W0])
    have hv : validT 2 dl = (decide (0 ≤ dl) && decide (dl ≤ 1099511627776)) := by unfold validT; simp
    refine times_end (dl := dl) (D := D2 ++ (D1 ++ [])) (fun c hc => by simp at hc ⊢; exact hc) hq2 ?_ ?_ H.right.right (fun _ => trivial) hfin
    · subst hqq1 hm1
      by_cases hdl : dl < 0 ∨ 1099511627776 < dl
      · rw [if_pos hdl]
        have : validT 2 dl = false := by rw [hv]; rcases hdl with h | h <;> simp <;> omega
        unfold Q25.send; rw [if_pos (.inl this)]
      · rw [if_neg hdl]
        have hvt : validT 2 dl = true := by rw [hv]; simp; omega
        have hb : blockE ({ q0 1 8 with num := 1, ms := [⟨{ ms0 with sh := sh1 }, 1⟩] } : Q25) true dl 0 = 0 := by
          unfold blockE; rw [if_neg (by simp), if_neg (by simp [q0]; omega), if_neg (by omega)]
        unfold Q25.send
        rw [if_neg (by simp [hvt, ms0]), if_neg (by simp [ms0, q0]), if_neg (by simp [Q25.blocked, q0]), if_neg (by simp [q0]), if_neg (by simpa [q0] using hb)]
        exact ⟨rfl, .inl ⟨⟨_, rfl⟩, rfl⟩⟩
    · subst hqq1
      unfold Q25.send
      split <;> try rfl
      split <;> try rfl
      split <;> try rfl
      split
      · rename_i h; simp [q0] at h
      split <;> rfl
  | false =>
    (try simp only [W0])
    unfold F5_j13
    refine cal_h (recv_spec (th := 2) (wait := true) (dl := dl) (by simp) hq (by decide) (by decide) H) ?_
    rintro _ w ⟨cp, se2, sn2, hcp, hok, rfl, D2, sm2, sr2, ss2, cm2, cr2, cs2, ce2, cn2, hse2, hsn2, hq2, hes2, H⟩
    (try simp only [W0])
    have hv : validT 2 dl = (decide (0 ≤ dl) && decide (dl ≤ 1099511627776)) := by unfold validT; simp
    refine times_end (dl := dl) (D := D2 ++ []) (fun c hc => by simp at hc ⊢; exact hc) hq2 ?_ ?_ H.right.right (fun _ => trivial) hfin
    · by_cases hdl : dl < 0 ∨ 1099511627776 < dl
      · rw [if_pos hdl]
        have : validT 2 dl = false := by rw [hv]; rcases hdl with h | h <;> simp <;> omega
        unfold Q25.recv; rw [if_pos this]
      · rw [if_neg hdl]
        have hvt : validT 2 dl = true := by rw [hv]; simp; omega
        have hb : blockE (q0 1 8) true dl 0 = 0 := by
          unfold blockE; rw [if_neg (by simp), if_neg (by simp [q0]; omega), if_neg (by omega)]
        have hpk : (popK (q0 1 8).ms)[(q0 1 8).ms.length - 1]? = none := rfl
        unfold Q25.recv
        rw [if_neg (by simp [hvt]), if_neg (by simp [Q25.blocked, q0]), hpk]
        simp only
        rw [if_neg (by simpa [q0] using hb)]
        exact ⟨rfl, .inr ⟨rfl, rfl⟩⟩
    · have hpk : (popK (q0 1 8).ms)[(q0 1 8).ms.length - 1]? = none := rfl
      unfold Q25.recv
      split <;> try rfl
      split <;> try rfl
      rw [hpk]
      simp only
      split <;> rfl
end
end Go.Proofs.Ythcekppbbanfeaa.Den
