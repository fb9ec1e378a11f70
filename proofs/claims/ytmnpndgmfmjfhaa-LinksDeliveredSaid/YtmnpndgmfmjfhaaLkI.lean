/- Links: what a link keeps to, kept; and how a link breaks. Conditions: none. -/
import Derived.Test.YtmnpndgmfmjfhaaLkY
set_option linter.unusedVariables false
set_option linter.unusedSimpArgs false
set_option maxRecDepth 8000
namespace Go.Proofs.Ytmnpndgmfmjfhaa.Den
open Go Go.RowKit
theorem outUs_at (again : Bool) (now q : Int) (ws : List Int) : ∀ (n : Nat) (t : Int) (us : List UM), ∀ u ∈ (outUs again now q ws n t us).2.1, u.at_ = now ∨ ∃ v ∈ us, v.at_ = u.at_
  | 0, t, us, u, h => .inr ⟨u, h, rfl⟩
  | n + 1, t, [], u, h => by simp [outUs] at h
  | n + 1, t, v :: r, u, h => by
    unfold outUs at h
    split at h
    · rcases List.mem_cons.1 h with rfl | h
      · exact .inr ⟨_, List.mem_cons_self, rfl⟩
      · rcases outUs_at again now q ws n t r u h with h | ⟨x, hx, e⟩
        · exact .inl h
        · exact .inr ⟨x, List.mem_cons_of_mem _ hx, e⟩
    · rcases List.mem_cons.1 h with rfl | h
      · exact .inl rfl
      · rcases outUs_at again now q ws n _ r u h with h | ⟨x, hx, e⟩
        · exact .inl h
        · exact .inr ⟨x, List.mem_cons_of_mem _ hx, e⟩
theorem overT_le (q t : Int) : t ≤ overT q t ∧ overT q t ≤ t + 1 := by unfold overT; split <;> (try split) <;> omega
theorem outUs_turn (again : Bool) (now q : Int) (ws : List Int) : ∀ (n : Nat) (t : Int) (us : List UM), t ≤ (outUs again now q ws n t us).2.2 ∧ (outUs again now q ws n t us).2.2 ≤ t + n
  | 0, t, us => by simp [outUs]
  | n + 1, t, [] => by simp [outUs]; omega
  | n + 1, t, v :: r => by
    unfold outUs
    split
    · have := outUs_turn again now q ws n t r; simp only; omega
    · have := outUs_turn again now q ws n (overT q t) r
      have := overT_le q t
      simp only; omega
theorem timeE_zero {M : LM} {now : Int} (h : timeE M now = 0) : 0 ≤ now ∧ now ≤ 1099511627776 ∧ M.clock ≤ now ∧ M.broken = false := by
  unfold timeE at h
  split at h
  · cases h
  · split at h
    · cases h
    · split at h
      · cases h
      · rename_i h1 h2 h3
        exact ⟨by omega, by omega, by omega, by simpa using h3⟩
theorem wf_out {M : LM} {now : Int} (h : Wf M) (ht : M.turn + 8 < 1125899906842624) : Wf (outM M now) ∧ (outM M now).us.length = M.us.length ∧ (outM M now).acks.length ≤ M.acks.length ∧ M.turn ≤ (outM M now).turn ∧ (outM M now).turn ≤ M.turn + 8 := by
  unfold outM
  split
  · exact ⟨h, rfl, Nat.le_refl _, Int.le_refl _, by omega⟩
  · rename_i h0
    obtain ⟨t1, t2, t3, t4⟩ := timeE_zero (Decidable.not_not.1 h0)
    split
    · exact ⟨{ h with }, rfl, Nat.le_refl _, Int.le_refl _, by simp only; omega⟩
    · rename_i h1
      split
      · exact ⟨{ h with clock := ⟨t1, t2⟩, aw := by intro a ha; simp at ha, al := by simp }, rfl, Nat.zero_le _, Int.le_refl _, by simp only; omega⟩
      · rename_i h2
        have ho := outUs_turn (againB M now) now M.quality (useI 0 M.up) 8 M.turn M.us
        have hl := outUs_len (againB M now) now M.quality (useI 0 M.up) 8 M.turn M.us
        have hT := h.turn
        have hR := h.rep
        refine ⟨{ h with clock := ⟨t1, t2⟩, aw := by intro a ha; simp at ha, al := by simp, turn := ⟨by simp only; omega, by simp only; omega⟩, rep := ?_, at_ := ?_, ul := by simp only [hl]; exact h.ul }, hl, Nat.zero_le _, ho.1, ho.2⟩
        · simp only
          split
          · rename_i ha
            have : M.repeats ≠ 6 := fun e => h1 ⟨ha, h2, e⟩
            omega
          · exact hR
        · intro u hu
          rcases outUs_at _ _ _ _ _ _ _ u hu with e | ⟨v, hv, e⟩
          · rw [e]; omega
          · rw [← e]; exact h.at_ v hv
theorem addU_at (sent : Int) : ∀ (k : Nat) (ps : List (List Int)), ∀ u ∈ addU sent k ps, u.at_ = -1
  | _, [], u, h => by simp [addU] at h
  | k, p :: ps, u, h => by
    rcases List.mem_cons.1 h with rfl | h
    · rfl
    · exact addU_at sent (k + 1) ps u h
theorem setLast_at {l : List UM} : ∀ u ∈ setLast l, ∃ v ∈ l, v.at_ = u.at_ := by
  intro u hu
  unfold setLast at hu
  split at hu
  · rename_i x hx
    rcases List.mem_or_eq_of_mem_set hu with h | rfl
    · exact ⟨u, h, rfl⟩
    · exact ⟨x, List.mem_of_getElem? hx, rfl⟩
  · exact ⟨u, hu, rfl⟩
theorem sendE_zero {M : LM} {d : List Int} {now : Int} (h : sendE M d now = 0) : timeE M now = 0 ∧ M.sent - M.done < 64 ∧ M.sent < 1099511627776 ∧ d.length ≤ 4096 := by
  unfold sendE at h
  split at h
  · cases h
  · split at h
    · rename_i h1 h2; exact absurd h h2
    · split at h
      · cases h
      · split at h
        · cases h
        · rename_i h1 h2 h3 h4
          exact ⟨Decidable.not_not.1 h2, by omega, by omega, by omega⟩
theorem send_len {M : LM} {d : List Int} {now : Int} : (sendM M d now).us.length ≤ M.us.length + d.length + 1 ∧ M.us.length ≤ (sendM M d now).us.length := by
  unfold sendM
  split
  · have := pcs_length (d.length + 1) (M.size - 24).toNat d
    simp only [setLast_eq, List.length_append, addU_length]; omega
  · omega
theorem wf_send {M : LM} {d : List Int} {now : Int} (h : Wf M) (hu : M.us.length + d.length + 1 < 268435456) : Wf (sendM M d now) ∧ (sendM M d now).acks = M.acks ∧ (sendM M d now).turn = M.turn := by
  have hl := (send_len (M := M) (d := d) (now := now)).1
  unfold sendM at hl ⊢
  split
  · rename_i he
    rw [if_pos he] at hl
    obtain ⟨ht, h1, h2, h3⟩ := sendE_zero he
    obtain ⟨t1, t2, t3, t4⟩ := timeE_zero ht
    have hs := h.sd
    refine ⟨{ h with clock := ⟨t1, t2⟩, sd := by simp only; omega, ul := by omega, at_ := ?_ }, rfl, rfl⟩
    intro u hu
    obtain ⟨v, hv, e⟩ := setLast_at u hu
    rw [← e]
    rcases List.mem_append.1 hv with hv | hv
    · exact h.at_ v hv
    · rw [addU_at _ _ _ v hv]; omega
  · exact ⟨h, rfl, rfl⟩
/-! ### a link whose frames are lost -/
theorem useI_true : ∀ (n i : Nat), 0 < n → useI i (List.replicate n true) ≠ []
  | n + 1, i, _ => by simp [List.replicate_succ, useI]
theorem overI_ne {q t : Int} {ws : List Int} (h : ws ≠ []) (ht : 0 ≤ t) : overI q t ws ≠ [] := by
  have hl : 0 < ws.length := List.length_pos_iff.2 h
  unfold overI
  split
  · intro h'; exact h ((List.take_eq_nil_iff.1 h').resolve_left (by decide))
  · split
    · intro h'
      have := congrArg List.length h'
      simp only [List.length_take, List.length_drop, List.length_nil] at this
      have h2 := Int.tmod_eq_emod_of_nonneg (b := (ws.length : Int)) ht
      have h3 := Int.emod_lt_of_pos t (b := (ws.length : Int)) (by omega)
      have h4 := Int.emod_nonneg t (b := (ws.length : Int)) (by omega)
      rw [h2] at this
      generalize t % (ws.length : Int) = r at this h3 h4
      omega
    · exact h
theorem outUs_take (again : Bool) (now q : Int) (ws : List Int) : ∀ (n : Nat) (t : Int) (us : List UM), (again = true ∨ ∀ u ∈ us.take n, u.at_ = -1) → ∀ u ∈ (outUs again now q ws n t us).2.1.take n, u.at_ = now
  | 0, t, us, _, u, h => by simp at h
  | n + 1, t, [], _, u, h => by simp [outUs] at h
  | n + 1, t, v :: r, h0, u, h => by
    have hr : again = true ∨ ∀ u ∈ r.take n, u.at_ = -1 := h0.imp id fun h0 u hu => h0 u (by simp [hu])
    have hc : ¬ ((!again && decide (0 ≤ v.at_)) = true) := by
      rcases h0 with rfl | h0
      · simp
      · have := h0 v (by simp); simp [this]
    unfold outUs at h
    rw [if_neg hc] at h
    simp only [List.take_succ_cons] at h
    rcases List.mem_cons.1 h with rfl | h
    · rfl
    · exact outUs_take again now q ws n _ r hr u h
theorem outUs_ne {again : Bool} {now q t : Int} {ws : List Int} {us : List UM} (hws : ws ≠ []) (ht : 0 ≤ t) (hus : us ≠ []) (h0 : again = true ∨ ∀ u ∈ us.take 8, u.at_ = -1) : (outUs again now q ws 8 t us).1 ≠ [] := by
  cases us with
  | nil => exact absurd rfl hus
  | cons v r =>
    have hc : ¬ ((!again && decide (0 ≤ v.at_)) = true) := by
      rcases h0 with rfl | h0
      · simp
      · have := h0 v (by simp); simp [this]
    unfold outUs
    rw [if_neg hc]
    have := overI_ne (q := q) hws ht
    intro h
    have h2 := (List.append_eq_nil_iff.1 h).1
    unfold outWs at h2
    exact this (List.map_eq_nil_iff.1 h2)
/-- After n outputs, all lost. -/
structure Br (i : Nat) (M : LM) : Prop where
  wf : Wf M
  up : useI 0 M.up ≠ []
  acks : M.acks = []
  nb : M.broken = false
  us : M.us ≠ []
  tu : M.turn ≤ 8 * (i : Int)
  cl : M.clock ≤ 30 * (i : Int)
  to_ : M.timeout ≤ 30
  at_ : ∀ u ∈ M.us.take 8, u.at_ = if i = 0 then -1 else M.clock
  rp : M.repeats = if i = 0 then 0 else (i : Int) - 1
theorem fIdx_neg {p : UM → Bool} : ∀ (i : Nat) (l : List UM), (∀ u ∈ l, p u = false) → fIdx p i l = -1
  | _, [], _ => rfl
  | i, u :: r, h => by unfold fIdx; rw [h u (by simp)]; exact fIdx_neg (i + 1) r fun v hv => h v (by simp [hv])
theorem br_next {i : Nat} {M : LM} (h : Br i M) (hi : i ≤ 7) : nextV M = (if i = 0 then M.clock else M.clock + M.timeout, true) := by
  unfold nextV
  have ha := h.at_
  have hwf := h.wf
  rw [h.nb, h.acks]
  obtain ⟨u, r, hus⟩ : ∃ u r, M.us = u :: r := by
    cases hu : M.us with
    | nil => exact absurd hu h.us
    | cons u r => exact ⟨u, r, rfl⟩
  rw [hus] at ha ⊢
  by_cases h0 : i = 0
  · subst h0
    have hp : 0 ≤ pend M := by
      unfold pend; rw [hus]
      have := ha u (by simp)
      simp only [List.take_succ_cons, fIdx]
      rw [this]; simp
    simp [hp]
  · have hp : pend M = -1 := by
      unfold pend; rw [hus]
      refine fIdx_neg 0 _ fun v hv => ?_
      have := ha v hv
      rw [if_neg h0] at this
      have := hwf.clock
      simp; omega
    have := ha u (by simp)
    rw [if_neg h0] at this
    have := hwf.tout
    simp [hp, h0]
    omega
theorem br_step {i : Nat} {M : LM} (h : Br i M) (hi : i ≤ 6) : outE M (nextV M).1 = 0 ∧ outV M (nextV M).1 ≠ [] ∧ Br (i + 1) (outM M (nextV M).1) := by
  have hn := br_next h (by omega)
  have hwf := h.wf
  have hc := hwf.clock
  have ht := hwf.tout
  have hrp := h.rp
  have hat := h.at_
  have hcl := h.cl
  have hto := h.to_
  rw [hn]
  generalize hnow : (if i = 0 then M.clock else M.clock + M.timeout) = now
  simp only
  have hN : M.clock ≤ now ∧ now ≤ M.clock + 30 ∧ 0 ≤ now := by rw [← hnow]; split <;> omega
  have e0 : timeE M now = 0 := by
    unfold timeE
    rw [if_neg (by omega), if_neg (by omega), if_neg (by rw [h.nb]; decide)]
  obtain ⟨u, r, hus⟩ : ∃ u r, M.us = u :: r := by
    cases hu : M.us with
    | nil => exact absurd hu h.us
    | cons u r => exact ⟨u, r, rfl⟩
  have hu : u.at_ = if i = 0 then -1 else M.clock := hat u (by rw [hus]; simp)
  have hag : againB M now = decide (i ≠ 0) := by
    unfold againB; rw [hus]; simp only; rw [hu]
    by_cases h0 : i = 0
    · simp [h0]
    · rw [if_neg h0] at hnow
      simp [h0]; omega
  have h0 : againB M now = true ∨ ∀ u ∈ M.us.take 8, u.at_ = -1 := by
    by_cases h0 : i = 0
    · right; intro v hv; rw [hat v hv, if_pos h0]
    · left; rw [hag]; simp [h0]
  have hr6 : M.repeats ≠ 6 := by rw [hrp]; split <;> omega
  have eE : outE M now = 0 := by
    unfold outE
    rw [if_neg (by rw [e0]; decide), if_neg (by rintro ⟨_, _, h⟩; exact hr6 h)]
  have hT := hwf.turn
  have eV : outV M now ≠ [] := by
    unfold outV
    rw [if_neg (by rw [eE]; decide), if_neg h.up, h.acks]
    exact outUs_ne h.up hT.1 h.us h0
  have htu := h.tu
  obtain ⟨w1, w2, w3, w4, w5⟩ := wf_out (now := now) hwf (by omega)
  refine ⟨eE, eV, ?_⟩
  have eM : outM M now = { M with clock := now, acks := [], repeats := if againB M now then M.repeats + 1 else M.repeats, us := (outUs (againB M now) now M.quality (useI 0 M.up) 8 M.turn M.us).2.1, turn := (outUs (againB M now) now M.quality (useI 0 M.up) 8 M.turn M.us).2.2 } := by
    unfold outM
    rw [if_neg (by rw [e0]; decide), if_neg (by rintro ⟨_, _, h⟩; exact hr6 h), if_neg h.up]
  refine ⟨w1, by rw [eM]; exact h.up, by rw [eM], by rw [eM]; exact h.nb, ?_, by omega, by rw [eM]; simp only; omega, by rw [eM]; exact hto, ?_, ?_⟩
  · intro h'; have := congrArg List.length h'; rw [w2, hus] at this; simp at this
  · rw [eM]; simp only
    intro v hv
    rw [outUs_take _ _ _ _ 8 _ _ h0 v hv]; simp
  · rw [eM]; simp only
    rw [hag, hrp]
    by_cases h0 : i = 0
    · simp [h0]
    · simp [h0]
theorem br_end {M : LM} (h : Br 7 M) : outE M (nextV M).1 = 4 ∧ outM M (nextV M).1 = { M with broken := true } := by
  have hn := br_next h (by omega)
  have hwf := h.wf
  have hc := hwf.clock
  have ht := hwf.tout
  have hrp := h.rp
  have hat := h.at_
  have hcl := h.cl
  have hto := h.to_
  rw [hn]
  have e0 : timeE M (M.clock + M.timeout) = 0 := by
    unfold timeE
    rw [if_neg (by omega), if_neg (by omega), if_neg (by rw [h.nb]; decide)]
  obtain ⟨u, r, hus⟩ : ∃ u r, M.us = u :: r := by
    cases hu : M.us with
    | nil => exact absurd hu h.us
    | cons u r => exact ⟨u, r, rfl⟩
  have hu : u.at_ = M.clock := hat u (by rw [hus]; simp)
  have hag : againB M (M.clock + M.timeout) = true := by
    unfold againB; rw [hus]; simp only; rw [hu]
    simp; omega
  have hr6 : M.repeats = 6 := hrp
  constructor
  · show outE M (M.clock + M.timeout) = 4
    unfold outE
    rw [if_neg (by rw [e0]; decide), if_pos ⟨hag, h.up, hr6⟩]
  · show outM M (M.clock + M.timeout) = _
    unfold outM
    rw [if_neg (by rw [e0]; decide), if_pos ⟨hag, h.up, hr6⟩]
theorem pcs_ne (n sz : Nat) (d : List Int) : pcs (n + 1) sz d ≠ [] := by unfold pcs; split <;> simp
theorem br_begin {a b c d : Int} {xs : List Int} (hx : xs.length ≤ 200) : sendE (cfM a b c d) xs 0 = 0 ∧ Br 0 (sendM (cfM a b c d) xs 0) := by
  have hW := cf_W a
  have hS : 32 ≤ cfS b ∧ cfS b ≤ 4096 := by unfold cfS; omega
  have hT : 1 ≤ cfT d ∧ cfT d ≤ 30 := by unfold cfT; omega
  have wf : Wf (cfM a b c d) := newM_wf (q := cfQ c) hW.1 (by omega) hS ⟨hT.1, by omega⟩
  have e : sendE (cfM a b c d) xs 0 = 0 := by
    unfold sendE
    rw [if_neg (by omega), if_neg (by unfold timeE cfM newM; simp), if_neg (by simp [cfM, newM]), if_neg (by simp [cfM, newM])]
  obtain ⟨w1, w2, w3⟩ := wf_send (d := xs) (now := 0) wf (by simp [cfM, newM]; omega)
  have eM : sendM (cfM a b c d) xs 0 = { cfM a b c d with clock := 0, sent := (cfM a b c d).sent + 1, us := setLast ((cfM a b c d).us ++ addU ((cfM a b c d).sent + 1) 0 (pcs (xs.length + 1) ((cfM a b c d).size - 24).toNat xs)) } := by
    unfold sendM; rw [if_pos e]
  refine ⟨e, w1, ?_, by rw [w2]; rfl, by rw [eM]; rfl, ?_, by rw [w3]; simp [cfM, newM], by rw [eM]; simp, by rw [eM]; exact hT.2, ?_, by rw [eM]; rfl⟩
  · rw [eM]; exact useI_true _ 0 (by omega)
  · rw [eM]; intro h
    have := congrArg List.length h
    simp only [setLast_eq, List.length_append, addU_length, List.length_nil] at this
    have h2 := pcs_ne xs.length ((cfM a b c d).size - 24).toNat xs
    exact h2 (List.length_eq_zero_iff.1 (by omega))
  · rw [eM]; intro u hu
    obtain ⟨v, hv, e⟩ := setLast_at u (List.mem_of_mem_take hu)
    rw [← e]
    rcases List.mem_append.1 hv with hv | hv
    · simp [cfM, newM] at hv
    · rw [addU_at _ _ _ v hv]; rfl
end Go.Proofs.Ytmnpndgmfmjfhaa.Den
