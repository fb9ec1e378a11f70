/- Links: what a link keeps to, kept; and how a link breaks. Conditions: none. -/
import Derived.Test.YtmnpndgmfmjfhaaQ8
section
set_option linter.unusedVariables false
set_option linter.unusedSimpArgs false
set_option maxRecDepth 8000
namespace Go.Proofs.Ytmnpndgmfmjfhaa.Den
open Go Go.RowKit
theorem outUs_at (again : Bool) (now q : Int) (ws : List Int) : ∀ (n : Nat) (t : Int) (us : List UM), ∀ u ∈ (outUs again now q ws n t us).2.1, u.at_ = now ∨ ∃ v ∈ us, v.at_ = u.at_
  | 0, t, us, u, h => .inr ⟨u, h, rfl⟩
  | n + 1, t, [], u, h => by simp [outUs] at h
  | n + 1, t, v :: r, u, h => by
    unfold outUs at h
    split at h
    · rcases List.mem_cons.1 h with rfl | h
      · exact .inr ⟨_, List.mem_cons_self, rfl⟩
      · rcases outUs_at again now q ws n t r u h with h | ⟨x, hx, e⟩
        · exact .inl h
        · exact .inr ⟨x, List.mem_cons_of_mem _ hx, e⟩
    · rcases List.mem_cons.1 h with rfl | h
      · exact .inl rfl
      · rcases outUs_at again now q ws n _ r u h with h | ⟨x, hx, e⟩
        · exact .inl h
        · exact .inr ⟨x, List.mem_cons_of_mem _ hx, e⟩
theorem overT_le (q t : Int) : t ≤ overT q t ∧ overT q t ≤ t + 1 := by unfold overT; split <;> (try split) <;> omega
theorem outUs_turn (again : Bool) (now q : Int) (ws : List Int) : ∀ (n : Nat) (t : Int) (us : List UM), t ≤ (outUs again now q ws n t us).2.2 ∧ (outUs again now q ws n t us).2.2 ≤ t + n
  | 0, t, us => by simp [outUs]
  | n + 1, t, [] => by simp [outUs]; omega
  | n + 1, t, v :: r => by
    unfold outUs
    split
    · have := outUs_turn again now q ws n t r; simp only; omega
    · have := outUs_turn again now q ws n (overT q t) r
      have := overT_le q t
      simp only; omega
theorem timeE_zero {M : LM} {now : Int} (h : timeE M now = 0) : 0 ≤ now ∧ now ≤ 1099511627776 ∧ M.clock ≤ now ∧ M.broken = false := by
  unfold timeE at h
  split at h
  · cases h
  · split at h
    · cases h
    · split at h
      · cases h
      · rename_i h1 h2 h3
        exact ⟨by omega, by omega, by omega, by simpa using h3⟩
theorem wf_out {M : LM} {now : Int} (h : Wf M) (ht : M.turn + 8 < 1125899906842624) : Wf (outM M now) ∧ (outM M now).us.length = M.us.length ∧ (outM M now).acks.length ≤ M.acks.length ∧ M.turn ≤ (outM M now).turn ∧ (outM M now).turn ≤ M.turn + 8 := by
  unfold outM
  split
  · exact ⟨h, rfl, Nat.le_refl _, Int.le_refl _, by omega⟩
  · rename_i h0
    obtain ⟨t1, t2, t3, t4⟩ := timeE_zero (Decidable.not_not.1 h0)
    split
    · exact ⟨{ h with }, rfl, Nat.le_refl _, Int.le_refl _, by simp only; omega⟩
    · rename_i h1
      split
      · exact ⟨{ h with clock := ⟨t1, t2⟩, aw := by intro a ha; simp at ha, al := by simp }, rfl, Nat.zero_le _, Int.le_refl _, by simp only; omega⟩
      · rename_i h2
        have ho := outUs_turn (againB M now) now M.quality (useI 0 M.up) 8 M.turn M.us
        have hl := outUs_len (againB M now) now M.quality (useI 0 M.up) 8 M.turn M.us
        have hT := h.turn
        have hR := h.rep
        refine ⟨{ h with clock := ⟨t1, t2⟩, aw := by intro a ha; simp at ha, al := by simp, turn := ⟨by simp only; omega, by simp only; omega⟩, rep := ?_, at_ := ?_, ul := by simp only [hl]; exact h.ul }, hl, Nat.zero_le _, ho.1, ho.2⟩
        · simp only
          split
          · rename_i ha
            have : M.repeats ≠ 6 := fun e => h1 ⟨ha, h2, e⟩
            omega
          · exact hR
        · intro u hu
          rcases outUs_at _ _ _ _ _ _ _ u hu with e | ⟨v, hv, e⟩
          · rw [e]; omega
          · rw [← e]; exact h.at_ v hv
theorem addU_at (sent : Int) : ∀ (k : Nat) (ps : List (List Int)), ∀ u ∈ addU sent k ps, u.at_ = -1
  | _, [], u, h => by simp [addU] at h
  | k, p :: ps, u, h => by
    rcases List.mem_cons.1 h with rfl | h
    · rfl
    · exact addU_at sent (k + 1) ps u h
theorem setLast_at {l : List UM} : ∀ u ∈ setLast l, ∃ v ∈ l, v.at_ = u.at_ := by
  intro u hu
  unfold setLast at hu
  split at hu
  · rename_i x hx
    rcases List.mem_or_eq_of_mem_set hu with h | rfl
    · exact ⟨u, h, rfl⟩
    · exact ⟨x, List.mem_of_getElem? hx, rfl⟩
  · exact ⟨u, hu, rfl⟩
theorem sendE_zero {M : LM} {d : List Int} {now : Int} (h : sendE M d now = 0) : timeE M now = 0 ∧ M.sent - M.done < 64 ∧ M.sent < 1099511627776 ∧ d.length ≤ 4096 := by
  unfold sendE at h
  split at h
  · cases h
  · split at h
    · rename_i h1 h2; exact absurd h h2
    · split at h
      · cases h
      · split at h
        · cases h
        · rename_i h1 h2 h3 h4
          exact ⟨Decidable.not_not.1 h2, by omega, by omega, by omega⟩
theorem send_len {M : LM} {d : List Int} {now : Int} : (sendM M d now).us.length ≤ M.us.length + d.length + 1 ∧ M.us.length ≤ (sendM M d now).us.length := by
  unfold sendM
  split
  · have := pcs_length (d.length + 1) (M.size - 24).toNat d
    simp only [setLast_eq, List.length_append, addU_length]; omega
  · omega
theorem wf_send {M : LM} {d : List Int} {now : Int} (h : Wf M) (hu : M.us.length + d.length + 1 < 268435456) : Wf (sendM M d now) ∧ (sendM M d now).acks = M.acks ∧ (sendM M d now).turn = M.turn := by
  have hl := (send_len (M := M) (d := d) (now := now)).1
  unfold sendM at hl ⊢
  split
  · rename_i he
    rw [if_pos he] at hl
    obtain ⟨ht, h1, h2, h3⟩ := sendE_zero he
    obtain ⟨t1, t2, t3, t4⟩ := timeE_zero ht
    have hs := h.sd
    refine ⟨{ h with clock := ⟨t1, t2⟩, sd := by simp only; omega, ul := by omega, at_ := ?_ }, rfl, rfl⟩
    intro u hu
    obtain ⟨v, hv, e⟩ := setLast_at u hu
    rw [← e]
    rcases List.mem_append.1 hv with hv | hv
    · exact h.at_ v hv
    · rw [addU_at _ _ _ v hv]; omega
  · exact ⟨h, rfl, rfl⟩
/-! ### a link whose frames are lost -/
theorem useI_true : ∀ (n i : Nat), 0 < n → useI i (List.replicate n true) ≠ []
  | n + 1, i, _ => by simp [List.replicate_succ, useI]
theorem overI_ne {q t : Int} {ws : List Int} (h : ws ≠ []) (ht : 0 ≤ t) : overI q t ws ≠ [] := by
  have hl : 0 < ws.length := List.length_pos_iff.2 h
  unfold overI
  split
  · intro h'; exact h ((List.take_eq_nil_iff.1 h').resolve_left (by decide))
  · split
    · intro h'
      have := congrArg List.length h'
      simp only [List.length_take, List.length_drop, List.length_nil] at this
      have h2 := Int.tmod_eq_emod_of_nonneg (b := (ws.length : Int)) ht
      have h3 := Int.emod_lt_of_pos t (b := (ws.length : Int)) (by omega)
      have h4 := Int.emod_nonneg t (b := (ws.length : Int)) (by omega)
      rw [h2] at this
      generalize t % (ws.length : Int) = r at this h3 h4
      omega
    · exact h
theorem outUs_take (again : Bool) (now q : Int) (ws : List Int) : ∀ (n : Nat) (t : Int) (us : List UM), (again = true ∨ ∀ u ∈ us.take n, u.at_ = -1) → ∀ u ∈ (outUs again now q ws n t us).2.1.take n, u.at_ = now
  | 0, t, us, _, u, h => by simp at h
  | n + 1, t, [], _, u, h => by simp [outUs] at h
  | n + 1, t, v :: r, h0, u, h => by
    have hr : again = true ∨ ∀ u ∈ r.take n, u.at_ = -1 := h0.imp id fun h0 u hu => h0 u (by simp [hu])
    have hc : ¬ ((!again && decide (0 ≤ v.at_)) = true) := by
      rcases h0 with rfl | h0
      · simp
      · have := h0 v (by simp); simp [this]
    unfold outUs at h
    rw [if_neg hc] at h
    simp only [List.take_succ_cons] at h
    rcases List.mem_cons.1 h with rfl | h
    · rfl
    · exact outUs_take again now q ws n _ r hr u h
theorem outUs_ne {again : Bool} {now q t : Int} {ws : List Int} {us : List UM} (hws : ws ≠ []) (ht : 0 ≤ t) (hus : us ≠ []) (h0 : again = true ∨ ∀ u ∈ us.take 8, u.at_ = -1) : (outUs again now q ws 8 t us).1 ≠ [] := by
  cases us with
  | nil => exact absurd rfl hus
  | cons v r =>
    have hc : ¬ ((!again && decide (0 ≤ v.at_)) = true) := by
      rcases h0 with rfl | h0
      · simp
      · have := h0 v (by simp); simp [this]
    unfold outUs
    rw [if_neg hc]
    have := overI_ne (q := q) hws ht
    intro h
    have h2 := (List.append_eq_nil_iff.1 h).1
    unfold outWs at h2
    exact this (List.map_eq_nil_iff.1 h2)
/-- After n outputs, all lost. -/
structure Br (i : Nat) (M : LM) : Prop where
  wf : Wf M
  up : useI 0 M.up ≠ []
  acks : M.acks = []
  nb : M.broken = false
  us : M.us ≠ []
  tu : M.turn ≤ 8 * (i : Int)
  cl : M.clock ≤ 30 * (i : Int)
  to_ : M.timeout ≤ 30
  at_ : ∀ u ∈ M.us.take 8, u.at_ = if i = 0 then -1 else M.clock
  rp : M.repeats = if i = 0 then 0 else (i : Int) - 1
theorem fIdx_neg {p : UM → Bool} : ∀ (i : Nat) (l : List UM), (∀ u ∈ l, p u = false) → fIdx p i l = -1
  | _, [], _ => rfl
  | i, u :: r, h => by unfold fIdx; rw [h u (by simp)]; exact fIdx_neg (i + 1) r fun v hv => h v (by simp [hv])
theorem br_next {i : Nat} {M : LM} (h : Br i M) (hi : i ≤ 7) : nextV M = (if i = 0 then M.clock else M.clock + M.timeout, true) := by
  unfold nextV
  have ha := h.at_
  have hwf := h.wf
  rw [h.nb, h.acks]
  obtain ⟨u, r, hus⟩ : ∃ u r, M.us = u :: r := by
    cases hu : M.us with
    | nil => exact absurd hu h.us
    | cons u r => exact ⟨u, r, rfl⟩
  rw [hus] at ha ⊢
  by_cases h0 : i = 0
  · subst h0
    have hp : 0 ≤ pend M := by
      unfold pend; rw [hus]
      have := ha u (by simp)
      simp only [List.take_succ_cons, fIdx]
      rw [this]; simp
    simp [hp]
  · have hp : pend M = -1 := by
      unfold pend; rw [hus]
      refine fIdx_neg 0 _ fun v hv => ?_
      have := ha v hv
      rw [if_neg h0] at this
      have := hwf.clock
      simp; omega
    have := ha u (by simp)
    rw [if_neg h0] at this
    have := hwf.tout
    simp [hp, h0]
    omega
theorem br_step {i : Nat} {M : LM} (h : Br i M) (hi : i ≤ 6) : outE M (nextV M).1 = 0 ∧ outV M (nextV M).1 ≠ [] ∧ Br (i + 1) (outM M (nextV M).1) := by
  have hn := br_next h (by omega)
  have hwf := h.wf
  have hc := hwf.clock
  have ht := hwf.tout
  have hrp := h.rp
  have hat := h.at_
  have hcl := h.cl
  have hto := h.to_
  rw [hn]
  generalize hnow : (if i = 0 then M.clock else M.clock + M.timeout) = now
  simp only
  have hN : M.clock ≤ now ∧ now ≤ M.clock + 30 ∧ 0 ≤ now := by rw [← hnow]; split <;> omega
  have e0 : timeE M now = 0 := by
    unfold timeE
    rw [if_neg (by omega), if_neg (by omega), if_neg (by rw [h.nb]; decide)]
  obtain ⟨u, r, hus⟩ : ∃ u r, M.us = u :: r := by
    cases hu : M.us with
    | nil => exact absurd hu h.us
    | cons u r => exact ⟨u, r, rfl⟩
  have hu : u.at_ = if i = 0 then -1 else M.clock := hat u (by rw [hus]; simp)
  have hag : againB M now = decide (i ≠ 0) := by
    unfold againB; rw [hus]; simp only; rw [hu]
    by_cases h0 : i = 0
    · simp [h0]
    · rw [if_neg h0] at hnow
      simp [h0]; omega
  have h0 : againB M now = true ∨ ∀ u ∈ M.us.take 8, u.at_ = -1 := by
    by_cases h0 : i = 0
    · right; intro v hv; rw [hat v hv, if_pos h0]
    · left; rw [hag]; simp [h0]
  have hr6 : M.repeats ≠ 6 := by rw [hrp]; split <;> omega
  have eE : outE M now = 0 := by
    unfold outE
    rw [if_neg (by rw [e0]; decide), if_neg (by rintro ⟨_, _, h⟩; exact hr6 h)]
  have hT := hwf.turn
  have eV : outV M now ≠ [] := by
    unfold outV
    rw [if_neg (by rw [eE]; decide), if_neg h.up, h.acks]
    exact outUs_ne h.up hT.1 h.us h0
  have htu := h.tu
  obtain ⟨w1, w2, w3, w4, w5⟩ := wf_out (now := now) hwf (by omega)
  refine ⟨eE, eV, ?_⟩
  have eM : outM M now = { M with clock := now, acks := [], repeats := if againB M now then M.repeats + 1 else M.repeats, us := (outUs (againB M now) now M.quality (useI 0 M.up) 8 M.turn M.us).2.1, turn := (outUs (againB M now) now M.quality (useI 0 M.up) 8 M.turn M.us).2.2 } := by
    unfold outM
    rw [if_neg (by rw [e0]; decide), if_neg (by rintro ⟨_, _, h⟩; exact hr6 h), if_neg h.up]
  refine ⟨w1, by rw [eM]; exact h.up, by rw [eM], by rw [eM]; exact h.nb, ?_, by omega, by rw [eM]; simp only; omega, by rw [eM]; exact hto, ?_, ?_⟩
  · intro h'; have := congrArg List.length h'; rw [w2, hus] at this; simp at this
  · rw [eM]; simp only
    intro v hv
    rw [outUs_take _ _ _ _ 8 _ _ h0 v hv]; simp
  · rw [eM]; simp only
    rw [hag, hrp]
    by_cases h0 : i = 0
    · simp [h0]
    · simp [h0]
theorem br_end {M : LM} (h : Br 7 M) : outE M (nextV M).1 = 4 ∧ outM M (nextV M).1 = { M with broken := true } := by
  have hn := br_next h (by omega)
  have hwf := h.wf
  have hc := hwf.clock
  have ht := hwf.tout
  have hrp := h.rp
  have hat := h.at_
  have hcl := h.cl
  have hto := h.to_
  rw [hn]
  have e0 : timeE M (M.clock + M.timeout) = 0 := by
    unfold timeE
    rw [if_neg (by omega), if_neg (by omega), if_neg (by rw [h.nb]; decide)]
  obtain ⟨u, r, hus⟩ : ∃ u r, M.us = u :: r := by
    cases hu : M.us with
    | nil => exact absurd hu h.us
    | cons u r => exact ⟨u, r, rfl⟩
  have hu : u.at_ = M.clock := hat u (by rw [hus]; simp)
  have hag : againB M (M.clock + M.timeout) = true := by
    unfold againB; rw [hus]; simp only; rw [hu]
    simp; omega
  have hr6 : M.repeats = 6 := hrp
  constructor
  · show outE M (M.clock + M.timeout) = 4
    unfold outE
    rw [if_neg (by rw [e0]; decide), if_pos ⟨hag, h.up, hr6⟩]
  · show outM M (M.clock + M.timeout) = _
    unfold outM
    rw [if_neg (by rw [e0]; decide), if_pos ⟨hag, h.up, hr6⟩]
theorem pcs_ne (n sz : Nat) (d : List Int) : pcs (n + 1) sz d ≠ [] := by unfold pcs; split <;> simp
theorem br_begin {a b c d : Int} {xs : List Int} (hx : xs.length ≤ 200) : sendE (cfM a b c d) xs 0 = 0 ∧ Br 0 (sendM (cfM a b c d) xs 0) := by
  have hW := cf_W a
  have hS : 32 ≤ cfS b ∧ cfS b ≤ 4096 := by unfold cfS; omega
  have hT : 1 ≤ cfT d ∧ cfT d ≤ 30 := by unfold cfT; omega
  have wf : Wf (cfM a b c d) := newM_wf (q := cfQ c) hW.1 (by omega) hS ⟨hT.1, by omega⟩
  have e : sendE (cfM a b c d) xs 0 = 0 := by
    unfold sendE
    rw [if_neg (by omega), if_neg (by unfold timeE cfM newM; simp), if_neg (by simp [cfM, newM]), if_neg (by simp [cfM, newM])]
  obtain ⟨w1, w2, w3⟩ := wf_send (d := xs) (now := 0) wf (by simp [cfM, newM]; omega)
  have eM : sendM (cfM a b c d) xs 0 = { cfM a b c d with clock := 0, sent := (cfM a b c d).sent + 1, us := setLast ((cfM a b c d).us ++ addU ((cfM a b c d).sent + 1) 0 (pcs (xs.length + 1) ((cfM a b c d).size - 24).toNat xs)) } := by
    unfold sendM; rw [if_pos e]
  refine ⟨e, w1, ?_, by rw [w2]; rfl, by rw [eM]; rfl, ?_, by rw [w3]; simp [cfM, newM], by rw [eM]; simp, by rw [eM]; exact hT.2, ?_, by rw [eM]; rfl⟩
  · rw [eM]; exact useI_true _ 0 (by omega)
  · rw [eM]; intro h
    have := congrArg List.length h
    simp only [setLast_eq, List.length_append, addU_length, List.length_nil] at this
    have h2 := pcs_ne xs.length ((cfM a b c d).size - 24).toNat xs
    exact h2 (List.length_eq_zero_iff.1 (by omega))
  · rw [eM]; intro u hu
    obtain ⟨v, hv, e⟩ := setLast_at u (List.mem_of_mem_take hu)
    rw [← e]
    rcases List.mem_append.1 hv with hv | hv
    · simp [cfM, newM] at hv
    · rw [addU_at _ _ _ v hv]; rfl
end Go.Proofs.Ytmnpndgmfmjfhaa.Den
end

section
set_option linter.unusedVariables false
set_option linter.unusedSimpArgs false
set_option maxRecDepth 8000
namespace Go.Proofs.Ytmnpndgmfmjfhaa.Den
open Go Go.RowKit
section
variable {w w' : World} {w0 : Base} {T el sz bts n m : Nat} {z xs ys : List Value} {s src : Value} {cs F L : List Chunk} {K : VK} {R : ER}
/-- append where there is room. -/
theorem append_in {b cap : Nat} {l : List Value} {ty : Nat} {cc : Array Bool} (hT : ElT T el sz bts z) (H : Hp w0 w (⟨b, el, l⟩ :: F)) (hl : l.length = cap * sz) (hc : n + m ≤ cap) (hsrc : RdL w0 (⟨b, el, l⟩ :: F) sz src m ys) (hsc : ∀ c ∈ ys, scalar c = true)
    (k : ∀ w', Hp w0 w' (⟨b, el, lay l (n * sz) ys⟩ :: F) → K (.slice (some ⟨b, 0, none⟩) (n + m) cap) w') : blt Pg R .append ⟨[T, T]⟩ ty cc ⟨[.slice (some ⟨b, 0, none⟩) n cap, src]⟩ K w := by
  suffices hh : ∃ w', (Builtin.append_ #[T, T] ty #[.slice (some ⟨b, 0, none⟩) n cap, src]).run Pg w = .ok (.slice (some ⟨b, 0, none⟩) (n + m) cap) w' ∧ Hp w0 w' (⟨b, el, lay l (n * sz) ys⟩ :: F) by
    obtain ⟨w', h1, h2⟩ := hh
    unfold blt semV
    have : (builtin .append ⟨[T, T]⟩ ty cc ⟨[.slice (some ⟨b, 0, none⟩) n cap, src]⟩).run Pg w = .ok (.value (.slice (some ⟨b, 0, none⟩) (n + m) cap)) w' := run_value h1
    rw [this]
    exact k w' h2
  have hrd := hsrc.rd H
  obtain ⟨i, zv, hi, hi1, hi2, hi3, hi4⟩ := hT.parts
  have hsz : szO Pg el = some sz := by simp [szO, hi, hi1]
  have hlen := hrd.length
  have hu := fun w => run_underlying' (P := Pg) (w := w) hT.under
  have hss := fun w => run_sizeOf' (P := Pg) (w := w) hsz
  have hfs := run_firstCells (P := Pg) hrd
  have hlo := run_lenOf (P := Pg) hrd
  have h2 := (H.blk ⟨b, el, l⟩ (by simp)).2
  have hle : n * sz + 0 + ys.length ≤ l.length := by
    rw [hl, hlen, Nat.add_zero, ← Nat.add_mul]
    exact Nat.mul_le_mul_right _ hc
  obtain ⟨w', g1, g2, g3⟩ := run_storeCells_blk (P := Pg) ys (n * sz) 0 w l h2 hle hsc
  refine ⟨w', ?_, Hp.upd (c := ⟨b, el, l⟩) H g2 g3⟩
  unfold Builtin.append_
  simp [Sem.run_bind, hu, Result.andThen, hss, hlo, hc, hfs, add_mk, g1]
/-- What lies behind the end, cleared. -/
theorem clear_h {b o cap : Nat} {l : List Value} (hT : ElT T el sz bts z) (H : Hp w0 w (⟨b, el, l⟩ :: F)) (hn : 0 < n) (hle : o + n * sz ≤ l.length) (hz : ∀ c ∈ z, scalar c = true)
    (k : ∀ w' l', l'.length = l.length → l'.take o = l.take o → Hp w0 w' (⟨b, el, l'⟩ :: F) → K (.tuple #[]) w') : blt Pg R .clear ⟨[T]⟩ 0 ⟨[false]⟩ ⟨[.slice (some ⟨b, o, none⟩) n cap]⟩ K w := by
  obtain ⟨i, zv, hi, hi1, hi2, hi3, hi4⟩ := hT.parts
  have hu := fun w => run_underlying' (P := Pg) (w := w) hT.under
  have hz' : (Pg.info? el).bind (·.zero) = some zv := by simp [hi, hi3]
  have hzv := fun w => run_zeroValue' (P := Pg) (w := w) hz'
  have hzs : zv.cells.size = sz := by have := hT.len; rw [← hi4] at this; simpa using this
  have h2 := (H.blk ⟨b, el, l⟩ (by simp)).2
  have hcl : (Builtin.zeroCells zv.cells n).toList.length = n * sz := by rw [Array.length_toList, zeroCells_size, hzs]
  have hsc : ∀ c ∈ (Builtin.zeroCells zv.cells n).toList, scalar c = true := by
    intro c hc
    simp only [Builtin.zeroCells, Array.toList_map, List.mem_map, Array.toList_range, List.mem_range] at hc
    obtain ⟨i, hi, rfl⟩ := hc
    have hpos : 0 < zv.cells.size := by
      rcases Nat.eq_zero_or_pos zv.cells.size with h | h
      · rw [h] at hi; omega
      · exact h
    have hlt : i % zv.cells.size < zv.cells.size := Nat.mod_lt _ hpos
    rw [getElem!_pos zv.cells _ hlt]
    apply hz
    rw [← hi4]
    exact Array.getElem_mem_toList hlt
  obtain ⟨w', g1, g2, g3⟩ := run_storeCells_blk (P := Pg) (Builtin.zeroCells zv.cells n).toList o 0 w l h2 (by rw [hcl]; omega) hsc
  have hrun : (Builtin.clear_ #[T] 0 #[.slice (some ⟨b, o, none⟩) n cap]).run Pg w = .ok (.tuple #[]) w' := by
    unfold Builtin.clear_
    obtain ⟨n', rfl⟩ : ∃ n', n = n' + 1 := ⟨n - 1, by omega⟩
    simp [Sem.run_bind, hu, Result.andThen, hzv, g1]
  unfold blt semV
  have : (builtin .clear ⟨[T]⟩ 0 ⟨[false]⟩ ⟨[.slice (some ⟨b, o, none⟩) n cap]⟩).run Pg w = .ok (.value (.tuple #[])) w' := run_value hrun
  rw [this]
  refine k w' _ ?_ ?_ (Hp.upd (c := ⟨b, el, l⟩) H g2 g3)
  · unfold lay
    simp only [List.length_append, List.length_take, List.length_drop, hcl]; omega
  · unfold lay
    rw [Nat.add_zero, List.take_append_of_le_length (by simp; omega), List.take_append_of_le_length (by simp; omega), List.take_take, Nat.min_self]
/-- The check of Delete's bounds. -/
theorem slice3_h {a : Option Addr} {cap lo hi : Nat} (hT : ElT T el sz bts z) (h1 : lo ≤ hi) (h2 : hi ≤ n) (h3 : n ≤ cap) (k : ∀ v, K v w) : valV Pg R (Instr.sliceAt T (.slice a n cap) (some (I (lo : Int))) (some (I (hi : Int))) (some (I (n : Int)))) K w := by
  obtain ⟨i, zv, hi', hi1, hi2, hi3, hi4⟩ := hT.parts
  have hsz : szO Pg el = some sz := by simp [szO, hi', hi1]
  have hu := fun w => run_underlying' (P := Pg) (w := w) hT.under
  have hss := fun w => run_sizeOf' (P := Pg) (w := w) hsz
  have hb : ∀ {x y : Nat} {code : BoundsCode}, x ≤ y → (Instr.sliceBound (I (x : Int)) y code).run Pg w = .ok x w := by
    intro x y code h
    have : boundO (some (I (x : Int))) y 0 = some x := by simp only [boundO]; rw [if_pos (by omega)]; simp
    exact run_bound_some this
  have hbs : (Instr.sliceBounds true n cap (some (I (lo : Int))) (some (I (hi : Int))) (some (I (n : Int)))).run Pg w = .ok (lo, hi, n) w := by
    unfold Instr.sliceBounds
    simp [Sem.run_bind, Result.andThen, hb h3, hb h2, hb h1]
  have hr : ∃ v, (Instr.sliceAt T (.slice a n cap) (some (I (lo : Int))) (some (I (hi : Int))) (some (I (n : Int)))).run Pg w = .ok v w := by
    refine ⟨.slice (if n = lo then a else a.map (·.add (lo * sz))) (hi - lo) (n - lo), ?_⟩
    · unfold Instr.sliceAt Instr.slice
      simp only [Sem.run_bind, hu, Result.andThen, hbs, hss]
      rfl
  obtain ⟨v, hv⟩ := hr
  unfold valV
  rw [hv]
  exact k v
/-! ### Delete, of units -/
theorem slK_mid {b sz n c lo hi : Nat} (h1 : lo ≤ hi) (h2 : hi ≤ c) (h3 : lo < c) : slS sz (.slice (some ⟨b, 0, none⟩) n c) (some (I (lo : Int))) (some (I (hi : Int))) = some (.slice (some ⟨b, lo * sz, none⟩) (hi - lo) (c - lo)) := by
  simp only [slS, boundO]
  rw [if_pos (by omega)]
  simp only [Int.toNat_natCast]
  rw [if_pos (by omega)]
  simp only [Option.map_some, add_mk, Nat.zero_add]
  rw [if_neg (by omega)]
theorem slK_to {b sz n c hi : Nat} (h2 : hi ≤ c) : slS sz (.slice (some ⟨b, 0, none⟩) n c) none (some (I (hi : Int))) = some (.slice (some ⟨b, 0, none⟩) hi c) := by
  simp only [slS, boundO]
  rw [if_pos (by omega)]
  simp only [Int.toNat_natCast, Option.map_some, add_mk, Nat.zero_mul, Nat.sub_zero, Nat.zero_add]
  split <;> rfl
theorem slK_from {b sz n c lo : Nat} (h1 : lo ≤ n) (h2 : n ≤ c) : ∃ o, slS sz (.slice (some ⟨b, 0, none⟩) n c) (some (I (lo : Int))) none = some (.slice (some ⟨b, o, none⟩) (n - lo) (c - lo)) ∧ (lo < n → o = lo * sz) := by
  simp only [slS, boundO]
  rw [if_pos (by omega)]
  simp only [Int.toNat_natCast, Option.map_some, add_mk, Nat.zero_add]
  by_cases h : c = lo
  · rw [if_pos h]; exact ⟨0, rfl, fun h => by omega⟩
  · rw [if_neg h]; exact ⟨lo * sz, rfl, fun _ => rfl⟩
theorem flat_drop {α : Type} {sz : Nat} : ∀ {L : List (List α)}, (∀ l ∈ L, l.length = sz) → ∀ j, (L.drop j).flatten = L.flatten.drop (j * sz)
  | [], _, j => by simp
  | a :: L, h, 0 => by simp
  | a :: L, h, j + 1 => by
    have ha := h a (by simp)
    rw [List.drop_succ_cons, flat_drop (fun l hl => h l (by simp [hl])) j, List.flatten_cons, Nat.add_mul, Nat.one_mul, Nat.add_comm, ← List.drop_drop, List.drop_left' ha]
theorem ucells_drop (us : List UM) (sv : List Value) (j : Nat) : ucells (us.drop j) (sv.drop j) = (ucells us sv).drop (j * 6) := by
  unfold ucells
  rw [← flat_drop (zip_len us sv), List.drop_zipWith]
theorem ucells_scalar : ∀ {us : List UM} {sv : List Value}, (∀ s ∈ sv, scalar s = true) → ∀ c ∈ ucells us sv, scalar c = true
  | [], sv, _, c, h => by simp [ucells] at h
  | _ :: _, [], _, c, h => by simp [ucells] at h
  | u :: us, s :: sv, hs, c, h => by
    unfold ucells at h
    rw [List.zipWith_cons_cons, List.flatten_cons, List.mem_append] at h
    rcases h with h | h
    · simp [ucell] at h
      rcases h with rfl | rfl | rfl | rfl | rfl | rfl
      · rfl
      · rfl
      · rfl
      · rfl
      · exact hs _ (by simp)
      · rfl
    · exact ucells_scalar (us := us) (sv := sv) (fun s h => hs s (by simp [h])) c (by unfold ucells; exact h)
theorem Delete_spec {bu k cap i : Nat} {us : List UM} {sv rest : List Value} (H : Hp w0 w (⟨bu, 101, ucells us sv ++ rest⟩ :: F)) (hsv : sv.length = us.length) (hss : ∀ s ∈ sv, scalar s = true) (hk : k = us.length) (hkc : k ≤ cap) (hr : rest.length = (cap - k) * 6) (hi : i < k) :
    Calls Pg 64 ⟨[.slice (some ⟨bu, 0, none⟩) k cap, I 0, I ((i + 1 : Nat) : Int)]⟩ w fun e w' => ∃ rest', e = .returned (.slice (some ⟨bu, 0, none⟩) (k - (i + 1)) cap) ∧ rest'.length = (cap - (k - (i + 1))) * 6 ∧
      Hp w0 w' (⟨bu, 101, ucells (us.drop (i + 1)) (sv.drop (i + 1)) ++ rest'⟩ :: F) := by
  subst hk
  have hul := ucells_len hsv
  have hll : (ucells us sv ++ rest).length = cap * 6 := by rw [List.length_append, hul, hr, ← Nat.add_mul]; congr 1; omega
  apply F64_calls
  unfold F64
  simp only [WKt, mem, drewV]
  refine slice3_h (lo := 0) (hi := i + 1) elT93 (by omega) (by omega) hkc fun v => ?_
  simp only [decide_eq_false (show ¬ ((0 : Int) = ((i + 1 : Nat) : Int)) from by omega), WKt, mem, drewV]
  unfold F64_j1
  obtain ⟨o, eo, ho⟩ := slK_from (b := bu) (sz := 6) (n := us.length) (c := cap) (lo := i + 1) (by omega) hkc
  have e0 : slS 6 (.slice (some ⟨bu, 0, none⟩) us.length cap) none (some (.int .i64 0)) = some (.slice (some ⟨bu, 0, none⟩) 0 cap) := slK_to (hi := 0) (by omega)
  simp only [eo, e0, WKt, mem, drewV]
  have hys : RdL w0 (⟨bu, 101, ucells us sv ++ rest⟩ :: F) 6 (.slice (some ⟨bu, o, none⟩) (us.length - (i + 1)) (cap - (i + 1))) (us.length - (i + 1)) (ucells (us.drop (i + 1)) (sv.drop (i + 1))) := by
    by_cases h : i + 1 < us.length
    · refine .inr ⟨bu, o, cap - (i + 1), 101, ucells us sv ++ rest, rfl, by omega, by simp, ?_, ?_⟩
      · rw [ho h, hll, ← Nat.add_mul]; exact Nat.mul_le_mul_right _ (by omega)
      · rw [ho h, ucells_drop, List.drop_append_of_le_length (by rw [hul]; exact Nat.mul_le_mul_right _ (by omega)), List.take_append_of_le_length (by rw [List.length_drop, hul, ← Nat.sub_mul]; omega), List.take_of_length_le (by rw [List.length_drop, hul, ← Nat.sub_mul]; omega)]
    · have h0 : us.length - (i + 1) = 0 := by omega
      rw [h0, List.drop_eq_nil_of_le (by omega)]
      exact .inl (.inr ⟨_, _, rfl, by omega, by rw [Nat.zero_mul]; rfl⟩)
  refine append_in (n := 0) elT93 H.drew hll (by omega) hys ?_ fun w1 H1 => ?_
  · exact ucells_scalar fun s h => hss s (List.mem_of_mem_drop h)
  have e2 : slS 6 (.slice (some ⟨bu, 0, none⟩) (us.length - (i + 1)) cap) (some (.int .i64 ((us.length - (i + 1) : Nat) : Int))) (some (.int .i64 (us.length : Int))) = some (.slice (some ⟨bu, (us.length - (i + 1)) * 6, none⟩) (us.length - (us.length - (i + 1))) (cap - (us.length - (i + 1)))) := slK_mid (by omega) hkc (by omega)
  simp only [e2, WKt, mem, drewV]
  have hyl : (ucells (us.drop (i + 1)) (sv.drop (i + 1))).length = (us.length - (i + 1)) * 6 := by rw [ucells_len (by simp [hsv])]; simp
  have hlay : (lay (ucells us sv ++ rest) 0 (ucells (us.drop (i + 1)) (sv.drop (i + 1)))).length = cap * 6 := by
    unfold lay
    have : (us.length - (i + 1)) * 6 ≤ cap * 6 := Nat.mul_le_mul_right _ (by omega)
    simp only [List.length_append, List.length_take, List.length_drop, hyl]
    rw [List.length_append] at hll; omega
  rw [Nat.zero_mul] at H1
  refine clear_h (el := 101) elT93 H1 (by omega) ?_ (by intro c hc; simp at hc; rcases hc with rfl | rfl | rfl | rfl | rfl | rfl <;> rfl) fun w2 l' hl1 hl2 H2 => ?_
  · rw [hlay, ← Nat.add_mul]; exact Nat.mul_le_mul_right _ (by omega)
  have hl3 : l' = ucells (us.drop (i + 1)) (sv.drop (i + 1)) ++ l'.drop ((us.length - (i + 1)) * 6) := by
    conv => lhs; rw [← List.take_append_drop ((us.length - (i + 1)) * 6) l', hl2]
    congr 1
    unfold lay
    rw [List.take_zero, List.nil_append, List.take_append_of_le_length (by rw [hyl]; exact Nat.le_refl _), List.take_of_length_le (by rw [hyl]; exact Nat.le_refl _)]
  refine ⟨l'.drop ((us.length - (i + 1)) * 6), by trivial, ?_, ?_⟩
  · rw [List.length_drop, hl1, hlay, ← Nat.sub_mul]
  · rw [← hl3]; exact H2
end
end Go.Proofs.Ytmnpndgmfmjfhaa.Den
end

section
set_option linter.unusedVariables false
set_option linter.unusedSimpArgs false
set_option maxRecDepth 8000
namespace Go.Proofs.Ytmnpndgmfmjfhaa.Den
open Go Go.RowKit
def ackP (fm ff : Int) (u : UM) : Bool := if u.last then decide (fm = IntKind.i64.wrap (u.m + 1)) && decide (ff = 0) else decide (fm = u.m) && decide (ff = IntKind.i64.wrap (u.f + 1))
def lastDone (d : Int) (us : List UM) : Int := us.foldl (fun d u => if u.last then u.m else d) d
def ackM (M : LM) (fm ff : Int) : LM := match M.us.findIdx? (ackP fm ff) with
  | none => M
  | some i => match M.us[i]? with
    | none => M
    | some u => if u.at_ < 0 then M else { M with done := lastDone M.done (M.us.take (i + 1)), us := M.us.drop (i + 1), repeats := 0 }
theorem fIdx_find (p : UM → Bool) : ∀ (k : Nat) (us : List UM), fIdx p k us = match us.findIdx? p with | none => -1 | some i => ((k + i : Nat) : Int)
  | _, [] => rfl
  | k, u :: r => by
    rw [fIdx, List.findIdx?_cons]
    cases hp : p u with
    | true => simp
    | false =>
      simp only [Bool.false_eq_true, if_false]
      rw [fIdx_find p (k + 1) r]
      cases r.findIdx? p with
      | none => rfl
      | some i => simp only [Option.map_some]; congr 1; omega
section
variable {w w' : World} {w0 : Base} {F L : List Chunk} {R : ER}
theorem enter63 : enterOk Pg 63 = true := by kernel_rfl
theorem ack1_call {K : VK} {u : UM} {s : Value} {c j : Nat} {k m f : Int} {last : Bool} {t : Value} (H : Hp w0 w L) (hj : L[j]? = some ⟨c, 48, frm k last m f t⟩) (kk : ∀ w', Hp w0 w' L → K (.bool (ackP m f u)) w') :
    calD Pg R (.func (.func 63) ⟨[]⟩ ⟨[ptr c 0]⟩) ⟨[.agg ⟨ucell u s⟩]⟩ K w := by
  refine calD_fn (Q := fun e w' => e = .returned (.bool (ackP m f u)) ∧ Hp w0 w' L) enter63 ?_ ?_
  · apply F63_calls
    unfold F63
    refine bxa_h H fun w1 b H1 => ?_
    unfold F63_j2
    have hj1 : (⟨b, 101, ucell u s⟩ :: L)[j + 1]? = some ⟨c, 48, frm k last m f t⟩ := by simpa using hj
    simp only [WKt, mem, drewV]
    refine ld_h H1 0 rfl rfl ?_
    unfold F63_j3 ackP
    cases hl : u.last with
    | true =>
      simp only [if_true]
      unfold F63_j4
      simp only [WKt, mem, drewV]
      refine ld_h H1 (j + 1) hj1 rfl ?_
      refine ld_h H1 0 rfl rfl ?_
      simp only [WKt, mem, drewV]
      by_cases h1 : m = IntKind.i64.wrap (u.m + 1)
      · simp only [decide_eq_true h1, WKt, mem, drewV]
        refine ld_h H1 (j + 1) hj1 rfl ?_
        simp only [WKt, mem, drewV]
        exact ⟨by simp, H1.tail⟩
      · simp only [decide_eq_false h1, WKt, mem, drewV]
        exact ⟨by simp, H1.tail⟩
    | false =>
      simp only [Bool.false_eq_true, if_false]
      unfold F63_j1
      simp only [WKt, mem, drewV]
      refine ld_h H1 (j + 1) hj1 rfl ?_
      refine ld_h H1 0 rfl rfl ?_
      simp only [WKt, mem, drewV]
      by_cases h1 : m = u.m
      · simp only [decide_eq_true h1, WKt, mem, drewV]
        refine ld_h H1 (j + 1) hj1 rfl ?_
        refine ld_h H1 0 rfl rfl ?_
        simp only [WKt, mem, drewV]
        exact ⟨by simp, H1.tail⟩
      · simp only [decide_eq_false h1, WKt, mem, drewV]
        exact ⟨by simp, H1.tail⟩
  · rintro e w' ⟨rfl, H'⟩
    exact kk w' H'
theorem ack_l {b bu cap n : Nat} {M : LM} {su sus sp sa : Value} {us : List UM} {sv rest : List Value} (hsv : sv.length = us.length) (hss : ∀ s ∈ sv, scalar s = true) (hn : n ≤ us.length) (hnb : n < 2 ^ 60) {x4 : Value}
    (kk : ∀ w', Hp w0 w' (⟨b, 96, lkc { M with done := lastDone M.done (us.take n) } su sus sp sa⟩ :: ⟨bu, 101, ucells us sv ++ rest⟩ :: F) → F47_j2 R (ptr b 0) x4 w') :
    ∀ (d i : Nat) (w : World), i + d = n → Hp w0 w (⟨b, 96, lkc { M with done := lastDone M.done (us.take i) } su sus sp sa⟩ :: ⟨bu, 101, ucells us sv ++ rest⟩ :: F) →
      F47_l1 R (d + 1) (ptr b 0) x4 (.slice (some ⟨bu, 0, none⟩) n cap) (I (n : Int)) (I (i : Int)) w := by
  intro d
  induction d with
  | zero =>
    intro i w hi H
    rw [F47_l1_succ]
    unfold F47_b1
    simp only [WKt, mem, drewV, show decide ((i : Int) < (n : Int)) = false from decide_eq_false (by omega)]
    have : i = n := by omega
    subst this
    exact kk w H
  | succ d ih =>
    intro i w hi H
    rw [F47_l1_succ]
    unfold F47_b1 F47_j5 F47_j7
    simp only [WKt, mem, drewV, show decide ((i : Int) < (n : Int)) = true from decide_eq_true (by omega)]
    rw [ixS_mk (by omega)]
    simp only [WKt, mem, drewV]
    have hlt : i < us.length := by omega
    obtain ⟨u, hu⟩ : ∃ u, us[i]? = some u := ⟨_, List.getElem?_eq_getElem hlt⟩
    obtain ⟨s, hs⟩ : ∃ s, sv[i]? = some s := ⟨_, List.getElem?_eq_getElem (by omega)⟩
    have hlen := ucells_len hsv
    have hcell : ((ucells us sv ++ rest).drop (i * 6)).take 6 = ucell u s := by
      apply List.ext_getElem?
      intro m
      rw [List.getElem?_take]
      by_cases hm : m < 6
      · rw [if_pos hm, List.getElem?_drop, List.getElem?_append_left (by rw [hlen]; omega)]
        exact ucells_get hu hs hm
      · rw [if_neg hm, List.getElem?_eq_none (by simp [ucell]; omega)]
    refine ldN_blk (H.at (i := 1) rfl) (by rw [List.length_append, hlen]; omega) ?_
    rw [hcell]
    refine al_h H (z := [I 0, .bool false, I 0, I 0, .slice none 0 0, I 0]) (by kernel_rfl) fun w1 c H1 => ?_
    have hsc : scalar s = true := hss s (List.mem_of_getElem? hs)
    refine stA_h H1 0 rfl rfl rfl (by intro c hc; simp [ucell] at hc; rcases hc with rfl | rfl | rfl | rfl | rfl | rfl <;> first | rfl | exact hsc) fun w2 H2 => ?_
    simp only [WKt, mem, drewV]
    refine ld_h H2 0 rfl rfl ?_
    have hd : lastDone M.done (us.take (i + 1)) = if u.last then u.m else lastDone M.done (us.take i) := by
      have : us.take (i + 1) = us.take i ++ [u] := by rw [List.take_add_one, hu]; rfl
      unfold lastDone
      rw [this, List.foldl_append]; rfl
    have next : ∀ {w : World}, Hp w0 w (⟨b, 96, lkc { M with done := lastDone M.done (us.take (i + 1)) } su sus sp sa⟩ :: ⟨bu, 101, ucells us sv ++ rest⟩ :: F) → F47_j6 R (F47_l1 R (d + 1)) (ptr b 0) x4 (.slice (some ⟨bu, 0, none⟩) n cap) (I (n : Int)) (I (i : Int)) w := by
      intro w H
      unfold F47_j6
      simp only [WKt, mem, drewV]
      rw [wrap64_id (by omega) (by omega), show (i : Int) + 1 = ((i + 1 : Nat) : Int) from by omega]
      exact ih (i + 1) w (by omega) H
    cases hl : u.last with
    | true =>
      rw [hl] at hd
      simp only [WKt, mem, drewV]
      refine ld_h H2 0 rfl rfl ?_
      refine st_h H2 1 rfl (by simp [lkc]) rfl fun w3 H3 => ?_
      refine next ?_
      rw [hd]
      exact H3.tail
    | false =>
      rw [hl] at hd
      simp only [WKt, mem, drewV]
      refine next ?_
      rw [hd]
      exact H2.tail
theorem find_lt {p : UM → Bool} {us : List UM} {i : Nat} (h : us.findIdx? p = some i) : i < us.length := by
  rw [List.findIdx?_eq_some_iff_getElem] at h
  exact h.1
theorem sv_sc {tu ta : Nat} {M : LM} {su sus sp sa : Value} {cu cus cp ca D : List Chunk} {sv : List Value} (h : LkP tu ta w0 M su sus sp sa cu cus cp ca D sv) : ∀ s ∈ sv, scalar s = true := by
  intro s hs
  obtain ⟨i, hi, rfl⟩ := List.getElem_of_mem hs
  have hlt : i < M.us.length := by rw [← h.svl]; exact hi
  exact (h.dat i _ _ (List.getElem?_eq_getElem hlt) (List.getElem?_eq_getElem hi)).2.2
def AckPost (w0 : Base) (F : List Chunk) (Lkx : Base → Nat → LM → List Chunk → Prop) (b : Nat) (M' : LM) : ER := fun e w' => ∃ L', e = .returned (.tuple ⟨[]⟩) ∧ Hp w0 w' (L' ++ F) ∧ Lkx w0 b M' L'
theorem acknowledge_spec {b : Nat} {M : LM} {k m f : Int} {last : Bool} {t : Value} (H : Hp w0 w (L ++ F)) (hL : Lk w0 b M L) (hul : M.us.length < 2 ^ 40) :
    Calls Pg 47 ⟨[ptr b 0, .agg ⟨frm k last m f t⟩]⟩ w (AckPost w0 F Lk b (ackM M m f)) := by
  obtain ⟨su, sus, sp, sa, cu, cus, cp, ca, D, sv, hlk, rfl⟩ := hL
  have same : ∀ {w' : World}, Hp w0 w' (⟨b, 96, lkc M su sus sp sa⟩ :: (cus ++ (cu ++ (cp ++ (ca ++ (D ++ F)))))) → ackM M m f = M → AckPost w0 F Lk b (ackM M m f) (.returned (.tuple ⟨[]⟩)) w' := by
    intro w' H' he
    rw [he]
    exact ⟨⟨b, 96, lkc M su sus sp sa⟩ :: (cu ++ (cus ++ (cp ++ (ca ++ D)))), rfl, H'.to (by intro f; simp only [I, U8, U64, ptr, List.set_cons_zero, List.set_cons_succ, List.eraseIdx_cons_zero, List.eraseIdx_cons_succ, List.map_append, List.map_cons, List.map_nil, List.sum_append, List.sum_cons, List.sum_nil]; omega), _, _, _, _, _, _, _, _, _, _, hlk, rfl⟩
  have H0 : Hp w0 w (⟨b, 96, lkc M su sus sp sa⟩ :: (cus ++ (cu ++ (cp ++ (ca ++ (D ++ F)))))) := H.to (by intro f; simp only [I, U8, U64, ptr, List.set_cons_zero, List.set_cons_succ, List.eraseIdx_cons_zero, List.eraseIdx_cons_succ, List.map_append, List.map_cons, List.map_nil, List.sum_append, List.sum_cons, List.sum_nil]; omega)
  apply F47_calls
  unfold F47
  refine bxa_h H0 fun w1 c H1 => ?_
  simp only [WKt, mem, drewV]
  refine ld_h H1 1 rfl rfl ?_
  have hss := sv_sc hlk
  rcases hlk.us with ⟨rfl, ⟨a, rfl⟩, h0, h00⟩ | ⟨bu, cap, rest, rfl, rfl, h1, h2, h3⟩
  · refine cal_h (idx_nil (a := .bool true) H1) ?_
    rintro e w2 ⟨rfl, H2⟩
    unfold F47_j8
    simp only [show decide ((-1 : Int) < 0) = true from rfl, WKt, mem, drewV]
    have hus : M.us = [] := List.length_eq_zero_iff.1 h0
    refine same H2.tail ?_
    unfold ackM; rw [hus]; rfl
  · refine cal_h (idx_spec (j := 2) (us := M.us) (sv := sv) (rest := rest) (p := ackP m f) H1 rfl hlk.svl (by omega) (by omega) (fun H k => ack1_call (j := 0) H rfl k)) ?_
    rintro e w2 ⟨rfl, H2⟩
    rw [List.take_length, fIdx_find]
    cases hf : M.us.findIdx? (ackP m f) with
    | none =>
      unfold F47_j8
      simp only [show decide ((-1 : Int) < 0) = true from rfl, WKt, mem, drewV]
      refine same H2.tail ?_
      unfold ackM; rw [hf]
    | some i =>
      simp only [Nat.zero_add]
      have hi := find_lt hf
      obtain ⟨u, hu⟩ : ∃ u, M.us[i]? = some u := ⟨_, List.getElem?_eq_getElem hi⟩
      obtain ⟨s, hs⟩ : ∃ s, sv[i]? = some s := ⟨_, List.getElem?_eq_getElem (by rw [hlk.svl]; exact hi)⟩
      unfold F47_j8
      simp only [decide_eq_false (show ¬ ((i : Int) < 0) from by omega), WKt, mem, drewV]
      refine ld_h H2 1 rfl rfl ?_
      rw [ixS_mk hi]
      simp only [WKt, mem, drewV]
      refine ld_h H2 2 rfl (get_left (by have := ucells_get hu hs (j := 5) (by omega); simpa [ucell] using this)) ?_
      simp only [WKt, mem, drewV]
      refine cnd_decide (fun hat => ?_) (fun hat => ?_)
      · refine same H2.tail ?_
        unfold ackM; rw [hf]; simp only [hu]; rw [if_pos hat]
      have hM : ackM M m f = { M with done := lastDone M.done (M.us.take (i + 1)), us := M.us.drop (i + 1), repeats := 0 } := by
        unfold ackM; rw [hf]; simp only [hu]; rw [if_neg hat]
      unfold F47_j1 F47_j3
      simp only [WKt, mem, drewV]
      refine ld_h H2 1 rfl rfl ?_
      have ea : (i : Int) + 1 = ((i + 1 : Nat) : Int) := by omega
      rw [wrap64_id (by omega) (by omega), ea, slK_to (by omega)]
      simp only [WKt, mem, drewV]
      unfold F47_j4
      refine ⟨i + 1 + 1, ?_⟩
      have H2' : Hp w0 w2 (⟨b, 96, lkc { M with done := lastDone M.done (M.us.take 0) } su (.slice (some ⟨bu, 0, none⟩) M.us.length cap) sp sa⟩ :: ⟨bu, 101, ucells M.us sv ++ rest⟩ :: (cu ++ (cp ++ (ca ++ (D ++ F))))) := H2.tail
      refine ack_l (n := i + 1) hlk.svl hss (by omega) (by omega) (fun w3 H3 => ?_) (i + 1) 0 w2 (by omega) H2'
      unfold F47_j2
      simp only [WKt, mem, drewV]
      refine ld_h H3 0 rfl rfl ?_
      rw [wrap64_id (by omega) (by omega), ea]
      have H3' := H3.rot1
      refine cal_h (Delete_spec (i := i) H3' hlk.svl hss rfl h2 h3 hi) ?_
      rintro e w4 ⟨rest', rfl, hr', H4⟩
      have H4' := H4.rot1
      simp only [WKt, mem, drewV]
      refine st_h H4' 0 rfl (by simp [lkc]) rfl fun w5 H5 => ?_
      try simp only [WKt, mem, drewV]
      refine st_h H5 0 rfl (by simp [lkc]) rfl fun w6 H6 => ?_
      rw [hM]
      have H6' : Hp w0 w6 (⟨b, 96, lkc { M with done := lastDone M.done (M.us.take (i + 1)), us := M.us.drop (i + 1), repeats := 0 } su (.slice (some ⟨bu, 0, none⟩) (M.us.length - (i + 1)) cap) sp sa⟩ :: ⟨bu, 101, ucells (M.us.drop (i + 1)) (sv.drop (i + 1)) ++ rest'⟩ :: (cu ++ (cp ++ (ca ++ (D ++ F))))) := H6
      refine ⟨⟨b, 96, lkc { M with done := lastDone M.done (M.us.take (i + 1)), us := M.us.drop (i + 1), repeats := 0 } su (.slice (some ⟨bu, 0, none⟩) (M.us.length - (i + 1)) cap) sp sa⟩ :: (cu ++ ([⟨bu, 101, ucells (M.us.drop (i + 1)) (sv.drop (i + 1)) ++ rest'⟩] ++ (cp ++ (ca ++ D)))), rfl, H6'.to (by intro f; simp only [I, U8, U64, ptr, List.set_cons_zero, List.set_cons_succ, List.eraseIdx_cons_zero, List.eraseIdx_cons_succ, List.map_append, List.map_cons, List.map_nil, List.sum_append, List.sum_cons, List.sum_nil]; omega), su, _, sp, sa, cu, _, cp, ca, D, sv.drop (i + 1), ?_, rfl⟩
      refine ⟨hlk.up, ?_, by simp [hlk.svl], ?_, hlk.part, hlk.acks⟩
      · refine .inr ⟨bu, cap, rest', rfl, by simp, ?_, by simp; omega, by simpa using hr'⟩
        rw [ucells_len (by simp [hlk.svl])]
      · intro j u' s' hu' hs'
        simp only [List.getElem?_drop] at hu' hs'
        exact hlk.dat _ u' s' hu' hs'
end
end Go.Proofs.Ytmnpndgmfmjfhaa.Den
end

section
set_option linter.unusedVariables false
set_option linter.unusedSimpArgs false
set_option maxRecDepth 8000
namespace Go.Proofs.Ytmnpndgmfmjfhaa.Den
open Go Go.RowKit
def inE (M : LM) (x : Int) (xs : List Int) (now : Int) : Int := if x < 0 ∨ (M.up.length : Int) ≤ x then 3 else if timeE M now ≠ 0 then timeE M now else decE xs
def fitB (M : LM) (m f : Int) (d : List Int) : Prop := m = M.msg ∧ f = M.frag ∧ M.part.length + d.length ≤ 4096
instance (M : LM) (m f : Int) (d : List Int) : Decidable (fitB M m f d) := by unfold fitB; infer_instance
def takeM (M : LM) (m f : Int) (last : Bool) (d : List Int) : LM :=
  if fitB M m f d then if last then { M with msg := M.msg + 1, frag := 0, part := [] } else { M with part := M.part ++ d, frag := M.frag + 1 } else M
def takeV (M : LM) (m f : Int) (last : Bool) (d : List Int) : List (List Int) := if fitB M m f d ∧ last = true then [M.part ++ d] else []
def addA (M : LM) (x : Int) : LM := { M with acks := M.acks ++ [⟨x.toNat, M.msg, M.frag⟩] }
def inM (M : LM) (x : Int) (xs : List Int) (now : Int) : LM := if inE M x xs now ≠ 0 then M else if dK xs = 2 then ackM { M with clock := now } (dM xs) (dF xs) else
  addA (takeM { M with clock := now } (dM xs) (dF xs) (decide (dB xs = 1)) (xs.drop 24)) x
def inV (M : LM) (x : Int) (xs : List Int) (now : Int) : List (List Int) := if inE M x xs now ≠ 0 then [] else if dK xs = 2 then [] else takeV M (dM xs) (dF xs) (decide (dB xs = 1)) (xs.drop 24)
/-- Messages that are handed over, in memory. -/
structure MsgP (w0 : Base) (s : Value) (vs : List (List Int)) (co Db : List Chunk) (sv : List Value) : Prop where
  sl : Sl 24 1 s vs.length sv co
  svl : sv.length = vs.length
  dat : ∀ (i : Nat) (ys : List Int) (s : Value), vs[i]? = some ys → sv[i]? = some s → RdL w0 Db 1 s ys.length (bv ys)
def InPost (w0 : Base) (F : List Chunk) (Lkx : Base → Nat → LM → List Chunk → Prop) (b : Nat) (M : LM) (x : Int) (xs : List Int) (now : Int) : ER := fun e w' =>
  ∃ s co Db sv L', e = .returned (.tuple ⟨[s, I (inE M x xs now)]⟩) ∧ Hp w0 w' (co ++ (Db ++ (L' ++ F))) ∧ MsgP w0 s (inV M x xs now) co Db sv ∧ Lkx w0 b (inM M x xs now) L'
theorem MsgP.nil {w0 : Base} : MsgP w0 (.slice none 0 0) [] [] [] [] := ⟨Sl.nil, rfl, fun i y s h => by simp at h⟩
section
variable {w w' : World} {w0 : Base} {F L : List Chunk} {R : ER}
theorem sl_sc {el sz n : Nat} {s : Value} {xs : List Value} {cs : List Chunk} (h : Sl el sz s n xs cs) : scalar s = true := by
  rcases h with ⟨_, ⟨a, rfl⟩, rfl, rfl⟩ | ⟨b, cap, rest, rfl, rfl, h1, h2, h3⟩ <;> rfl
/-- The acknowledgment that is noted. -/
theorem in_ack {b : Nat} {M : LM} {su sus sp sa x13 : Value} {cu cus cp ca D : List Chunk} {sv : List Value} {x : Int} {G : List Chunk} (hlk : LkP 101 107 w0 M su sus sp sa cu cus cp ca D sv) (hal : M.acks.length < 2 ^ 30) (hx : 0 ≤ x)
    (H : Hp w0 w (⟨b, 96, lkc M su sus sp sa⟩ :: (cus ++ (cu ++ (cp ++ (ca ++ (D ++ G)))))))
    (k : ∀ w' L', Hp w0 w' (L' ++ G) → Lk w0 b (addA M x) L' → R (.returned (.tuple ⟨[x13, I 0]⟩)) w') :
    F23_j6 R (ptr b 0) (I x) x13 w := by
  unfold F23_j6
  simp only [WKt, mem, drewV]
  refine ld_h H.drew 0 rfl rfl ?_
  refine ldN_blk (H.drew.at (i := 0) rfl) (by simp [lkc]) ?_
  have e5 : ((lkc M su sus sp sa).drop 11).take 5 = [I 2, .bool false, I M.msg, I M.frag, .slice none 0 0] := rfl
  rw [e5]
  have eb : bldO [.int .i64 0, .int .i64 0, .bool false, .int .i64 0, .int .i64 0, .slice none 0 0] [(0, 1, I x), (1, 5, .agg ⟨[I 2, .bool false, I M.msg, I M.frag, .slice none 0 0]⟩)] = some (.agg ⟨acell ⟨x.toNat, M.msg, M.frag⟩⟩) := by
    have : ((x.toNat : Nat) : Int) = x := by omega
    unfold acell
    rw [this]
    rfl
  simp only [eb, WKt, mem, drewV]
  refine lit1_h (v := .agg ⟨acell ⟨x.toNat, M.msg, M.frag⟩⟩) elT94 H.drew rfl (by omega) fun w1 nb H1 => ?_
  have H1' : Hp w0 w1 (⟨nb, 107, acell ⟨x.toNat, M.msg, M.frag⟩⟩ :: ⟨b, 96, lkc M su sus sp sa⟩ :: (cus ++ (cu ++ (cp ++ (ca ++ (D ++ G)))))) := H1
  rw [rd1_t (H1'.cell 1 (o := 17) rfl rfl)]
  have H1'' : Hp w0 w1 (ca ++ (⟨nb, 107, acell ⟨x.toNat, M.msg, M.frag⟩⟩ :: ⟨b, 96, lkc M su sus sp sa⟩ :: (cus ++ (cu ++ (cp ++ (D ++ G)))))) := H1'.to (by intro f; simp only [I, U8, U64, ptr, List.set_cons_zero, List.set_cons_succ, List.eraseIdx_cons_zero, List.eraseIdx_cons_succ, List.map_append, List.map_cons, List.map_nil, List.sum_append, List.sum_cons, List.sum_nil]; omega)
  refine append_h (m := 1) (ys := acell ⟨x.toNat, M.msg, M.frag⟩) elT94 H1'' hlk.acks (.inr ⟨nb, 0, 1, 107, acell ⟨x.toNat, M.msg, M.frag⟩, rfl, by omega, by simp, by simp [acell], rfl⟩)
    (by intro c hc; simp [acell] at hc; rcases hc with rfl | rfl | rfl | rfl | rfl | rfl <;> rfl) (by omega) (by omega) fun w2 s2 ca2 H2 h2 => ?_
  try simp only [WKt, mem, drewV]
  have H2' : Hp w0 w2 (⟨b, 96, lkc M su sus sp sa⟩ :: (cus ++ (cu ++ (cp ++ (ca2 ++ (D ++ G)))))) := H2.to (by intro f; simp only [I, U8, U64, ptr, List.set_cons_zero, List.set_cons_succ, List.eraseIdx_cons_zero, List.eraseIdx_cons_succ, List.map_append, List.map_cons, List.map_nil, List.sum_append, List.sum_cons, List.sum_nil]; omega)
  refine st_h H2' 0 rfl (by simp [lkc]) (sl_sc h2) fun w3 H3 => ?_
  have H3' : Hp w0 w3 (⟨b, 96, lkc (addA M x) su sus sp s2⟩ :: (cus ++ (cu ++ (cp ++ (ca2 ++ (D ++ G)))))) := H3
  refine k w3 (⟨b, 96, lkc (addA M x) su sus sp s2⟩ :: (cu ++ (cus ++ (cp ++ (ca2 ++ D))))) (H3'.to (by intro f; simp only [I, U8, U64, ptr, List.set_cons_zero, List.set_cons_succ, List.eraseIdx_cons_zero, List.eraseIdx_cons_succ, List.map_append, List.map_cons, List.map_nil, List.sum_append, List.sum_cons, List.sum_nil]; omega)) ⟨su, sus, sp, s2, cu, cus, cp, ca2, D, sv, ⟨hlk.up, hlk.us, hlk.svl, hlk.dat, hlk.part, ?_⟩, rfl⟩
  have ea : acells (addA M x).acks = acells M.acks ++ acell ⟨x.toNat, M.msg, M.frag⟩ := by simp [acells, addA]
  rw [ea]
  simpa [addA] using h2
/-- A frame of a message. -/
theorem in_data {b fb : Nat} {M : LM} {su sus sp sa t : Value} {cu cus cp ca D cs : List Chunk} {sv : List Value} {x m f : Int} {last : Bool} {n : Nat} {d : List Int} (hlk : LkP 101 107 w0 M su sus sp sa cu cus cp ca D sv) (hal : M.acks.length < 2 ^ 30) (hx : 0 ≤ x)
    (hn : d.length = n) (hn4 : n ≤ 4096) (hp4 : M.part.length ≤ 4096) (ht : Sl 5 1 t n (bv d) cs) (hmsg : 0 ≤ M.msg ∧ M.msg < 2 ^ 62) (hfr : f < 2 ^ 62 ∧ 0 ≤ M.frag)
    (H : Hp w0 w (⟨b, 96, lkc M su sus sp sa⟩ :: ⟨fb, 48, frm 1 last m f t⟩ :: (cus ++ (cu ++ (cp ++ (ca ++ (D ++ (cs ++ F))))))))
    (k : ∀ w' s co Db svm L', Hp w0 w' (co ++ (Db ++ (L' ++ F))) → MsgP w0 s (takeV M m f last d) co Db svm → Lk w0 b (addA (takeM M m f last d) x) L' → R (.returned (.tuple ⟨[s, I 0]⟩)) w') :
    F23_j5 R (ptr b 0) (I x) (ptr fb 0) w := by
  subst hn
  have no : ¬ fitB M m f d → ∀ {w : World}, Hp w0 w (⟨b, 96, lkc M su sus sp sa⟩ :: ⟨fb, 48, frm 1 last m f t⟩ :: (cus ++ (cu ++ (cp ++ (ca ++ (D ++ (cs ++ F))))))) → F23_j6 R (ptr b 0) (I x) (.slice none 0 0) w := by
    intro hf w H
    have e1 : takeM M m f last d = M := by unfold takeM; rw [if_neg hf]
    have e2 : takeV M m f last d = [] := by unfold takeV; rw [if_neg (fun h => hf h.1)]
    rw [e1, e2] at k
    refine in_ack (G := F) hlk hal hx (H.to (by intro f; simp only [I, U8, U64, ptr, List.set_cons_zero, List.set_cons_succ, List.eraseIdx_cons_zero, List.eraseIdx_cons_succ, List.map_append, List.map_cons, List.map_nil, List.sum_append, List.sum_cons, List.sum_nil]; omega)) fun w' L' H' hL' => k w' _ [] [] [] L' H' MsgP.nil hL'
  unfold F23_j5 F23_j7
  simp only [WKt, mem, drewV]
  refine ld_h H.drew 1 rfl rfl ?_
  refine ld_h H.drew 0 rfl rfl ?_
  simp only [WKt, mem, drewV]
  by_cases h1 : m ≠ M.msg
  · simp only [decide_eq_false h1, WKt, mem, drewV]
    unfold F23_j8
    simp only [WKt, mem, drewV]
    exact no (fun h => h1 h.1) H.drew
  replace h1 := Decidable.not_not.1 h1
  simp only [decide_eq_true h1, WKt, mem, drewV]
  refine ld_h H.drew 1 rfl rfl ?_
  refine ld_h H.drew 0 rfl rfl ?_
  simp only [WKt, mem, drewV]
  by_cases h2 : f ≠ M.frag
  · simp only [decide_eq_false h2, WKt, mem, drewV]
    unfold F23_j8
    simp only [WKt, mem, drewV]
    exact no (fun h => h2 h.2.1) H.drew
  replace h2 := Decidable.not_not.1 h2
  simp only [decide_eq_true h2, WKt, mem, drewV]
  refine ld_h H.drew 0 rfl rfl ?_
  simp only [lenS_sl hlk.part, WKt, mem, drewV]
  refine ld_h H.drew 1 rfl rfl ?_
  simp only [lenS_sl ht, WKt, mem, drewV]
  rw [wrap64_id (by omega) (by omega)]
  by_cases h3 : ¬ ((M.part.length : Int) + (d.length : Int) ≤ 4096)
  · simp only [decide_eq_false h3, WKt, mem, drewV]
    unfold F23_j8
    simp only [WKt, mem, drewV]
    exact no (fun h => h3 (by have := h.2.2; omega)) H.drew
  replace h3 := Decidable.not_not.1 h3
  simp only [decide_eq_true h3, WKt, mem, drewV]
  unfold F23_j8
  simp only [WKt, mem, drewV]
  have hf : fitB M m f d := ⟨h1, h2, by omega⟩
  unfold F23_j9
  simp only [WKt, mem, drewV]
  refine ld_h H.drew.drew 0 rfl rfl ?_
  refine ld_h H.drew.drew 1 rfl rfl ?_
  have Ha : Hp w0 w.drew.drew (cp ++ (⟨b, 96, lkc M su sus sp sa⟩ :: ⟨fb, 48, frm 1 last m f t⟩ :: (cus ++ (cu ++ (ca ++ (D ++ (cs ++ F))))))) := H.drew.drew.to (by intro f; simp only [I, U8, U64, ptr, List.set_cons_zero, List.set_cons_succ, List.eraseIdx_cons_zero, List.eraseIdx_cons_succ, List.map_append, List.map_cons, List.map_nil, List.sum_append, List.sum_cons, List.sum_nil]; omega)
  refine append_h elT24 Ha hlk.part (ht.rdL fun c hc => by simp [hc]) bv_scalar (by omega) (by omega) fun w1 s1 cp1 H1 hp1 => ?_
  rw [← bv_append] at hp1
  try simp only [WKt, mem, drewV]
  have H1' : Hp w0 w1 (⟨b, 96, lkc M su sus sp sa⟩ :: ⟨fb, 48, frm 1 last m f t⟩ :: (cus ++ (cu ++ (cp1 ++ (ca ++ (D ++ (cs ++ F))))))) := H1.to (by intro f; simp only [I, U8, U64, ptr, List.set_cons_zero, List.set_cons_succ, List.eraseIdx_cons_zero, List.eraseIdx_cons_succ, List.map_append, List.map_cons, List.map_nil, List.sum_append, List.sum_cons, List.sum_nil]; omega)
  refine st_h H1' 0 rfl (by simp [lkc]) (sl_sc hp1) fun w2 H2 => ?_
  try simp only [WKt, mem, drewV]
  refine ld_h H2 0 rfl rfl ?_
  have hfb : f < 2 ^ 62 := hfr.1
  simp only [WKt, mem, drewV]
  rw [wrap64_id (by omega) (by omega)]
  refine st_h H2 0 rfl (by simp [lkc]) rfl fun w3 H3 => ?_
  try simp only [WKt, mem, drewV]
  refine ld_h H3 1 rfl rfl ?_
  generalize hM1 : ({ M with part := M.part ++ d, frag := M.frag + 1 } : LM) = M1
  have H3' : Hp w0 w3 (⟨b, 96, lkc M1 su sus s1 sa⟩ :: ⟨fb, 48, frm 1 last m f t⟩ :: (cus ++ (cu ++ (cp1 ++ (ca ++ (D ++ (cs ++ F))))))) := by rw [← hM1]; exact H3
  have hlk1 : LkP 101 107 w0 M1 su sus s1 sa cu cus cp1 ca D sv := by
    rw [← hM1]
    exact ⟨hlk.up, hlk.us, hlk.svl, hlk.dat, by rw [List.length_append]; exact hp1, hlk.acks⟩
  have hal1 : M1.acks.length < 2 ^ 30 := by rw [← hM1]; exact hal
  unfold F23_j10
  cases hl : last with
  | false =>
    have e1 : takeM M m f last d = M1 := by unfold takeM; rw [if_pos hf, hl, ← hM1]; rfl
    have e2 : takeV M m f last d = [] := by unfold takeV; rw [if_neg (fun h => by rw [hl] at h; exact absurd h.2 (by decide))]
    rw [e1, e2] at k
    simp only [WKt, mem, drewV]
    refine in_ack (G := F) hlk1 hal1 hx (H3'.to (by intro f; simp only [I, U8, U64, ptr, List.set_cons_zero, List.set_cons_succ, List.eraseIdx_cons_zero, List.eraseIdx_cons_succ, List.map_append, List.map_cons, List.map_nil, List.sum_append, List.sum_cons, List.sum_nil]; omega)) fun w' L' H' hL' => k w' _ [] [] [] L' H' MsgP.nil hL'
  | true =>
    have e2 : takeV M m f last d = [M.part ++ d] := by unfold takeV; rw [if_pos ⟨hf, hl⟩]
    rw [e2] at k
    simp only [WKt, mem, drewV]
    unfold F23_j11
    simp only [WKt, mem, drewV]
    refine ld_h H3' 0 rfl rfl ?_
    refine lit1s_h elT36 H3' (sl_cells hp1) fun w4 nb H4 => ?_
    refine append_h (cs := []) (n := 0) (m := 1) (xs := []) (ys := [s1]) elT36 H4 Sl.nil (.inr ⟨nb, 0, 1, 24, [s1], rfl, by omega, by simp, by simp, rfl⟩) (by intro c hc; simp at hc; subst hc; exact sl_sc hp1) (by omega) (by omega) fun w5 s5 co H5 h5 => ?_
    try simp only [WKt, mem, drewV]
    have H5' : Hp w0 w5 (⟨b, 96, lkc M1 su sus s1 sa⟩ :: (co ++ (cp1 ++ (cus ++ (cu ++ (ca ++ (D ++ F))))))) := H5.to (by intro f; simp only [I, U8, U64, ptr, List.set_cons_zero, List.set_cons_succ, List.eraseIdx_cons_zero, List.eraseIdx_cons_succ, List.map_append, List.map_cons, List.map_nil, List.sum_append, List.sum_cons, List.sum_nil]; omega)
    refine st_h H5' 0 rfl (by simp [lkc]) rfl fun w6 H6 => ?_
    try simp only [WKt, mem, drewV]
    refine ld_h H6 0 rfl rfl ?_
    have em : M1.msg = M.msg := by rw [← hM1]
    simp only [WKt, mem, drewV]
    rw [em, wrap64_id (by omega) (by omega)]
    refine st_h H6 0 rfl (by simp [lkc]) rfl fun w7 H7 => ?_
    try simp only [WKt, mem, drewV]
    refine st_h H7 0 rfl (by simp [lkc]) rfl fun w8 H8 => ?_
    generalize hM2 : takeM M m f true d = M2
    have hM2' : M2 = { M with msg := M.msg + 1, frag := 0, part := [] } := by rw [← hM2]; unfold takeM; rw [if_pos hf]; rfl
    have H8' : Hp w0 w8 (⟨b, 96, lkc M2 su sus (.slice none 0 0) sa⟩ :: (co ++ (cp1 ++ (cus ++ (cu ++ (ca ++ (D ++ F))))))) := by rw [hM2', hM1.symm] at *; exact H8
    have hlk2 : LkP 101 107 w0 M2 su sus (.slice none 0 0) sa cu cus [] ca D sv := by
      rw [hM2']
      exact ⟨hlk.up, hlk.us, hlk.svl, hlk.dat, Sl.nil, hlk.acks⟩
    have hal2 : M2.acks.length < 2 ^ 30 := by rw [hM2']; exact hal
    refine in_ack (G := co ++ (cp1 ++ F)) hlk2 hal2 hx (H8'.to (by intro f; simp only [I, U8, U64, ptr, List.set_cons_zero, List.set_cons_succ, List.eraseIdx_cons_zero, List.eraseIdx_cons_succ, List.map_append, List.map_cons, List.map_nil, List.sum_append, List.sum_cons, List.sum_nil]; omega)) fun w' L' H' hL' => k w' s5 co cp1 [s1] L' (H'.to (by intro f; simp only [I, U8, U64, ptr, List.set_cons_zero, List.set_cons_succ, List.eraseIdx_cons_zero, List.eraseIdx_cons_succ, List.map_append, List.map_cons, List.map_nil, List.sum_append, List.sum_cons, List.sum_nil]; omega)) ⟨?_, rfl, ?_⟩ ?_
    · simpa using h5
    · intro i ys s hi hs
      have h0 : i = 0 := by have := (List.getElem?_eq_some_iff.1 hi).1; simp at this; omega
      subst h0
      simp at hi hs
      subst hi; subst hs
      exact (by rw [List.length_append]; exact hp1.rdL fun c hc => hc)
    · rw [hl, hM2]; exact hL'
theorem decE_zero {xs : List Int} (h : decE xs = 0) : 24 ≤ xs.length ∧ xs.length ≤ 4120 ∧ dOk xs := by
  unfold decE at h
  split at h
  · cases h
  · rename_i hh
    refine ⟨by omega, by omega, ?_⟩
    by_cases h1 : dOk xs
    · exact h1
    · exact absurd (.inr (.inr h1)) hh
theorem Input_spec {b : Nat} {M : LM} {x now : Int} {s : Value} {n : Nat} {xs : List Int} (H : Hp w0 w (L ++ F)) (hL : Lk w0 b M L) (hs : RdL w0 F 1 s n (bv xs)) (hn : n < 2 ^ 40) (hul : M.us.length < 2 ^ 40) (hal : M.acks.length < 2 ^ 30) (hp4 : M.part.length ≤ 4096)
    (hmsg : 0 ≤ M.msg ∧ M.msg < 2 ^ 62) (hfr : 0 ≤ M.frag) :
    Calls Pg 23 ⟨[ptr b 0, I x, s, I now]⟩ w (InPost w0 F Lk b M x xs now) := by
  have hL0 := hL
  obtain ⟨su, sus, sp, sa, cu, cus, cp, ca, D, sv, hlk, rfl⟩ := hL
  have H0 : Hp w0 w (⟨b, 96, lkc M su sus sp sa⟩ :: (cus ++ (cu ++ (cp ++ (ca ++ (D ++ F)))))) := H.to (by intro f; simp only [I, U8, U64, ptr, List.set_cons_zero, List.set_cons_succ, List.eraseIdx_cons_zero, List.eraseIdx_cons_succ, List.map_append, List.map_cons, List.map_nil, List.sum_append, List.sum_cons, List.sum_nil]; omega)
  have fail : ∀ {w' : World} {er : Int}, Hp w0 w' (⟨b, 96, lkc M su sus sp sa⟩ :: (cus ++ (cu ++ (cp ++ (ca ++ (D ++ F)))))) → er ≠ 0 → inE M x xs now = er → InPost w0 F Lk b M x xs now (.returned (.tuple ⟨[.slice none 0 0, I er]⟩)) w' := by
    intro w' er H' hne he
    have hne' : inE M x xs now ≠ 0 := by rw [he]; exact hne
    refine ⟨_, [], [], [], ⟨b, 96, lkc M su sus sp sa⟩ :: (cu ++ (cus ++ (cp ++ (ca ++ D)))), by rw [he], H'.to (by intro f; simp only [I, U8, U64, ptr, List.set_cons_zero, List.set_cons_succ, List.eraseIdx_cons_zero, List.eraseIdx_cons_succ, List.map_append, List.map_cons, List.map_nil, List.sum_append, List.sum_cons, List.sum_nil]; omega), ?_, ?_⟩
    · unfold inV; rw [if_pos hne']; exact MsgP.nil
    · unfold inM; rw [if_pos hne']; exact hL0
  apply F23_calls
  have enp : eqNilP (ptr b 0) = some (.bool false) := rfl
  unfold F23
  simp only [enp, WKt, mem, drewV]
  unfold F23_j1 F23_j12
  simp only [WKt, mem, drewV]
  by_cases h1 : x < 0
  · simp only [decide_eq_true h1, WKt, mem, drewV]
    exact fail H0 (by decide) (by unfold inE; rw [if_pos (.inl h1)])
  simp only [decide_eq_false h1, WKt, mem, drewV]
  refine ld_h H0 0 rfl rfl ?_
  simp only [lenS_sl hlk.up, WKt, mem, drewV]
  refine cnd_decide (fun h2 => ?_) (fun h2 => ?_)
  · exact fail H0 (by decide) (by unfold inE; rw [if_pos (.inr h2)])
  unfold F23_j2
  have hno : ¬ (x < 0 ∨ (M.up.length : Int) ≤ x) := by omega
  refine cal_h (time_spec (now := now) H0) ?_
  rintro e w1 ⟨rfl, rfl⟩
  by_cases h3 : timeE M now ≠ 0
  · simp only [decide_eq_true h3, WKt, mem, drewV]
    exact fail H0 h3 (by unfold inE; rw [if_neg hno, if_pos h3])
  simp only [decide_eq_false h3, WKt, mem, drewV]
  unfold F23_j3
  have H0' : Hp w0 w1 ((⟨b, 96, lkc M su sus sp sa⟩ :: (cus ++ (cu ++ (cp ++ (ca ++ D))))) ++ F) := H0.to (by intro f; simp only [I, U8, U64, ptr, List.set_cons_zero, List.set_cons_succ, List.eraseIdx_cons_zero, List.eraseIdx_cons_succ, List.map_append, List.map_cons, List.map_nil, List.sum_append, List.sum_cons, List.sum_nil]; omega)
  refine cal_h (Decode_spec (hs.mono fun c hc => List.mem_append_right _ hc) hn H0') ?_
  rintro e w2 ⟨k, last, m, f, t, n', ys, cs, rfl, H2, hS, z1, o1⟩
  simp only [WKt, mem, drewV]
  have htsc := (hS.rdL (L := cs) (w0 := w0) fun c hc => hc)
  refine al_h H2 (z := zfrm) (by kernel_rfl) fun w3 fb H3 => ?_
  refine stA_h H3 0 rfl rfl rfl (frm_scalar (rd_cells htsc).2) fun w4 H4 => ?_
  simp only [List.set_cons_zero] at H4
  have hE : inE M x xs now = decE xs := by unfold inE; rw [if_neg hno, if_neg h3]
  by_cases h4 : decE xs ≠ 0
  · simp only [decide_eq_true h4, WKt, mem, drewV]
    exact fail (H4.to (by intro f; simp only [I, U8, U64, ptr, List.set_cons_zero, List.set_cons_succ, List.eraseIdx_cons_zero, List.eraseIdx_cons_succ, List.map_append, List.map_cons, List.map_nil, List.sum_append, List.sum_cons, List.sum_nil]; omega)) h4 hE
  simp only [decide_eq_false h4, WKt, mem, drewV]
  replace h4 := Decidable.not_not.1 h4
  obtain ⟨rfl, rfl, rfl, rfl, hn', rfl⟩ := o1 h4
  obtain ⟨g1, g2, g3⟩ := decE_zero h4
  unfold F23_j4
  have H4' : Hp w0 w4 (⟨b, 96, lkc M su sus sp sa⟩ :: ⟨fb, 48, frm (dK xs) (decide (dB xs = 1)) (dM xs) (dF xs) t⟩ :: (cus ++ (cu ++ (cp ++ (ca ++ (D ++ (cs ++ F))))))) := H4.to (by intro f; simp only [I, U8, U64, ptr, List.set_cons_zero, List.set_cons_succ, List.eraseIdx_cons_zero, List.eraseIdx_cons_succ, List.map_append, List.map_cons, List.map_nil, List.sum_append, List.sum_cons, List.sum_nil]; omega)
  simp only [WKt, mem, drewV]
  refine st_h H4' 0 rfl (by simp [lkc]) rfl fun w5 H5 => ?_
  have H5' : Hp w0 w5 (⟨b, 96, lkc { M with clock := now } su sus sp sa⟩ :: ⟨fb, 48, frm (dK xs) (decide (dB xs = 1)) (dM xs) (dF xs) t⟩ :: (cus ++ (cu ++ (cp ++ (ca ++ (D ++ (cs ++ F))))))) := H5
  try simp only [WKt, mem, drewV]
  refine ld_h H5' 1 rfl rfl ?_
  simp only [WKt, mem, drewV]
  have hlk5 : LkP 101 107 w0 { M with clock := now } su sus sp sa cu cus cp ca D sv := ⟨hlk.up, hlk.us, hlk.svl, hlk.dat, hlk.part, hlk.acks⟩
  have hE0 : inE M x xs now = 0 := by rw [hE]; exact h4
  refine cnd_decide (fun h5 => ?_) (fun h5 => ?_)
  · refine ldA_h H5' 1 rfl rfl ?_
    have H5'' : Hp w0 w5 ((⟨b, 96, lkc { M with clock := now } su sus sp sa⟩ :: (cu ++ (cus ++ (cp ++ (ca ++ D))))) ++ (⟨fb, 48, frm (dK xs) (decide (dB xs = 1)) (dM xs) (dF xs) t⟩ :: (cs ++ F))) := H5'.to (by intro f; simp only [I, U8, U64, ptr, List.set_cons_zero, List.set_cons_succ, List.eraseIdx_cons_zero, List.eraseIdx_cons_succ, List.map_append, List.map_cons, List.map_nil, List.sum_append, List.sum_cons, List.sum_nil]; omega)
    refine cal_h (acknowledge_spec H5'' ⟨su, sus, sp, sa, cu, cus, cp, ca, D, sv, hlk5, rfl⟩ hul) ?_
    rintro e w6 ⟨L', rfl, H6, hL'⟩
    refine ⟨_, [], [], [], L', by rw [hE0], H6.to (by intro f; simp only [I, U8, U64, ptr, List.set_cons_zero, List.set_cons_succ, List.eraseIdx_cons_zero, List.eraseIdx_cons_succ, List.map_append, List.map_cons, List.map_nil, List.sum_append, List.sum_cons, List.sum_nil]; omega), ?_, ?_⟩
    · unfold inV; rw [if_neg (by rw [hE0]; decide), if_pos h5]; exact MsgP.nil
    · unfold inM; rw [if_neg (by rw [hE0]; decide), if_pos h5]; exact hL'
  · have hk1 : dK xs = 1 := by
      rcases g3.1 with h | h
      · exact h
      · exact absurd h.1 h5
    have hdl : (xs.drop 24).length = n' := by rw [List.length_drop]; omega
    rw [hk1] at H5'
    refine in_data (M := { M with clock := now }) (m := dM xs) (f := dF xs) (last := decide (dB xs = 1)) (d := xs.drop 24) hlk5 hal (by omega) hdl (by omega) hp4 hS hmsg ⟨?_, hfr⟩ H5' fun w' s co Db svm L' H' hm hL' => ?_
    · have := g3.2.2.2.2; omega
    · refine ⟨s, co, Db, svm, L', by rw [hE0], H', ?_, ?_⟩
      · unfold inV; rw [if_neg (by rw [hE0]; decide), if_neg h5]; exact hm
      · unfold inM; rw [if_neg (by rw [hE0]; decide), if_neg h5]; exact hL'
end
end Go.Proofs.Ytmnpndgmfmjfhaa.Den
end

section
set_option linter.unusedVariables false
set_option linter.unusedSimpArgs false
set_option maxRecDepth 8000
namespace Go.Proofs.Ytmnpndgmfmjfhaa.Den
open Go Go.RowKit
theorem encE_zero' {k : Int} {last : Bool} {m f : Int} {n : Nat} (h : encE k last m f n = 0) : (k = 1 ∨ k = 2 ∧ last = false ∧ n = 0) ∧ 1 ≤ m ∧ 0 ≤ f ∧ f ≤ 2147483647 ∧ n ≤ 4096 := by
  unfold encE at h
  split at h
  · cases h
  · split at h
    · cases h
    · split at h
      · cases h
      · split at h
        · cases h
        · rename_i h1 h2 h3 h4
          refine ⟨?_, by omega, by omega, by omega, by omega⟩
          by_cases hk : k = 1
          · exact .inl hk
          · have hk2 : k = 2 := by omega
            refine .inr ⟨hk2, ?_, ?_⟩
            · cases last with
              | false => rfl
              | true => exact absurd ⟨hk2, .inl rfl⟩ h2
            · by_cases hn : 0 < n
              · exact absurd ⟨hk2, .inr hn⟩ h2
              · omega
def nxt (u : UM) : Int × Int := if u.last then (u.m + 1, 0) else (u.m, u.f + 1)
def Chn : List UM → Prop
  | [] => True
  | u :: r => (match r with | [] => True | v :: _ => nxt u = (v.m, v.f)) ∧ Chn r
def Pre : List UM → Prop
  | [] => True
  | u :: r => (u.at_ < 0 → ∀ v ∈ r, v.at_ < 0) ∧ Pre r
def key (u : UM) : Bool × Int × Int × List Int := (u.last, u.m, u.f, u.d)
theorem chn_key : ∀ {us us' : List UM}, us'.map key = us.map key → Chn us → Chn us'
  | [], [], _, _ => trivial
  | [], _ :: _, h, _ => by simp at h
  | _ :: _, [], h, _ => by simp at h
  | u :: r, u' :: r', h, hc => by
    simp only [List.map_cons, List.cons.injEq] at h
    refine ⟨?_, chn_key h.2 hc.2⟩
    have hk := h.1
    simp only [key, Prod.mk.injEq] at hk
    cases r' with
    | nil => trivial
    | cons v' r' =>
      cases r with
      | nil => simp at h
      | cons v r =>
        have h2 := h.2
        simp only [List.map_cons, List.cons.injEq, key, Prod.mk.injEq] at h2
        have h3 : nxt u = (v.m, v.f) := hc.1
        show nxt u' = (v'.m, v'.f)
        rw [h2.1.2.1, h2.1.2.2.1, ← h3]
        unfold nxt
        rw [hk.1, hk.2.1, hk.2.2.1]
theorem chn_drop : ∀ {us : List UM} (n : Nat), Chn us → Chn (us.drop n)
  | us, 0, h => h
  | [], n + 1, h => by simp; trivial
  | u :: r, n + 1, h => chn_drop (us := r) n h.2
theorem pre_drop : ∀ {us : List UM} (n : Nat), Pre us → Pre (us.drop n)
  | us, 0, h => h
  | [], n + 1, h => by simp; trivial
  | u :: r, n + 1, h => pre_drop (us := r) n h.2
theorem chn_append : ∀ {us vs : List UM}, Chn us → Chn vs → (∀ u v, us.getLast? = some u → vs.head? = some v → nxt u = (v.m, v.f)) → Chn (us ++ vs)
  | [], vs, _, h, _ => h
  | [u], vs, _, h, hl => by
    refine ⟨?_, h⟩
    cases vs with
    | nil => trivial
    | cons v vs => exact hl u v rfl rfl
  | u :: u' :: r, vs, h, h2, hl => ⟨h.1, chn_append (us := u' :: r) h.2 h2 (fun a b ha hb => hl a b (by rw [List.getLast?_cons_cons]; exact ha) hb)⟩
theorem pre_append : ∀ {us vs : List UM}, Pre us → (∀ v ∈ vs, v.at_ < 0) → Pre (us ++ vs)
  | [], [], _, _ => trivial
  | [], v :: vs, _, h => ⟨fun _ x hx => h x (by simp [hx]), pre_append (us := []) (vs := vs) trivial fun x hx => h x (by simp [hx])⟩
  | u :: r, vs, hp, h => ⟨fun hu v hv => (List.mem_append.1 hv).elim (fun h1 => hp.1 hu v h1) (fun h1 => h v h1), pre_append hp.2 h⟩
theorem outUs_key (again : Bool) (now q : Int) (ws : List Int) : ∀ (n : Nat) (t : Int) (us : List UM), (outUs again now q ws n t us).2.1.map key = us.map key
  | 0, t, us => rfl
  | n + 1, t, [] => rfl
  | n + 1, t, v :: r => by
    unfold outUs
    split
    · simp only [List.map_cons, outUs_key again now q ws n t r]
    · simp only [List.map_cons, outUs_key again now q ws n _ r]; rfl
theorem outUs_pre {again : Bool} {now q : Int} {ws : List Int} (h0 : 0 ≤ now) : ∀ (n : Nat) (t : Int) (us : List UM), Pre us → Pre (outUs again now q ws n t us).2.1
  | 0, t, us, h => h
  | n + 1, t, [], h => trivial
  | n + 1, t, v :: r, h => by
    unfold outUs
    split
    · rename_i hc
      simp at hc
      exact ⟨fun h' => by omega, outUs_pre h0 n t r h.2⟩
    · exact ⟨fun h' => by simp only at h'; omega, outUs_pre h0 n _ r h.2⟩
/-- The units of a message, the last one marked. -/
def addL (m : Int) : Nat → List (List Int) → List UM
  | _, [] => []
  | k, p :: ps => ⟨ps.isEmpty, m, (k : Int), p, -1⟩ :: addL m (k + 1) ps
theorem setLast_app : ∀ (us : List UM) (m : Int) (k : Nat) (ps : List (List Int)), ps ≠ [] → setLast (us ++ addU m k ps) = us ++ addL m k ps := by
  intro us m k ps hps
  have key : ∀ (k : Nat) (ps : List (List Int)), ps ≠ [] → ∃ init l, addU m k ps = init ++ [l] ∧ addL m k ps = init ++ [{ l with last := true }] := by
    intro k ps
    induction ps generalizing k with
    | nil => intro h; exact absurd rfl h
    | cons p ps ih =>
      intro _
      cases ps with
      | nil => exact ⟨[], _, rfl, rfl⟩
      | cons q r =>
        obtain ⟨init, l, h1, h2⟩ := ih (k + 1) (by simp)
        exact ⟨⟨false, m, (k : Int), p, -1⟩ :: init, l, by rw [addU, h1]; rfl, by rw [addL, h2]; rfl⟩
  obtain ⟨init, l, h1, h2⟩ := key k ps hps
  rw [h1, h2, ← List.append_assoc, ← List.append_assoc]
  unfold setLast
  have : (us ++ init ++ [l])[(us ++ init ++ [l]).length - 1]? = some l := by simp
  rw [this]
  simp
theorem addL_mem (m : Int) : ∀ (k : Nat) (ps : List (List Int)), ∀ u ∈ addL m k ps, u.m = m ∧ (k : Int) ≤ u.f ∧ u.f < (k : Int) + ps.length ∧ u.d ∈ ps ∧ u.at_ = -1
  | _, [], u, h => by simp [addL] at h
  | k, p :: ps, u, h => by
    rcases List.mem_cons.1 h with rfl | h
    · simp; omega
    · obtain ⟨h1, h2, h3, h4, h5⟩ := addL_mem m (k + 1) ps u h
      refine ⟨h1, by omega, ?_, by simp [h4], h5⟩
      simp only [List.length_cons]; omega
theorem addL_length (m : Int) : ∀ (k : Nat) (ps : List (List Int)), (addL m k ps).length = ps.length
  | _, [] => rfl
  | k, p :: ps => by simp [addL, addL_length m (k + 1) ps]
theorem addL_chn (m : Int) : ∀ (k : Nat) (ps : List (List Int)), Chn (addL m k ps)
  | _, [] => trivial
  | k, [p] => ⟨trivial, trivial⟩
  | k, p :: q :: r => ⟨by show nxt ⟨false, m, (k : Int), p, -1⟩ = (m, ((k + 1 : Nat) : Int)); unfold nxt; simp, addL_chn m (k + 1) (q :: r)⟩
theorem addL_last (m : Int) : ∀ (k : Nat) (ps : List (List Int)) (u : UM), (addL m k ps).getLast? = some u → u.last = true ∧ u.m = m
  | _, [], u, h => by simp [addL] at h
  | k, [p], u, h => by simp [addL] at h; subst h; exact ⟨rfl, rfl⟩
  | k, p :: q :: r, u, h => by
    have : addL m k (p :: q :: r) = ⟨false, m, (k : Int), p, -1⟩ :: addL m (k + 1) (q :: r) := rfl
    rw [this] at h
    have h2 : addL m (k + 1) (q :: r) = ⟨r.isEmpty, m, ((k + 1 : Nat) : Int), q, -1⟩ :: addL m (k + 2) r := rfl
    rw [h2, List.getLast?_cons_cons, ← h2] at h
    exact addL_last m (k + 1) (q :: r) u h
theorem pcs_le : ∀ (n sz : Nat) (d : List Int), ∀ p ∈ pcs n sz d, p.length ≤ d.length
  | 0, sz, d, p, h => by simp [pcs] at h
  | n + 1, sz, d, p, h => by
    unfold pcs at h
    split at h
    · simp at h; subst h; exact Nat.le_refl _
    · rcases List.mem_cons.1 h with rfl | h
      · simp; omega
      · have := pcs_le n sz (d.drop sz) p h
        simp at this; omega
structure LInv (n : Nat) (M : LM) : Prop where
  wf : Wf M
  tn : M.turn ≤ 8 * (n : Int)
  un : M.us.length ≤ 4097 * n
  an : M.acks.length ≤ n
  mn : 1 ≤ M.msg ∧ M.msg ≤ (n : Int) + 1
  fr : 0 ≤ M.frag
  pl : M.part.length ≤ 4096
  us : ∀ u ∈ M.us, 1 ≤ u.m ∧ u.m ≤ M.sent ∧ 0 ≤ u.f ∧ u.f ≤ 4097 ∧ u.d.length ≤ 4096
  ch : Chn M.us
  pre : Pre M.us
  la : ∀ u, M.us.getLast? = some u → u.last = true ∧ u.m = M.sent
theorem LInv.mono {n n' : Nat} {M : LM} (h : LInv n M) (hn : n ≤ n') : LInv n' M :=
  { h with tn := by have := h.tn; omega, un := Nat.le_trans h.un (Nat.mul_le_mul_left _ hn), an := Nat.le_trans h.an hn, mn := by have := h.mn; omega }
theorem LInv.up {n : Nat} {M : LM} {u : List Bool} (h : LInv n M) (hu : u.length = M.up.length) : LInv n { M with up := u } :=
  { h with wf := { h.wf with up1 := by simp only [hu]; exact h.wf.up1, up8 := by simp only [hu]; exact h.wf.up8, aw := by simp only [hu]; exact h.wf.aw } }
theorem inv_new {k : Nat} {size q t : Int} (h1 : 1 ≤ k) (h8 : k ≤ 8) (hs : 32 ≤ size ∧ size ≤ 4096) (ht : 1 ≤ t ∧ t ≤ 1099511627776) : LInv 0 (newM k size q t) where
  wf := newM_wf h1 h8 hs ht
  tn := by simp [newM]
  un := by simp [newM]
  an := by simp [newM]
  mn := by simp [newM]
  fr := by simp [newM]
  pl := by simp [newM]
  us := by intro u hu; simp [newM] at hu
  ch := by simp [newM]; trivial
  pre := by simp [newM]; trivial
  la := by intro u hu; simp [newM] at hu
theorem outM_us {M : LM} {now : Int} : (outM M now).sent = M.sent ∧ (outM M now).msg = M.msg ∧ (outM M now).frag = M.frag ∧ (outM M now).part = M.part ∧ ((outM M now).us = M.us ∨ 0 ≤ now ∧ ∃ a q ws t, (outM M now).us = (outUs a now q ws 8 t M.us).2.1) := by
  unfold outM
  split
  · exact ⟨rfl, rfl, rfl, rfl, .inl rfl⟩
  · rename_i h0
    obtain ⟨t1, _⟩ := timeE_zero (Decidable.not_not.1 h0)
    split
    · exact ⟨rfl, rfl, rfl, rfl, .inl rfl⟩
    · split
      · exact ⟨rfl, rfl, rfl, rfl, .inl rfl⟩
      · exact ⟨rfl, rfl, rfl, rfl, .inr ⟨t1, _, _, _, _, rfl⟩⟩
theorem keys_all {s : Int} {us us' : List UM} (hk : us'.map key = us.map key) (h : ∀ u ∈ us, 1 ≤ u.m ∧ u.m ≤ s ∧ 0 ≤ u.f ∧ u.f ≤ 4097 ∧ u.d.length ≤ 4096) : ∀ u ∈ us', 1 ≤ u.m ∧ u.m ≤ s ∧ 0 ≤ u.f ∧ u.f ≤ 4097 ∧ u.d.length ≤ 4096 := by
  intro u hu
  have h1 : key u ∈ us'.map key := List.mem_map_of_mem hu
  rw [hk] at h1
  obtain ⟨v, hv, e⟩ := List.mem_map.1 h1
  simp only [key, Prod.mk.injEq] at e
  have := h v hv
  rw [e.2.1, e.2.2.1, e.2.2.2] at this
  exact this
theorem inv_out {n : Nat} {M : LM} {now : Int} (h : LInv n M) (hn : n < 1000000) : LInv (n + 1) (outM M now) := by
  have hT := h.tn
  obtain ⟨w1, w2, w3, w4, w5⟩ := wf_out (now := now) h.wf (by omega)
  have hu := h.un
  have ha := h.an
  have hm := h.mn
  obtain ⟨f1, f2, f3, f4, f5⟩ := outM_us (M := M) (now := now)
  have hk : (outM M now).us.map key = M.us.map key := by
    rcases f5 with e | ⟨h0, a, q, ws, t, e⟩
    · rw [e]
    · rw [e, outUs_key]
  refine ⟨w1, by omega, by omega, by omega, by rw [f2]; omega, by rw [f3]; exact h.fr, by rw [f4]; exact h.pl, ?_, chn_key hk h.ch, ?_, ?_⟩
  · rw [f1]; exact keys_all hk h.us
  · rcases f5 with e | ⟨h0, a, q, ws, t, e⟩
    · rw [e]; exact h.pre
    · rw [e]; exact outUs_pre h0 8 t M.us h.pre
  · intro u hu
    rw [f1]
    have h1 : ((outM M now).us.map key).getLast? = some (key u) := by rw [List.getLast?_map, hu]; rfl
    rw [hk, List.getLast?_map] at h1
    cases hl : M.us.getLast? with
    | none => rw [hl] at h1; simp at h1
    | some v =>
      rw [hl] at h1
      simp only [Option.map_some, Option.some.injEq, key, Prod.mk.injEq] at h1
      have := h.la v hl
      rw [← h1.1, ← h1.2.1]; exact this
theorem inv_send {n : Nat} {M : LM} {d : List Int} {now : Int} (h : LInv n M) (hn : n < 60000) : LInv (n + 1) (sendM M d now) := by
  by_cases he : sendE M d now ≠ 0
  · have : sendM M d now = M := by unfold sendM; rw [if_neg he]
    rw [this]; exact h.mono (by omega)
  replace he := Decidable.not_not.1 he
  obtain ⟨ht, h1, h2, h3⟩ := sendE_zero he
  have hu := h.un
  obtain ⟨w1, w2, w3⟩ := wf_send (d := d) (now := now) h.wf (by omega)
  have hlen := (send_len (M := M) (d := d) (now := now)).1
  have eM : sendM M d now = { M with clock := now, sent := M.sent + 1, us := M.us ++ addL (M.sent + 1) 0 (pcs (d.length + 1) (M.size - 24).toNat d) } := by
    unfold sendM; rw [if_pos he, setLast_app _ _ _ _ (pcs_ne _ _ _)]
  have ht := h.tn
  have ha := h.an
  have hm := h.mn
  have hsd := h.wf.sd
  have hpl := pcs_length (d.length + 1) (M.size - 24).toNat d
  refine ⟨w1, by rw [w3]; omega, by omega, by rw [w2]; omega, by rw [eM]; simp only; omega, by rw [eM]; exact h.fr, by rw [eM]; exact h.pl, ?_, ?_, ?_, ?_⟩
  · rw [eM]; intro u hu
    rcases List.mem_append.1 hu with hu | hu
    · have := h.us u hu; simp only; omega
    · obtain ⟨g1, g2, g3, g4, g5⟩ := addL_mem _ _ _ u hu
      have := pcs_le _ _ _ _ g4
      simp only; omega
  · rw [eM]
    refine chn_append h.ch (addL_chn _ _ _) ?_
    intro u v hu hv
    obtain ⟨g1, g2⟩ := h.la u hu
    cases hp : pcs (d.length + 1) (M.size - 24).toNat d with
    | nil => exact absurd hp (pcs_ne _ _ _)
    | cons p ps =>
      rw [hp] at hv
      simp [addL] at hv
      subst hv
      unfold nxt; rw [if_pos g1, g2]
  · rw [eM]
    exact pre_append h.pre fun v hv => by rw [(addL_mem _ _ _ v hv).2.2.2.2]; decide
  · rw [eM]; intro u hu
    simp only at hu
    rw [List.getLast?_append] at hu
    cases hl : (addL (M.sent + 1) 0 (pcs (d.length + 1) (M.size - 24).toNat d)).getLast? with
    | none =>
      rw [List.getLast?_eq_none_iff] at hl
      have := congrArg List.length hl
      rw [addL_length] at this
      exact absurd (List.length_eq_zero_iff.1 this) (pcs_ne _ _ _)
    | some v =>
      rw [hl] at hu
      simp at hu; subst hu
      exact addL_last _ _ _ v hl
theorem lastDone_range {s : Int} : ∀ (us : List UM) (d : Int), 0 ≤ d ∧ d ≤ s → (∀ u ∈ us, 1 ≤ u.m ∧ u.m ≤ s) → 0 ≤ lastDone d us ∧ lastDone d us ≤ s
  | [], d, h, _ => h
  | u :: r, d, h, hu => by
    show 0 ≤ lastDone (if u.last then u.m else d) r ∧ _
    have h1 := hu u (by simp)
    refine lastDone_range r _ ?_ fun v hv => hu v (by simp [hv])
    split
    · omega
    · exact h
theorem wf_clock {M : LM} {now : Int} (h : Wf M) (ht : timeE M now = 0) : Wf { M with clock := now } := by
  obtain ⟨t1, t2, t3, t4⟩ := timeE_zero ht
  exact { h with clock := ⟨t1, t2⟩ }
theorem inv_clock {n : Nat} {M : LM} {now : Int} (h : LInv n M) (ht : timeE M now = 0) : LInv n { M with clock := now } := { h with wf := wf_clock h.wf ht }
theorem getLast_drop {α : Type} {l : List α} {n : Nat} {u : α} (h : (l.drop n).getLast? = some u) : l.getLast? = some u := by
  rw [List.getLast?_drop] at h
  split at h
  · cases h
  · exact h
theorem inv_ack {n : Nat} {M : LM} {m f : Int} (h : LInv n M) : LInv n (ackM M m f) := by
  unfold ackM
  split
  · exact h
  · rename_i i hi
    split
    · exact h
    · split
      · exact h
      · have hr := lastDone_range (s := M.sent) (M.us.take (i + 1)) M.done ⟨h.wf.sd.1, h.wf.sd.2.1⟩ fun u hu => by have := h.us u (List.mem_of_mem_take hu); omega
        have hs := h.wf.sd
        have hul := h.wf.ul
        have hun := h.un
        exact { wf := { h.wf with rep := by simp, at_ := fun u hu => h.wf.at_ u (List.mem_of_mem_drop hu), ul := by simp only [List.length_drop]; omega, sd := by simp only; omega }
                tn := h.tn, un := by simp only [List.length_drop]; omega, an := h.an, mn := h.mn, fr := h.fr, pl := h.pl
                us := fun u hu => h.us u (List.mem_of_mem_drop hu), ch := chn_drop _ h.ch, pre := pre_drop _ h.pre, la := fun u hu => h.la u (getLast_drop hu) }
theorem inv_take {n : Nat} {M : LM} {m f : Int} {last : Bool} {d : List Int} (h : LInv n M) (hm : M.msg ≤ (n : Int) + 1) : LInv (n + 1) (takeM M m f last d) := by
  have h' := h.mono (n' := n + 1) (by omega)
  unfold takeM
  split
  · rename_i hf
    split
    · have := h.mn
      exact { h' with wf := { h.wf with }, mn := by simp only; omega, fr := by simp, pl := by simp }
    · have h3 := hf.2.2
      have := h.fr
      exact { h' with wf := { h.wf with }, fr := by simp only; omega, pl := by simp only [List.length_append]; omega }
  · exact h'
theorem takeM_eqs {M : LM} {m f : Int} {last : Bool} {d : List Int} : (takeM M m f last d).acks = M.acks ∧ (takeM M m f last d).up = M.up ∧ (takeM M m f last d).turn = M.turn := by
  unfold takeM; repeat' split
  all_goals exact ⟨rfl, rfl, rfl⟩
theorem inv_in {n : Nat} {M : LM} {x now : Int} {xs : List Int} (h : LInv n M) (hn : n < 1000000) : LInv (n + 1) (inM M x xs now) := by
  unfold inM
  split
  · exact h.mono (by omega)
  · rename_i h0
    replace h0 := Decidable.not_not.1 h0
    have hx : ¬ (x < 0 ∨ (M.up.length : Int) ≤ x) := by
      intro hx; unfold inE at h0; rw [if_pos hx] at h0; cases h0
    have ht : timeE M now = 0 := by
      unfold inE at h0; rw [if_neg hx] at h0
      split at h0
      · rename_i h1; exact absurd h0 h1
      · rename_i h1; exact Decidable.not_not.1 h1
    have hc := inv_clock h ht
    split
    · exact (inv_ack hc).mono (by omega)
    · have h1 := inv_take (m := dM xs) (f := dF xs) (last := decide (dB xs = 1)) (d := xs.drop 24) hc hc.mn.2
      obtain ⟨e1, e2, e3⟩ := takeM_eqs (M := { M with clock := now }) (m := dM xs) (f := dF xs) (last := decide (dB xs = 1)) (d := xs.drop 24)
      generalize takeM { M with clock := now } (dM xs) (dF xs) (decide (dB xs = 1)) (xs.drop 24) = M1 at h1 e1 e2 e3
      have han := h.an
      unfold addA
      have e1' : M1.acks = M.acks := e1
      have e2' : M1.up = M.up := e2
      have haw : ∀ a ∈ M1.acks ++ [⟨x.toNat, M1.msg, M1.frag⟩], a.w < M1.up.length := by
        intro a ha
        rcases List.mem_append.1 ha with ha | ha
        · exact h1.wf.aw a ha
        · simp at ha; subst ha; simp only [e2']; omega
      have hal : (M1.acks ++ [⟨x.toNat, M1.msg, M1.frag⟩] : List AM).length < 134217728 := by rw [List.length_append, e1', List.length_singleton]; omega
      have han : (M1.acks ++ [⟨x.toNat, M1.msg, M1.frag⟩] : List AM).length ≤ n + 1 := by rw [List.length_append, e1', List.length_singleton]; omega
      exact { h1 with an := han, wf := { h1.wf with aw := haw, al := hal } }
end Go.Proofs.Ytmnpndgmfmjfhaa.Den
end

section
set_option linter.unusedVariables false
set_option linter.unusedSimpArgs false
set_option maxRecDepth 8000
namespace Go.Proofs.Ytmnpndgmfmjfhaa.Den
open Go Go.RowKit
section
variable {w w' : World} {w0 : Base} {F L : List Chunk} {R : ER}
theorem rtime_spec {b : Nat} {M : LM} {now : Int} {su sus sp sa : Value} {tb : Nat} (H : Hp w0 w (⟨b, tb, rlc M su sus sp sa⟩ :: F)) :
    Calls Pg 66 ⟨[ptr b 0, I now]⟩ w fun e w' => e = .returned (I (timeE M now)) ∧ w' = w := by
  apply F66_calls
  unfold F66
  simp only [WKt, mem, drewV]
  have bad : (now < 0 ∨ 1099511627776 < now) → (Ending.returned (Value.int .i64 34) = .returned (I (timeE M now)) ∧ True) := by
    intro h; unfold timeE; rw [if_pos h]; exact ⟨rfl, trivial⟩
  by_cases h1 : now < 0
  · simp only [decide_eq_true h1, WKt, mem, drewV]; exact bad (.inl h1)
  simp only [decide_eq_false h1, WKt, mem, drewV]
  by_cases h2 : 1099511627776 < now
  · simp only [decide_eq_true h2, WKt, mem, drewV]; exact bad (.inr h2)
  simp only [decide_eq_false h2, WKt, mem, drewV]
  have hn : ¬ (now < 0 ∨ 1099511627776 < now) := by omega
  unfold F66_j1
  simp only [WKt, mem, drewV]
  refine ld_h H 0 rfl rfl ?_
  refine cnd_decide (fun h3 => ?_) (fun h3 => ?_)
  · unfold timeE; rw [if_neg hn, if_pos h3]; exact ⟨rfl, rfl⟩
  · refine ld_h H 0 rfl rfl ?_
    have e : timeE M now = if M.broken then 4 else 0 := by unfold timeE; rw [if_neg hn, if_neg h3]
    rw [e]
    cases hb : M.broken with
    | true => simp only [WKt, mem, drewV]; exact ⟨by trivial, trivial⟩
    | false => simp only [WKt, mem, drewV]; exact ⟨by trivial, trivial⟩
theorem rAck_spec {b : Nat} {M : LM} (H : Hp w0 w (L ++ F)) (hL : rLk w0 b M L) : Calls Pg 57 ⟨[ptr b 0]⟩ w fun e w' => e = .returned (I M.done) ∧ Hp w0 w' (L ++ F) := by
  obtain ⟨su, sus, sp, sa, cu, cus, cp, ca, D, sv, hlk, rfl⟩ := hL
  apply F57_calls
  unfold F57
  simp only [WKt, mem, drewV]
  refine ld_h H 0 rfl rfl ?_
  exact ⟨rfl, H⟩
theorem rBroken_spec {b : Nat} {M : LM} (H : Hp w0 w (L ++ F)) (hL : rLk w0 b M L) : Calls Pg 58 ⟨[ptr b 0]⟩ w fun e w' => e = .returned (.bool M.broken) ∧ Hp w0 w' (L ++ F) := by
  obtain ⟨su, sus, sp, sa, cu, cus, cp, ca, D, sv, hlk, rfl⟩ := hL
  apply F58_calls
  unfold F58
  simp only [WKt, mem, drewV]
  refine ld_h H 0 rfl rfl ?_
  exact ⟨rfl, H⟩
theorem rnext_l {b bu cap : Nat} {M : LM} {su sp sa : Value} {sv rest : List Value} (hsv : sv.length = M.us.length) (hul : M.us.length < 2 ^ 40)
    (h1 : ∀ w', Hp w0 w' (⟨b, 125, rlc M su (.slice (some ⟨bu, 0, none⟩) M.us.length cap) sp sa⟩ :: ⟨bu, 141, ucells M.us sv ++ rest⟩ :: F) → 0 ≤ pend M → R (.returned (.tuple ⟨[I M.clock, .bool true]⟩)) w')
    (h2 : ∀ w', Hp w0 w' (⟨b, 125, rlc M su (.slice (some ⟨bu, 0, none⟩) M.us.length cap) sp sa⟩ :: ⟨bu, 141, ucells M.us sv ++ rest⟩ :: F) → pend M = -1 → F56_j3 R (ptr b 0) w') :
    ∀ (d i : Nat) (w : World), i + d = min 8 M.us.length → fIdx (fun u => decide (u.at_ < 0)) i ((M.us.take 8).drop i) = pend M → Hp w0 w (⟨b, 125, rlc M su (.slice (some ⟨bu, 0, none⟩) M.us.length cap) sp sa⟩ :: ⟨bu, 141, ucells M.us sv ++ rest⟩ :: F) →
      F56_l1 R (d + 1) (ptr b 0) (I (i : Int)) w := by
  intro d
  induction d with
  | zero =>
    intro i w hi hf H
    rw [F56_l1_succ]
    unfold F56_b1
    simp only [WKt, mem, drewV]
    refine ld_h H 0 rfl rfl ?_
    have hp : pend M = -1 := by rw [← hf, List.drop_eq_nil_of_le (by rw [List.length_take]; omega)]; rfl
    simp only [WKt, mem, drewV]
    by_cases hlt : (i : Int) < (M.us.length : Int)
    · simp only [decide_eq_true hlt, decide_eq_false (show ¬ ((i : Int) < 8) from by omega), WKt, mem, drewV]
      exact h2 w H hp
    · simp only [decide_eq_false hlt, WKt, mem, drewV]
      exact h2 w H hp
  | succ d ih =>
    intro i w hi hf H
    rw [F56_l1_succ]
    unfold F56_b1
    simp only [WKt, mem, drewV]
    refine ld_h H 0 rfl rfl ?_
    simp only [WKt, mem, drewV]
    simp only [decide_eq_true (show (i : Int) < (M.us.length : Int) from by omega), decide_eq_true (show (i : Int) < 8 from by omega), WKt, mem, drewV]
    unfold F56_j6
    simp only [WKt, mem, drewV]
    refine ld_h H 0 rfl rfl ?_
    have hlt : i < M.us.length := by omega
    obtain ⟨u, hu⟩ : ∃ u, M.us[i]? = some u := ⟨_, List.getElem?_eq_getElem hlt⟩
    obtain ⟨s, hs⟩ : ∃ s, sv[i]? = some s := ⟨_, List.getElem?_eq_getElem (by omega)⟩
    rw [ixS_mk hlt]
    simp only [WKt, mem, drewV]
    refine ld_h H 1 rfl (get_left (by have := ucells_get hu hs (j := 5) (by omega); simpa [ucell] using this)) ?_
    simp only [WKt, mem, drewV]
    have hdrop : (M.us.take 8).drop i = u :: (M.us.take 8).drop (i + 1) := by
      have hg : (M.us.take 8)[i]? = some u := by rw [List.getElem?_take, if_pos (by omega)]; exact hu
      obtain ⟨g1, g2⟩ := List.getElem?_eq_some_iff.1 hg
      rw [List.drop_eq_getElem_cons g1, g2]
    rw [hdrop, fIdx] at hf
    refine cnd_decide (fun hat => ?_) (fun hat => ?_)
    · refine ld_h H 0 rfl rfl ?_
      exact h1 w H (by rw [← hf, if_pos (by simpa using hat)]; omega)
    · rw [if_neg (by simpa using hat)] at hf
      rw [wrap64_id (by omega) (by omega), show (i : Int) + 1 = ((i + 1 : Nat) : Int) from by omega]
      exact ih (i + 1) w (by omega) hf H
theorem max2I_int (a b : Int) : max2I (I a) (I b) = some (I (max a b)) := by
  simp only [max2I]; congr 2; split <;> omega
theorem rNext_spec {b : Nat} {M : LM} (H : Hp w0 w (L ++ F)) (hL : rLk w0 b M L) (hus : M.us.length < 2 ^ 40) (hat : ∀ u ∈ M.us, -1 ≤ u.at_ ∧ u.at_ ≤ 2 ^ 41) (ht : 0 ≤ M.timeout ∧ M.timeout ≤ 2 ^ 41) :
    Calls Pg 56 ⟨[ptr b 0]⟩ w fun e w' => e = .returned (.tuple ⟨[I (nextV M).1, .bool (nextV M).2]⟩) ∧ Hp w0 w' (L ++ F) := by
  obtain ⟨su, sus, sp, sa, cu, cus, cp, ca, D, sv, hlk, rfl⟩ := hL
  have H0 : Hp w0 w (⟨b, 125, rlc M su sus sp sa⟩ :: (cus ++ (cu ++ (cp ++ (ca ++ (D ++ F)))))) := H.to (by intro f; simp only [I, U8, U64, ptr, List.set_cons_zero, List.set_cons_succ, List.eraseIdx_cons_zero, List.eraseIdx_cons_succ, List.map_append, List.map_cons, List.map_nil, List.sum_append, List.sum_cons, List.sum_nil]; omega)
  have back : ∀ {w' : World}, Hp w0 w' (⟨b, 125, rlc M su sus sp sa⟩ :: (cus ++ (cu ++ (cp ++ (ca ++ (D ++ F)))))) → Hp w0 w' ((⟨b, 125, rlc M su sus sp sa⟩ :: (cu ++ (cus ++ (cp ++ (ca ++ D))))) ++ F) := fun H => H.to (by intro f; simp only [I, U8, U64, ptr, List.set_cons_zero, List.set_cons_succ, List.eraseIdx_cons_zero, List.eraseIdx_cons_succ, List.map_append, List.map_cons, List.map_nil, List.sum_append, List.sum_cons, List.sum_nil]; omega)
  apply F56_calls
  unfold F56
  simp only [WKt, mem, drewV]
  refine ld_h H0 0 rfl rfl ?_
  cases hb : M.broken with
  | true =>
    simp only [WKt, mem, drewV]
    exact ⟨by unfold nextV; rw [if_pos hb], back H0⟩
  | false =>
    simp only [WKt, mem, drewV]
    unfold F56_j1
    simp only [WKt, mem, drewV]
    refine ld_h H0 0 rfl rfl ?_
    simp only [lenS_sl hlk.acks, WKt, mem, drewV]
    refine cnd_decide (fun ha => ?_) (fun ha => ?_)
    · refine ld_h H0 0 rfl rfl ?_
      have hne : M.acks ≠ [] := by intro h; rw [h] at ha; simp at ha
      exact ⟨by unfold nextV; rw [hb, if_neg (by decide), if_pos (.inl hne)], back H0⟩
    have hnil : M.acks = [] := List.length_eq_zero_iff.1 (by omega)
    unfold F56_j2 F56_j4 F56_j5
    rcases hlk.us with ⟨rfl, ⟨a, rfl⟩, h0, h00⟩ | ⟨bu, cap, rest, rfl, rfl, h1, h2, h3⟩
    · have hus0 : M.us = [] := List.length_eq_zero_iff.1 h0
      refine ⟨0 + 1, ?_⟩
      show F56_l1 _ (0 + 1) _ _ w
      rw [F56_l1_succ]
      unfold F56_b1
      simp only [WKt, mem, drewV]
      refine ld_h H0 0 rfl rfl ?_
      have e00 : lenS (.slice a 0 0) = some (.int .i64 0) := rfl
      simp only [e00, show decide ((0 : Int) < 0) = false from rfl, WKt, mem, drewV]
      unfold F56_j3
      simp only [WKt, mem, drewV]
      refine ld_h H0 0 rfl rfl ?_
      simp only [e00, show decide ((0 : Int) < 0) = false from rfl, WKt, mem, drewV]
      have hp : pend M = -1 := by unfold pend; rw [hus0]; rfl
      exact ⟨by unfold nextV; rw [hb, if_neg (by decide), hnil, hp, hus0]; rfl, back H0⟩
    · refine ⟨min 8 M.us.length + 1, ?_⟩
      have hfin : ∀ {w' : World}, Hp w0 w' (⟨b, 125, rlc M su (.slice (some ⟨bu, 0, none⟩) M.us.length cap) sp sa⟩ :: ⟨bu, 141, ucells M.us sv ++ rest⟩ :: (cu ++ (cp ++ (ca ++ (D ++ F))))) → Hp w0 w' ((⟨b, 125, rlc M su (.slice (some ⟨bu, 0, none⟩) M.us.length cap) sp sa⟩ :: (cu ++ ([⟨bu, 141, ucells M.us sv ++ rest⟩] ++ (cp ++ (ca ++ D))))) ++ F) := fun H => H.to (by intro f; simp only [I, U8, U64, ptr, List.set_cons_zero, List.set_cons_succ, List.eraseIdx_cons_zero, List.eraseIdx_cons_succ, List.map_append, List.map_cons, List.map_nil, List.sum_append, List.sum_cons, List.sum_nil]; omega)
      refine rnext_l (F := cu ++ (cp ++ (ca ++ (D ++ F)))) hlk.svl hus (fun w' H' hp => ?_) (fun w' H' hp => ?_) (min 8 M.us.length) 0 w (by omega) rfl H0
      · exact ⟨by unfold nextV; rw [hb, if_neg (by decide), if_pos (.inr hp)], hfin H'⟩
      · unfold F56_j3
        simp only [WKt, mem, drewV]
        refine ld_h H' 0 rfl rfl ?_
        simp only [WKt, mem, drewV]
        refine cnd_decide (fun hl => ?_) (fun hl => ?_)
        · obtain ⟨u, r, hu⟩ : ∃ u r, M.us = u :: r := by
            cases hu : M.us with
            | nil => rw [hu] at hl; simp at hl
            | cons u r => exact ⟨u, r, rfl⟩
          have hg : M.us[0]? = some u := by rw [hu]; rfl
          obtain ⟨s, hs⟩ : ∃ s, sv[0]? = some s := ⟨_, List.getElem?_eq_getElem (by rw [hlk.svl]; omega)⟩
          refine ld_h H'.drew 0 rfl rfl ?_
          refine ld_h H'.drew 0 rfl rfl ?_
          have ei : ixS 6 (.slice (some ⟨bu, 0, none⟩) M.us.length cap) (.int .i64 0) = some (ptr bu 0) := by have := ixS_mk (sz := 6) (b := bu) (o := 0) (c := cap) (n := M.us.length) (j := 0) (k := .i64) (by omega); simpa using this
          simp only [ei, WKt, mem, drewV]
          refine ld_h H'.drew 1 rfl (get_left (by have := ucells_get hg hs (j := 5) (by omega); simpa [ucell] using this)) ?_
          refine ld_h H'.drew 0 rfl rfl ?_
          have hub := hat u (by rw [hu]; simp)
          simp only [WKt, mem, drewV]
          rw [wrap64_id (by omega) (by omega)]
          have em : max2I (.int .i64 M.clock) (.int .i64 (u.at_ + M.timeout)) = some (I (max M.clock (u.at_ + M.timeout))) := max2I_int _ _
          simp only [em, WKt, mem, drewV]
          refine ⟨?_, hfin H'.drew⟩
          unfold nextV; rw [hb, if_neg (by decide), hnil, hp, hu]; simp
        · have hus0 : M.us = [] := List.length_eq_zero_iff.1 (by omega)
          refine ⟨?_, hfin H'⟩
          unfold nextV; rw [hb, if_neg (by decide), hnil, hp, hus0]; simp
/-! ### Set -/
def setE (M : LM) (x : Int) : Int := if x < 0 ∨ (M.up.length : Int) ≤ x then 3 else 0
def setM (M : LM) (x : Int) (f : Bool) : LM := if setE M x ≠ 0 then M else { M with up := M.up.set x.toNat f }
def SetPost (w0 : Base) (F : List Chunk) (Lkx : Base → Nat → LM → List Chunk → Prop) (b : Nat) (M : LM) (x : Int) (f : Bool) : ER := fun e w' => ∃ L', e = .returned (I (setE M x)) ∧ Hp w0 w' (L' ++ F) ∧ Lkx w0 b (setM M x f) L'
theorem set_up {up : List Bool} {rest : List Value} {i : Nat} {f : Bool} (hi : i < up.length) : (up.map Value.bool ++ rest).set i (.bool f) = (up.set i f).map Value.bool ++ rest := by
  rw [List.set_append_left _ _ (by simpa using hi), List.map_set]
theorem rSet_spec {b : Nat} {M : LM} {x : Int} {f : Bool} (H : Hp w0 w (L ++ F)) (hL : rLk w0 b M L) : Calls Pg 49 ⟨[ptr b 0, I x, .bool f]⟩ w (SetPost w0 F rLk b M x f) := by
  have hL0 := hL
  obtain ⟨su, sus, sp, sa, cu, cus, cp, ca, D, sv, hlk, rfl⟩ := hL
  have bad : (x < 0 ∨ (M.up.length : Int) ≤ x) → ∀ {w' : World}, Hp w0 w' ((⟨b, 125, rlc M su sus sp sa⟩ :: (cu ++ (cus ++ (cp ++ (ca ++ D))))) ++ F) → SetPost w0 F rLk b M x f (.returned (.int .i64 3)) w' := by
    intro h w' H'
    have e : setE M x = 3 := by unfold setE; rw [if_pos h]
    exact ⟨_, by rw [e], H', by unfold setM; rw [if_pos (by rw [e]; decide)]; exact hL0⟩
  apply F49_calls
  unfold F49
  simp only [WKt, mem, drewV]
  by_cases h1 : x < 0
  · simp only [decide_eq_true h1, WKt, mem, drewV]; exact bad (.inl h1) H
  simp only [decide_eq_false h1, WKt, mem, drewV]
  refine ld_h H 0 rfl rfl ?_
  simp only [lenS_sl hlk.up, WKt, mem, drewV]
  refine cnd_decide (fun h2 => bad (.inr h2) H) (fun h2 => ?_)
  refine ld_h H 0 rfl rfl ?_
  obtain ⟨i, rfl⟩ : ∃ i : Nat, x = (i : Int) := ⟨x.toNat, by omega⟩
  have hi : i < M.up.length := by omega
  have e0 : setE M (i : Int) = 0 := by unfold setE; rw [if_neg (by omega)]
  obtain ⟨bu, cap, rest, rfl, rfl, c1, c2, c3⟩ := hlk.up.chunk (by omega)
  rw [ixS_mk hi]
  simp only [WKt, mem, drewV]
  have H' : Hp w0 w (⟨bu, 4, M.up.map Value.bool ++ rest⟩ :: (⟨b, 125, rlc M (.slice (some ⟨bu, 0, none⟩) M.up.length cap) sus sp sa⟩ :: (cus ++ (cp ++ (ca ++ (D ++ F)))))) := H.to (by intro f; simp only [I, U8, U64, ptr, List.set_cons_zero, List.set_cons_succ, List.eraseIdx_cons_zero, List.eraseIdx_cons_succ, List.map_append, List.map_cons, List.map_nil, List.sum_append, List.sum_cons, List.sum_nil]; omega)
  refine st_h H' 0 rfl (by simp; omega) rfl fun w1 H1 => ?_
  rw [set_up hi] at H1
  have eM : setM M (i : Int) f = { M with up := M.up.set i f } := by unfold setM; rw [if_neg (by rw [e0]; decide)]; rfl
  have H1' : Hp w0 w1 (⟨bu, 4, (M.up.set i f).map Value.bool ++ rest⟩ :: (⟨b, 125, rlc { M with up := M.up.set i f } (.slice (some ⟨bu, 0, none⟩) M.up.length cap) sus sp sa⟩ :: (cus ++ (cp ++ (ca ++ (D ++ F)))))) := H1
  refine ⟨⟨b, 125, rlc { M with up := M.up.set i f } (.slice (some ⟨bu, 0, none⟩) M.up.length cap) sus sp sa⟩ :: ([⟨bu, 4, (M.up.set i f).map Value.bool ++ rest⟩] ++ (cus ++ (cp ++ (ca ++ D)))), by rw [e0], H1'.to (by intro f; simp only [I, U8, U64, ptr, List.set_cons_zero, List.set_cons_succ, List.eraseIdx_cons_zero, List.eraseIdx_cons_succ, List.map_append, List.map_cons, List.map_nil, List.sum_append, List.sum_cons, List.sum_nil]; omega), ?_⟩
  rw [eM]
  exact ⟨_, sus, sp, sa, _, cus, cp, ca, D, sv, ⟨.inr ⟨bu, cap, rest, rfl, by simp, by simp, by simpa using c2, by simpa using c3⟩, hlk.us, hlk.svl, hlk.dat, hlk.part, hlk.acks⟩, rfl⟩
theorem Set_spec {b : Nat} {M : LM} {x : Int} {f : Bool} (H : Hp w0 w (L ++ F)) (hL : Lk w0 b M L) : Calls Pg 24 ⟨[ptr b 0, I x, .bool f]⟩ w (SetPost w0 F Lk b M x f) := by
  have hL0 := hL
  obtain ⟨su, sus, sp, sa, cu, cus, cp, ca, D, sv, hlk, rfl⟩ := hL
  have bad : (x < 0 ∨ (M.up.length : Int) ≤ x) → ∀ {w' : World}, Hp w0 w' ((⟨b, 96, lkc M su sus sp sa⟩ :: (cu ++ (cus ++ (cp ++ (ca ++ D))))) ++ F) → SetPost w0 F Lk b M x f (.returned (.int .i64 3)) w' := by
    intro h w' H'
    have e : setE M x = 3 := by unfold setE; rw [if_pos h]
    exact ⟨_, by rw [e], H', by unfold setM; rw [if_pos (by rw [e]; decide)]; exact hL0⟩
  apply F24_calls
  have enp : eqNilP (ptr b 0) = some (.bool false) := rfl
  unfold F24
  simp only [enp, WKt, mem, drewV]
  unfold F24_j1
  simp only [WKt, mem, drewV]
  by_cases h1 : x < 0
  · simp only [decide_eq_true h1, WKt, mem, drewV]; exact bad (.inl h1) H
  simp only [decide_eq_false h1, WKt, mem, drewV]
  refine ld_h H 0 rfl rfl ?_
  simp only [lenS_sl hlk.up, WKt, mem, drewV]
  refine cnd_decide (fun h2 => bad (.inr h2) H) (fun h2 => ?_)
  refine ld_h H 0 rfl rfl ?_
  obtain ⟨i, rfl⟩ : ∃ i : Nat, x = (i : Int) := ⟨x.toNat, by omega⟩
  have hi : i < M.up.length := by omega
  have e0 : setE M (i : Int) = 0 := by unfold setE; rw [if_neg (by omega)]
  obtain ⟨bu, cap, rest, rfl, rfl, c1, c2, c3⟩ := hlk.up.chunk (by omega)
  rw [ixS_mk hi]
  simp only [WKt, mem, drewV]
  have H' : Hp w0 w (⟨bu, 4, M.up.map Value.bool ++ rest⟩ :: (⟨b, 96, lkc M (.slice (some ⟨bu, 0, none⟩) M.up.length cap) sus sp sa⟩ :: (cus ++ (cp ++ (ca ++ (D ++ F)))))) := H.to (by intro f; simp only [I, U8, U64, ptr, List.set_cons_zero, List.set_cons_succ, List.eraseIdx_cons_zero, List.eraseIdx_cons_succ, List.map_append, List.map_cons, List.map_nil, List.sum_append, List.sum_cons, List.sum_nil]; omega)
  refine st_h H' 0 rfl (by simp; omega) rfl fun w1 H1 => ?_
  rw [set_up hi] at H1
  have eM : setM M (i : Int) f = { M with up := M.up.set i f } := by unfold setM; rw [if_neg (by rw [e0]; decide)]; rfl
  have H1' : Hp w0 w1 (⟨bu, 4, (M.up.set i f).map Value.bool ++ rest⟩ :: (⟨b, 96, lkc { M with up := M.up.set i f } (.slice (some ⟨bu, 0, none⟩) M.up.length cap) sus sp sa⟩ :: (cus ++ (cp ++ (ca ++ (D ++ F)))))) := H1
  refine ⟨⟨b, 96, lkc { M with up := M.up.set i f } (.slice (some ⟨bu, 0, none⟩) M.up.length cap) sus sp sa⟩ :: ([⟨bu, 4, (M.up.set i f).map Value.bool ++ rest⟩] ++ (cus ++ (cp ++ (ca ++ D)))), by rw [e0], H1'.to (by intro f; simp only [I, U8, U64, ptr, List.set_cons_zero, List.set_cons_succ, List.eraseIdx_cons_zero, List.eraseIdx_cons_succ, List.map_append, List.map_cons, List.map_nil, List.sum_append, List.sum_cons, List.sum_nil]; omega), ?_⟩
  rw [eM]
  exact ⟨_, sus, sp, sa, _, cus, cp, ca, D, sv, ⟨.inr ⟨bu, cap, rest, rfl, by simp, by simp, by simpa using c2, by simpa using c3⟩, hlk.us, hlk.svl, hlk.dat, hlk.part, hlk.acks⟩, rfl⟩
theorem inv_set {n : Nat} {M : LM} {x : Int} {f : Bool} (h : LInv n M) : LInv n (setM M x f) := by
  unfold setM
  split
  · exact h
  · exact h.up (by simp)
end
end Go.Proofs.Ytmnpndgmfmjfhaa.Den
end

section
set_option linter.unusedVariables false
set_option linter.unusedSimpArgs false
set_option maxRecDepth 8000
namespace Go.Proofs.Ytmnpndgmfmjfhaa.Den
open Go Go.RowKit
section
variable {w w' : World} {w0 : Base} {F L : List Chunk} {R : ER}
theorem ruse_l {b : Nat} {M : LM} {su sus sp sa : Value} {cu : List Chunk} (hup : Sl 4 1 su M.up.length (M.up.map .bool) cu) (hcu : ∀ c ∈ cu, c ∈ F) (h8 : M.up.length < 2 ^ 20)
    (hq : ∀ w' s' cs', Hp w0 w' (cs' ++ (⟨b, 125, rlc M su sus sp sa⟩ :: F)) → Sl 3 1 s' (useI 0 M.up).length (iv (useI 0 M.up)) cs' → R (.returned s') w') :
    ∀ (d i : Nat) (w : World) (acc : List Int) (s : Value) (cs : List Chunk), i + d = M.up.length → acc ++ useI i (M.up.drop i) = useI 0 M.up → acc.length ≤ i → Hp w0 w (cs ++ (⟨b, 125, rlc M su sus sp sa⟩ :: F)) → Sl 3 1 s acc.length (iv acc) cs →
      F68_l1 R (d + 1) (ptr b 0) s (I (i : Int)) w := by
  intro d
  induction d with
  | zero =>
    intro i w acc s cs hi ha hl H hs
    rw [F68_l1_succ]
    unfold F68_b1 F68_j1
    have H0 : Hp w0 w (⟨b, 125, rlc M su sus sp sa⟩ :: (cs ++ F)) := H.to (by intro f; simp only [I, U8, U64, ptr, List.set_cons_zero, List.set_cons_succ, List.eraseIdx_cons_zero, List.eraseIdx_cons_succ, List.map_append, List.map_cons, List.map_nil, List.sum_append, List.sum_cons, List.sum_nil]; omega)
    simp only [WKt, mem, drewV]
    refine ld_h H0 0 rfl rfl ?_
    simp only [lenS_sl hup, WKt, mem, drewV]
    simp only [show decide ((i : Int) < (M.up.length : Int)) = false from decide_eq_false (by omega), WKt, mem, drewV]
    rw [List.drop_eq_nil_of_le (by omega)] at ha
    simp only [useI, List.append_nil] at ha
    subst ha
    exact hq w s cs H hs
  | succ d ih =>
    intro i w acc s cs hi ha hl H hs
    rw [F68_l1_succ]
    unfold F68_b1
    have hlt : i < M.up.length := by omega
    have H0 : Hp w0 w (⟨b, 125, rlc M su sus sp sa⟩ :: (cs ++ F)) := H.to (by intro f; simp only [I, U8, U64, ptr, List.set_cons_zero, List.set_cons_succ, List.eraseIdx_cons_zero, List.eraseIdx_cons_succ, List.map_append, List.map_cons, List.map_nil, List.sum_append, List.sum_cons, List.sum_nil]; omega)
    have hrd := (hup.rdL (w0 := w0) (L := cs ++ (⟨b, 125, rlc M su sus sp sa⟩ :: F)) (fun c hc => by simp [hcu c hc])).rd H
    simp only [WKt, mem, drewV]
    refine ld_h H0 0 rfl rfl ?_
    simp only [lenS_sl hup, WKt, mem, drewV]
    simp only [show decide ((i : Int) < (M.up.length : Int)) = true from decide_eq_true (by omega), WKt, mem, drewV]
    unfold F68_j4 F68_j5
    simp only [WKt, mem, drewV]
    refine ld_h H0 0 rfl rfl ?_
    refine ix1_rd (v := .bool M.up[i]) hrd (by simp [hlt]) ?_
    rw [List.drop_eq_getElem_cons hlt] at ha
    cases hb : M.up[i] with
    | true =>
      rw [hb, useI] at ha
      simp only [WKt, mem, drewV]
      refine lit1s_h elT104 H rfl fun w1 nb H1 => ?_
      have H2 : Hp w0 w1 (cs ++ (⟨nb, 3, [I (i : Int)]⟩ :: (⟨b, 125, rlc M su sus sp sa⟩ :: F))) := H1.to (by intro f; simp only [I, U8, U64, ptr, List.set_cons_zero, List.set_cons_succ, List.eraseIdx_cons_zero, List.eraseIdx_cons_succ, List.map_append, List.map_cons, List.map_nil, List.sum_append, List.sum_cons, List.sum_nil]; omega)
      refine append_h elT104 H2 hs (m := 1) (ys := iv [(i : Int)]) (.inr ⟨nb, 0, 1, 3, [I (i : Int)], rfl, by omega, by simp, by simp, rfl⟩) (by simp [iv, scalar]) (by omega) (by omega) fun w3 s3 cs3 H3 hs3 => ?_
      rw [wrap64_id (by omega) (by omega), show (i : Int) + 1 = ((i + 1 : Nat) : Int) from by omega]
      refine ih (i + 1) w3 (acc ++ [(i : Int)]) s3 cs3 (by omega) (by rw [← ha]; simp) (by simp; omega) (H3.to (by intro f; simp only [I, U8, U64, ptr, List.set_cons_zero, List.set_cons_succ, List.eraseIdx_cons_zero, List.eraseIdx_cons_succ, List.map_append, List.map_cons, List.map_nil, List.sum_append, List.sum_cons, List.sum_nil]; omega)) ?_
      have : iv acc ++ iv [(i : Int)] = iv (acc ++ [(i : Int)]) := by simp [iv]
      rw [this] at hs3
      simpa using hs3
    | false =>
      rw [hb, useI] at ha
      simp only [WKt, mem, drewV]
      rw [wrap64_id (by omega) (by omega), show (i : Int) + 1 = ((i + 1 : Nat) : Int) from by omega]
      exact ih (i + 1) w acc s cs (by omega) (by simpa using ha) (by omega) H hs
theorem rusable_spec {b : Nat} {M : LM} {su sus sp sa : Value} {cu : List Chunk} (H : Hp w0 w (⟨b, 125, rlc M su sus sp sa⟩ :: F)) (hup : Sl 4 1 su M.up.length (M.up.map .bool) cu) (hcu : ∀ c ∈ cu, c ∈ F) (h8 : M.up.length < 2 ^ 20) :
    Calls Pg 68 ⟨[ptr b 0]⟩ w fun e w' => ∃ s' cs', e = .returned s' ∧ Hp w0 w' (cs' ++ (⟨b, 125, rlc M su sus sp sa⟩ :: F)) ∧ Sl 3 1 s' (useI 0 M.up).length (iv (useI 0 M.up)) cs' := by
  apply F68_calls
  unfold F68
  refine lit0_h elT104 H fun w1 s1 H1 hs1 => ?_
  unfold F68_j2 F68_j3
  exact ⟨M.up.length + 1, ruse_l hup hcu h8 (fun w' s' cs' H' hs' => ⟨s', cs', rfl, H', hs'⟩) M.up.length 0 w1 [] s1 [] (by omega) (by simp) (by simp) H1 hs1⟩
end
end Go.Proofs.Ytmnpndgmfmjfhaa.Den
end

section
set_option linter.unusedVariables false
set_option linter.unusedSimpArgs false
set_option maxRecDepth 8000
namespace Go.Proofs.Ytmnpndgmfmjfhaa.Den
open Go Go.RowKit
section
variable {w w' : World} {w0 : Base} {F L : List Chunk} {R : ER}
theorem slM_h {s : Value} {n lo hi : Nat} {xs : List Int} (hs : RdL w0 F 1 s n (bv xs)) (h1 : lo ≤ hi) (hn : hi ≤ n) : ∃ s', slS 1 s (some (I (lo : Int))) (some (I (hi : Int))) = some s' ∧ RdL w0 F 1 s' (hi - lo) (bv ((xs.drop lo).take (hi - lo))) := by
  by_cases h0 : 0 < n
  · obtain ⟨s', h1, h2, _⟩ := slS_rd hs rfl rfl h0 h1 hn
    exact ⟨s', h1, h2⟩
  · have : n = 0 := by omega
    subst this
    have : hi = 0 := by omega
    subst this
    have : lo = 0 := by omega
    subst this
    obtain ⟨a, c, rfl⟩ : ∃ a c, s = .slice a 0 c := by
      rcases hs with (⟨c, rfl, h0, _⟩ | ⟨a, c, rfl, hmc, h⟩) | ⟨b, o, c, el, l, rfl, hmc, hm, hle, he⟩
      · exact ⟨_, _, rfl⟩
      · exact ⟨_, _, rfl⟩
      · exact ⟨_, _, rfl⟩
    refine ⟨if c = 0 then .slice a 0 c else .slice (a.map (·.add 0)) 0 c, ?_, ?_⟩
    · simp only [slS, boundO]
      rw [if_pos (by omega)]
      simp
      split <;> rfl
    · have he : bv ((xs.drop 0).take (0 - 0)) = [] := by simp [bv]
      rw [he]
      cases a with
      | none => split <;> exact .inl (.inl ⟨_, rfl, by simp, rfl⟩)
      | some a => split <;> exact .inl (.inr ⟨_, _, rfl, by omega, by simp; rfl⟩)
theorem bldR {m f : Int} {l : Bool} {s : Value} (h : s.cells = #[s]) : bldO [I 0, .bool false, I 0, I 0, .slice none 0 0] [(0, 1, I 1), (1, 1, .bool l), (2, 1, I m), (3, 1, I f), (4, 1, s)] = some (.agg ⟨frm 1 l m f s⟩) := bldF h
theorem bldR2 {m f : Int} {l : Bool} {s : Value} : bldO [I 0, .bool false, I 0, I 0, .slice none 0 0, I 0] [(0, 5, .agg ⟨frm 1 l m f s⟩), (5, 1, I (-1))] = some (.agg ⟨ucell ⟨l, m, f, [], -1⟩ s⟩) := by
  simp [bldO, buildL, cellsI, frm, ucell, Value.cells]
theorem rsend_step {b k sz : Nat} {M : LM} {su sus sp sa s : Value} {cu cus cp ca D : List Chunk} {sv : List Value} {d : List Int} {k1 : V4}
    (hlk : LkP 141 144 w0 M su sus sp sa cu cus cp ca D sv) (hs : RdL w0 F 1 s d.length (bv d)) (hd : d.length ≤ 4096) (hsz : 8 ≤ sz ∧ sz ≤ 4096) (hk : k * sz ≤ d.length) (hk2 : k ≤ 4096) (hul : M.us.length < 2 ^ 29)
    (H : Hp w0 w (⟨b, 125, rlc M su sus sp sa⟩ :: (cus ++ (cu ++ (cp ++ (ca ++ (D ++ F)))))))
    (kk : ∀ w' sus' cus' D' sv', Hp w0 w' (⟨b, 125, rlc { M with us := M.us ++ [⟨decide ((d.drop (k * sz)).length ≤ sz), M.sent, (k : Int), (d.drop (k * sz)).take sz, -1⟩] } su sus' sp sa⟩ :: (cus' ++ (cu ++ (cp ++ (ca ++ (D' ++ F)))))) →
      LkP 141 144 w0 { M with us := M.us ++ [⟨decide ((d.drop (k * sz)).length ≤ sz), M.sent, (k : Int), (d.drop (k * sz)).take sz, -1⟩] } su sus' sp sa cu cus' cp ca D' sv' → k1 (ptr b 0) s (I (sz : Int)) (I ((k + 1 : Nat) : Int)) w') :
    F50_j8 R k1 (ptr b 0) s (I (sz : Int)) (I (k : Int)) w := by
  unfold F50_j8
  simp only [lenS_rdL hs, WKt, mem, drewV]
  have hks : (k + 1) * sz = k * sz + sz := by rw [Nat.add_mul, Nat.one_mul]
  have e1 : IntKind.i64.wrap ((k : Int) + 1) = ((k + 1 : Nat) : Int) := by rw [wrap64_id (by omega) (by omega)]; omega
  have e2 : IntKind.i64.wrap (((k + 1 : Nat) : Int) * (sz : Int)) = (((k + 1) * sz : Nat) : Int) := by
    rw [← Int.natCast_mul, wrap64_id (by omega) (by omega)]
  have e3 : IntKind.i64.wrap ((k : Int) * (sz : Int)) = ((k * sz : Nat) : Int) := by
    rw [← Int.natCast_mul, wrap64_id (by omega) (by omega)]
  have em : min2I (.int .i64 (((k + 1) * sz : Nat) : Int)) (.int .i64 (d.length : Int)) = some (.int .i64 ((min ((k + 1) * sz) d.length : Nat) : Int)) := min2I_nat _ _
  simp only [e1, e2, e3, em, WKt, mem, drewV]
  refine ld_h H.drew 0 rfl rfl ?_
  refine ld_h H.drew 0 rfl rfl ?_
  refine lit0_h elT24 H.drew fun w1 s1 H1 hs1 => ?_
  rw [rd1_t (H1.cell 0 (o := 6) rfl rfl), rd1_t (H1.cell 0 (o := 5) rfl rfl)]
  obtain ⟨s2, es2, hs2⟩ := slM_h (lo := k * sz) (hi := min ((k + 1) * sz) d.length) hs (by omega) (by omega)
  simp only [es2, WKt, mem, drewV]
  have htk : (d.drop (k * sz)).take (min ((k + 1) * sz) d.length - k * sz) = (d.drop (k * sz)).take sz := by
    by_cases h : (k + 1) * sz ≤ d.length
    · rw [Nat.min_eq_left h, hks]; congr 1; omega
    · rw [Nat.min_eq_right (by omega), List.take_of_length_le (by simp), List.take_of_length_le (by simp; omega)]
  rw [htk] at hs2
  have htl : ((d.drop (k * sz)).take sz).length = min ((k + 1) * sz) d.length - k * sz := by simp; omega
  refine append_h (cs := []) (n := 0) (xs := []) elT24 H1 hs1 (hs2.mono fun c hc => by simp [hc]) bv_scalar (by omega) (by omega) fun w2 s3 cs3 H2 hs3 => ?_
  have H2' : Hp w0 w2 (⟨b, 125, rlc M su sus sp sa⟩ :: (cs3 ++ (cus ++ (cu ++ (cp ++ (ca ++ (D ++ F))))))) := H2.to (by intro f; simp only [I, U8, U64, ptr, List.set_cons_zero, List.set_cons_succ, List.eraseIdx_cons_zero, List.eraseIdx_cons_succ, List.map_append, List.map_cons, List.map_nil, List.sum_append, List.sum_cons, List.sum_nil]; omega)
  rw [rd1_t (H2'.cell 0 (o := 6) rfl rfl), rd1_t (H2'.cell 0 (o := 5) rfl rfl)]
  have eb : decide (((min ((k + 1) * sz) d.length : Nat) : Int) = (d.length : Int)) = decide ((d.drop (k * sz)).length ≤ sz) := by
    apply decide_eq_decide.2
    rw [List.length_drop]; omega
  have hb1 : bldO [.int .i64 0, .bool false, .int .i64 0, .int .i64 0, .slice none 0 0] [(0, 1, .int .i64 1), (1, 1, .bool (decide ((d.drop (k * sz)).length ≤ sz))), (2, 1, I M.sent), (3, 1, I (k : Int)), (4, 1, s3)] = some (.agg ⟨frm 1 (decide ((d.drop (k * sz)).length ≤ sz)) M.sent (k : Int) s3⟩) := bldR (sl_cells hs3)
  have hb2 : bldO [.int .i64 0, .bool false, .int .i64 0, .int .i64 0, .slice none 0 0, .int .i64 0] [(0, 5, .agg ⟨frm 1 (decide ((d.drop (k * sz)).length ≤ sz)) M.sent (k : Int) s3⟩), (5, 1, .int .i64 (-1))] = some (.agg ⟨ucell ⟨decide ((d.drop (k * sz)).length ≤ sz), M.sent, (k : Int), [], -1⟩ s3⟩) := bldR2
  simp only [eb, hb1, hb2, WKt, mem, drewV]
  refine lit1_h (v := .agg ⟨ucell ⟨decide ((d.drop (k * sz)).length ≤ sz), M.sent, (k : Int), [], -1⟩ s3⟩) elT122 H2' rfl (by omega) fun w3 nb H3 => ?_
  generalize hu : (⟨decide ((d.drop (k * sz)).length ≤ sz), M.sent, (k : Int), (d.drop (k * sz)).take sz, -1⟩ : UM) = u at kk
  have hud : u.d = (d.drop (k * sz)).take sz := by rw [← hu]
  have H3' : Hp w0 w3 (⟨nb, 141, ucell u s3⟩ :: ⟨b, 125, rlc M su sus sp sa⟩ :: (cs3 ++ (cus ++ (cu ++ (cp ++ (ca ++ (D ++ F))))))) := by rw [← hu]; exact H3
  rw [rd1_t (H3'.cell 1 (o := 5) rfl rfl)]
  have H3'' : Hp w0 w3 (cus ++ (⟨nb, 141, ucell u s3⟩ :: ⟨b, 125, rlc M su sus sp sa⟩ :: (cs3 ++ (cu ++ (cp ++ (ca ++ (D ++ F))))))) := H3'.to (by intro f; simp only [I, U8, U64, ptr, List.set_cons_zero, List.set_cons_succ, List.eraseIdx_cons_zero, List.eraseIdx_cons_succ, List.map_append, List.map_cons, List.map_nil, List.sum_append, List.sum_cons, List.sum_nil]; omega)
  have hsc3 : scalar s3 = true := sl_sc hs3
  refine append_h (m := 1) (ys := ucell u s3) elT122 H3'' hlk.us (.inr ⟨nb, 0, 1, 141, ucell u s3, rfl, by omega, by simp, by simp [ucell], rfl⟩) (by intro c hc; simp [ucell] at hc; rcases hc with rfl | rfl | rfl | rfl | rfl | rfl <;> first | rfl | exact hsc3) (by omega) (by omega) fun w4 s4 cus4 H4 hs4 => ?_
  try simp only [WKt, mem, drewV]
  have H4' : Hp w0 w4 (⟨b, 125, rlc M su sus sp sa⟩ :: (cus4 ++ (cu ++ (cp ++ (ca ++ ((cs3 ++ D) ++ F)))))) := H4.to (by intro f; simp only [I, U8, U64, ptr, List.set_cons_zero, List.set_cons_succ, List.eraseIdx_cons_zero, List.eraseIdx_cons_succ, List.map_append, List.map_cons, List.map_nil, List.sum_append, List.sum_cons, List.sum_nil]; omega)
  refine st_h H4' 0 rfl (by simp [rlc]) (sl_sc hs4) fun w5 H5 => ?_
  try simp only [WKt, mem, drewV]
  have H5' : Hp w0 w5 (⟨b, 125, rlc { M with us := M.us ++ [u] } su s4 sp sa⟩ :: (cus4 ++ (cu ++ (cp ++ (ca ++ ((cs3 ++ D) ++ F)))))) := H5
  refine kk w5 s4 cus4 (cs3 ++ D) (sv ++ [s3]) H5' ⟨hlk.up, ?_, by simp [hlk.svl], ?_, hlk.part, hlk.acks⟩
  · simp only [List.length_append, List.length_singleton]
    rw [ucells_append hlk.svl]
    have : ucells [u] [s3] = ucell u s3 := by simp [ucells]
    rw [this]; exact hs4
  · intro i u' t hi ht
    simp only at hi
    by_cases hlt : i < M.us.length
    · rw [List.getElem?_append_left hlt] at hi
      rw [List.getElem?_append_left (by rw [hlk.svl]; exact hlt)] at ht
      obtain ⟨g1, g2⟩ := hlk.dat i u' t hi ht
      exact ⟨g1.mono fun c hc => by simp [hc], g2⟩
    · rw [List.getElem?_append_right (by omega)] at hi
      rw [List.getElem?_append_right (by rw [hlk.svl]; omega), hlk.svl] at ht
      have h0 : i - M.us.length = 0 := by have := (List.getElem?_eq_some_iff.1 hi).1; simp at this; omega
      rw [h0] at hi ht
      simp at hi ht
      subst hi; subst ht
      refine ⟨?_, sl_cells hs3, hsc3⟩
      rw [hud, htl]
      have hs3' := hs3
      rw [Nat.zero_add, List.nil_append] at hs3'
      exact hs3'.rdL fun c hc => by simp [hc]
theorem rsend_l {b sz : Nat} {M0 : LM} {su sp sa s : Value} {cu cp ca : List Chunk} {d : List Int} (hs : RdL w0 F 1 s d.length (bv d)) (hd : d.length ≤ 4096) (hsz : 8 ≤ sz ∧ sz ≤ 4096) (hul : M0.us.length < 2 ^ 28) :
    ∀ (n k : Nat) (w : World) (us : List UM) (sus : Value) (cus D : List Chunk) (sv : List Value), (k = 0 ∨ k * sz < d.length) → k * sz ≤ d.length → d.length - k * sz ≤ n → us.length ≤ M0.us.length + k → LkP 141 144 w0 { M0 with us := us } su sus sp sa cu cus cp ca D sv →
      Hp w0 w (⟨b, 125, rlc { M0 with us := us } su sus sp sa⟩ :: (cus ++ (cu ++ (cp ++ (ca ++ (D ++ F)))))) →
      (∀ w' sus' cus' D' sv', Hp w0 w' (⟨b, 125, rlc { M0 with us := us ++ addL M0.sent k (pcs (n + 1) sz (d.drop (k * sz))) } su sus' sp sa⟩ :: (cus' ++ (cu ++ (cp ++ (ca ++ (D' ++ F)))))) →
        LkP 141 144 w0 { M0 with us := us ++ addL M0.sent k (pcs (n + 1) sz (d.drop (k * sz))) } su sus' sp sa cu cus' cp ca D' sv' → R (.returned (.tuple ⟨[I M0.sent, I 0]⟩)) w') →
      F50_l1 R (n + 2) (ptr b 0) s (I (sz : Int)) (I (k : Int)) w := by
  intro n
  induction n with
  | zero =>
    intro k w us sus cus D sv hc hk hn hl hlk H kk
    rw [F50_l1_succ]
    unfold F50_b1
    have hk4 : k ≤ 4096 := by
      have : k * 8 ≤ k * sz := Nat.mul_le_mul_left k hsz.1
      omega
    have hks : (k + 1) * sz = k * sz + sz := by rw [Nat.add_mul, Nat.one_mul]
    have e3 : IntKind.i64.wrap ((k : Int) * (sz : Int)) = ((k * sz : Nat) : Int) := by
      rw [← Int.natCast_mul, wrap64_id (by omega) (by omega)]
    have e4 : IntKind.i64.wrap (((k + 1 : Nat) : Int) * (sz : Int)) = (((k + 1) * sz : Nat) : Int) := by
      rw [← Int.natCast_mul, wrap64_id (by omega) (by omega)]
    have enter : ∀ {k1 : V4}, F50_j8 R k1 (ptr b 0) s (I (sz : Int)) (I (k : Int)) w → (pv (bin .eql (I (k : Int)) (.int .i64 0)) fun v33 =>
        gd v33 false (pv (some (I (k : Int)))) fun v34 =>
        gd v33 false (pv (some (I (sz : Int)))) fun v35 =>
        gd v33 false (pv (bin .mul v34 v35)) fun v36 =>
        gd v33 false (pv (some s)) fun v37 =>
        gd v33 false (pv (lenS v37)) fun v38 =>
        gd v33 false (pv (bin .lss v36 v38)) fun v39 =>
        pv (pickO v33 (.bool true) v39) fun v40 =>
        cnd v40 (F50_j8 R k1 (ptr b 0) s (I (sz : Int)) (I (k : Int))) (F50_j5 R (ptr b 0))) w := by
      intro k1 hj
      by_cases h0 : (k : Int) = 0
      · simp only [decide_eq_true h0, WKt, mem, drewV]; exact hj
      · simp only [decide_eq_false h0, lenS_rdL hs, e3, WKt, mem, drewV]
        simp only [decide_eq_true (show ((k * sz : Nat) : Int) < (d.length : Int) from by omega), WKt, mem, drewV]
        exact hj
    refine enter ?_
    refine rsend_step (M := { M0 with us := us }) hlk hs hd hsz hk hk4 (by simp only; omega) H fun w1 sus1 cus1 D1 sv1 H1 hlk1 => ?_
    have hr : (d.drop (k * sz)).length ≤ sz := by rw [List.length_drop]; omega
    rw [F50_l1_succ]
    unfold F50_b1
    simp only [decide_eq_false (show ¬ (((k + 1 : Nat) : Int) = 0) from by omega), lenS_rdL hs, e4, WKt, mem, drewV]
    simp only [decide_eq_false (show ¬ ((((k + 1) * sz : Nat) : Int) < (d.length : Int)) from by rw [List.length_drop] at hr; omega), WKt, mem, drewV]
    unfold F50_j5
    simp only [WKt, mem, drewV]
    refine ld_h H1 0 rfl rfl ?_
    have ep : pcs (0 + 1) sz (d.drop (k * sz)) = [d.drop (k * sz)] := by unfold pcs; rw [if_pos hr]
    rw [ep] at kk
    have ea : addL M0.sent k [d.drop (k * sz)] = [⟨decide ((d.drop (k * sz)).length ≤ sz), M0.sent, (k : Int), (d.drop (k * sz)).take sz, -1⟩] := by
      rw [decide_eq_true hr, List.take_of_length_le hr]; rfl
    rw [ea] at kk
    exact kk w1 sus1 cus1 D1 sv1 H1 hlk1
  | succ n ih =>
    intro k w us sus cus D sv hc hk hn hl hlk H kk
    rw [F50_l1_succ]
    unfold F50_b1
    have hk4 : k ≤ 4096 := by
      have : k * 8 ≤ k * sz := Nat.mul_le_mul_left k hsz.1
      omega
    have hks : (k + 1) * sz = k * sz + sz := by rw [Nat.add_mul, Nat.one_mul]
    have e3 : IntKind.i64.wrap ((k : Int) * (sz : Int)) = ((k * sz : Nat) : Int) := by
      rw [← Int.natCast_mul, wrap64_id (by omega) (by omega)]
    have e4 : IntKind.i64.wrap (((k + 1 : Nat) : Int) * (sz : Int)) = (((k + 1) * sz : Nat) : Int) := by
      rw [← Int.natCast_mul, wrap64_id (by omega) (by omega)]
    have enter : ∀ {k1 : V4}, F50_j8 R k1 (ptr b 0) s (I (sz : Int)) (I (k : Int)) w → (pv (bin .eql (I (k : Int)) (.int .i64 0)) fun v33 =>
        gd v33 false (pv (some (I (k : Int)))) fun v34 =>
        gd v33 false (pv (some (I (sz : Int)))) fun v35 =>
        gd v33 false (pv (bin .mul v34 v35)) fun v36 =>
        gd v33 false (pv (some s)) fun v37 =>
        gd v33 false (pv (lenS v37)) fun v38 =>
        gd v33 false (pv (bin .lss v36 v38)) fun v39 =>
        pv (pickO v33 (.bool true) v39) fun v40 =>
        cnd v40 (F50_j8 R k1 (ptr b 0) s (I (sz : Int)) (I (k : Int))) (F50_j5 R (ptr b 0))) w := by
      intro k1 hj
      by_cases h0 : (k : Int) = 0
      · simp only [decide_eq_true h0, WKt, mem, drewV]; exact hj
      · simp only [decide_eq_false h0, lenS_rdL hs, e3, WKt, mem, drewV]
        simp only [decide_eq_true (show ((k * sz : Nat) : Int) < (d.length : Int) from by omega), WKt, mem, drewV]
        exact hj
    refine enter ?_
    refine rsend_step (M := { M0 with us := us }) hlk hs hd hsz hk hk4 (by simp only; omega) H fun w1 sus1 cus1 D1 sv1 H1 hlk1 => ?_
    by_cases hr : (d.drop (k * sz)).length ≤ sz
    · rw [F50_l1_succ]
      unfold F50_b1
      simp only [decide_eq_false (show ¬ (((k + 1 : Nat) : Int) = 0) from by omega), lenS_rdL hs, e4, WKt, mem, drewV]
      simp only [decide_eq_false (show ¬ ((((k + 1) * sz : Nat) : Int) < (d.length : Int)) from by rw [List.length_drop] at hr; omega), WKt, mem, drewV]
      unfold F50_j5
      simp only [WKt, mem, drewV]
      refine ld_h H1 0 rfl rfl ?_
      have ep : pcs (n + 1 + 1) sz (d.drop (k * sz)) = [d.drop (k * sz)] := by unfold pcs; rw [if_pos hr]
      rw [ep] at kk
      have ea : addL M0.sent k [d.drop (k * sz)] = [⟨decide ((d.drop (k * sz)).length ≤ sz), M0.sent, (k : Int), (d.drop (k * sz)).take sz, -1⟩] := by
        rw [decide_eq_true hr, List.take_of_length_le hr]; rfl
      rw [ea] at kk
      exact kk w1 sus1 cus1 D1 sv1 H1 hlk1
    · have hr' := hr
      rw [List.length_drop] at hr'
      have ed : d.drop ((k + 1) * sz) = (d.drop (k * sz)).drop sz := by rw [List.drop_drop, hks]
      have ep : pcs (n + 1 + 1) sz (d.drop (k * sz)) = (d.drop (k * sz)).take sz :: pcs (n + 1) sz (d.drop ((k + 1) * sz)) := by
        rw [ed]; conv => lhs; unfold pcs
        rw [if_neg hr]
      rw [ep] at kk
      have ea : addL M0.sent k ((d.drop (k * sz)).take sz :: pcs (n + 1) sz (d.drop ((k + 1) * sz))) = ⟨decide ((d.drop (k * sz)).length ≤ sz), M0.sent, (k : Int), (d.drop (k * sz)).take sz, -1⟩ :: addL M0.sent (k + 1) (pcs (n + 1) sz (d.drop ((k + 1) * sz))) := by
        rw [decide_eq_false hr]
        cases hp : pcs (n + 1) sz (d.drop ((k + 1) * sz)) with
        | nil => exact absurd hp (pcs_ne _ _ _)
        | cons p ps => rfl
      rw [ea] at kk
      refine ih (k + 1) w1 _ sus1 cus1 D1 sv1 (.inr (by omega)) (by omega) (by omega) (by rw [List.length_append]; simp; omega) hlk1 H1 fun w' sus' cus' D' sv' H' hlk' => ?_
      refine kk w' sus' cus' D' sv' ?_ ?_
      · rw [List.append_assoc] at H'; exact H'
      · rw [List.append_assoc] at hlk'; exact hlk'
theorem rSend_spec {b : Nat} {M : LM} {s : Value} {d : List Int} {now : Int} (H : Hp w0 w (L ++ F)) (hL : rLk w0 b M L) (hs : RdL w0 F 1 s d.length (bv d)) (hd : d.length < 2 ^ 30)
    (hsz : 32 ≤ M.size ∧ M.size ≤ 4096) (hus : M.us.length < 2 ^ 28) (hsent : 0 ≤ M.sent ∧ M.sent < 2 ^ 50 ∧ 0 ≤ M.done ∧ M.done < 2 ^ 50) : Calls Pg 50 ⟨[ptr b 0, s, I now]⟩ w (SendPost w0 F rLk b M d now) := by
  have hL0 := hL
  obtain ⟨su, sus, sp, sa, cu, cus, cp, ca, D, sv, hlk, rfl⟩ := hL
  have H0 : Hp w0 w (⟨b, 125, rlc M su sus sp sa⟩ :: (cus ++ (cu ++ (cp ++ (ca ++ (D ++ F)))))) := H.to (by intro f; simp only [I, U8, U64, ptr, List.set_cons_zero, List.set_cons_succ, List.eraseIdx_cons_zero, List.eraseIdx_cons_succ, List.map_append, List.map_cons, List.map_nil, List.sum_append, List.sum_cons, List.sum_nil]; omega)
  have fail : ∀ {w' : World} (er : Int), er ≠ 0 → sendE M d now = er → Hp w0 w' (⟨b, 125, rlc M su sus sp sa⟩ :: (cus ++ (cu ++ (cp ++ (ca ++ (D ++ F)))))) → SendPost w0 F rLk b M d now (.returned (.tuple ⟨[I 0, I er]⟩)) w' := by
    intro w' er hne he H'
    have hne' : sendE M d now ≠ 0 := by rw [he]; exact hne
    refine ⟨⟨b, 125, rlc M su sus sp sa⟩ :: (cu ++ (cus ++ (cp ++ (ca ++ D)))), by rw [if_neg hne', he], H'.to (by intro f; simp only [I, U8, U64, ptr, List.set_cons_zero, List.set_cons_succ, List.eraseIdx_cons_zero, List.eraseIdx_cons_succ, List.map_append, List.map_cons, List.map_nil, List.sum_append, List.sum_cons, List.sum_nil]; omega), ?_⟩
    unfold sendM; rw [if_neg hne']
    exact hL0
  apply F50_calls
  unfold F50
  simp only [lenS_rdL hs, WKt, mem, drewV]
  refine cnd_decide (fun h1 => ?_) (fun h1 => ?_)
  · exact fail 20 (by decide) (by unfold sendE; rw [if_pos (by omega)]) H0
  unfold F50_j1
  refine cal_h (rtime_spec (now := now) H0) ?_
  rintro e w1 ⟨rfl, rfl⟩
  by_cases h2 : timeE M now ≠ 0
  · simp only [decide_eq_true h2, WKt, mem, drewV]
    exact fail _ h2 (by unfold sendE; rw [if_neg (by omega), if_pos h2]) H0
  simp only [decide_eq_false h2, WKt, mem, drewV]
  unfold F50_j2
  simp only [WKt, mem, drewV]
  refine ld_h H0.drew 0 rfl rfl ?_
  refine ld_h H0.drew 0 rfl rfl ?_
  simp only [WKt, mem, drewV]
  rw [wrap64_id (by omega) (by omega)]
  refine cnd_decide (fun h3 => ?_) (fun h3 => ?_)
  · exact fail 2 (by decide) (by unfold sendE; rw [if_neg (by omega), if_neg h2, if_pos (by omega)]) H0.drew
  unfold F50_j3
  simp only [WKt, mem, drewV]
  refine ld_h H0.drew 0 rfl rfl ?_
  simp only [WKt, mem, drewV]
  refine cnd_decide (fun h4 => ?_) (fun h4 => ?_)
  · exact fail 18 (by decide) (by unfold sendE; rw [if_neg (by omega), if_neg h2, if_neg (by omega), if_pos (by omega)]) H0.drew
  have hE : sendE M d now = 0 := by unfold sendE; rw [if_neg (by omega), if_neg h2, if_neg (by omega), if_neg (by omega)]
  unfold F50_j4
  simp only [WKt, mem, drewV]
  refine st_h H0.drew 0 rfl (by simp [rlc]) rfl fun w2 H2 => ?_
  try simp only [WKt, mem, drewV]
  refine ld_h H2 0 rfl rfl ?_
  simp only [WKt, mem, drewV]
  rw [wrap64_id (by omega) (by omega)]
  refine st_h H2 0 rfl (by simp [rlc]) rfl fun w3 H3 => ?_
  try simp only [WKt, mem, drewV]
  refine ld_h H3 0 rfl rfl ?_
  simp only [WKt, mem, drewV]
  obtain ⟨sz, hszn⟩ : ∃ sz : Nat, M.size - 24 = (sz : Int) := ⟨(M.size - 24).toNat, by omega⟩
  rw [wrap64_id (by omega) (by omega), hszn]
  unfold F50_j6 F50_j7
  have H3' : Hp w0 w3 (⟨b, 125, rlc { ({ M with clock := now, sent := M.sent + 1 } : LM) with us := M.us } su sus sp sa⟩ :: (cus ++ (cu ++ (cp ++ (ca ++ (D ++ F)))))) := H3
  refine ⟨d.length + 2, ?_⟩
  refine rsend_l (M0 := { M with clock := now, sent := M.sent + 1 }) hs (by omega) (by omega) hus d.length 0 w3 M.us sus cus D sv (.inl rfl) (by omega) (by omega) (by simp) ⟨hlk.up, hlk.us, hlk.svl, hlk.dat, hlk.part, hlk.acks⟩ H3' fun w' sus' cus' D' sv' H' hlk' => ?_
  have e : (M.size - 24).toNat = sz := by omega
  rw [Nat.zero_mul, List.drop_zero] at H' hlk'
  refine ⟨⟨b, 125, rlc { ({ M with clock := now, sent := M.sent + 1 } : LM) with us := M.us ++ addL (M.sent + 1) 0 (pcs (d.length + 1) sz d) } su sus' sp sa⟩ :: (cu ++ (cus' ++ (cp ++ (ca ++ D')))), by rw [if_pos hE, hE], H'.to (by intro f; simp only [I, U8, U64, ptr, List.set_cons_zero, List.set_cons_succ, List.eraseIdx_cons_zero, List.eraseIdx_cons_succ, List.map_append, List.map_cons, List.map_nil, List.sum_append, List.sum_cons, List.sum_nil]; omega), ?_⟩
  unfold sendM
  rw [if_pos hE, setLast_app _ _ _ _ (pcs_ne _ _ _), e]
  exact ⟨_, _, _, _, _, _, _, _, _, _, hlk', rfl⟩
end
end Go.Proofs.Ytmnpndgmfmjfhaa.Den
end
