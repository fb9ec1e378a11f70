/- Packet filter: plain facts of Quick and Reversed; Reverse, any. Conditions: none. -/
import Derived.Test.YtmmbepdghpjgeaaFlV
set_option linter.unusedVariables false
set_option linter.unusedSimpArgs false
set_option maxRecDepth 8000
set_option maxHeartbeats 1000000
namespace Go.Proofs.Ytmmbepdghpjgeaa.Den
open Go Go.RowKit
def actF (p : Pkt) : List Rul → Int → Int
  | [], a => a
  | r :: l, a => if !r.fits p then actF p l a else if r.quick then r.act else actF p l r.act
theorem actF_dec (p : Pkt) : ∀ (l pre : List Rul) (last : Int), (if decFrom p l pre.length last < 0 then 1 else ((pre ++ l).getD (decFrom p l pre.length last).toNat rul0).act) = actF p l (if last < 0 then 1 else ((pre ++ l).getD last.toNat rul0).act)
  | [], pre, last => rfl
  | r :: l, pre, last => by
    have hr : ((pre ++ r :: l).getD ((pre.length : Int)).toNat rul0) = r := by
      rw [Int.toNat_natCast, List.getD_eq_getElem?_getD, List.getElem?_append_right (Nat.le_refl _), Nat.sub_self]; rfl
    have e : pre ++ r :: l = (pre ++ [r]) ++ l := by simp
    unfold decFrom actF
    have ih1 := actF_dec p l (pre ++ [r]) (pre.length : Int)
    rw [List.length_append, List.length_singleton, ← e, hr] at ih1
    simp only [show ¬ (pre.length : Int) < 0 from by omega, if_false] at ih1
    have ih2 := actF_dec p l (pre ++ [r]) last
    rw [List.length_append, List.length_singleton, ← e] at ih2
    cases hf : r.fits p with
    | false =>
      simp only [Bool.not_false, if_true]
      exact ih2
    | true =>
      simp only [Bool.not_true, Bool.false_eq_true, if_false]
      cases hq : r.quick with
      | true =>
        simp only [if_true, show ¬ (pre.length : Int) < 0 from by omega, if_false, hr]
      | false =>
        simp only [Bool.false_eq_true, if_false]
        exact ih1
theorem act0_eq (l : List Rul) (p : Pkt) : act0 l p = actF p l 1 := actF_dec p l [] (-2)
def q0 (b : Bool) (r : Rul) : Rul := { r with quick := b }
theorem actF_snoc (p : Pkt) : ∀ (l : List Rul) (r : Rul) (x : Int), (∀ r ∈ l, r.quick = false) → actF p (l ++ [r]) x = if r.fits p then r.act else actF p l x
  | [], r, x, _ => by
    simp only [List.nil_append, actF]
    cases r.fits p <;> cases r.quick <;> rfl
  | a :: l, r, x, h => by
    simp only [List.cons_append, actF]
    rw [actF_snoc p l r x (fun r hr => h r (by simp [hr])), actF_snoc p l r a.act (fun r hr => h r (by simp [hr])), h a (by simp)]
    cases a.fits p <;> cases r.fits p <;> rfl
theorem actF_rev (p : Pkt) (x : Int) : ∀ m : List Rul, actF p (m.reverse.map (q0 false)) x = actF p (m.map (q0 true)) x
  | [] => rfl
  | r :: m => by
    rw [List.reverse_cons, List.map_append, List.map_cons, List.map_nil, actF_snoc p _ _ _ (by intro r hr; obtain ⟨a, _, rfl⟩ := List.mem_map.1 hr; rfl), actF_rev p x m]
    show (if r.fits p = true then r.act else _) = (if (!r.fits p) = true then _ else if true = true then r.act else _)
    cases r.fits p <;> rfl
theorem reversed_act (l : List Rul) (p : Pkt) : act0 (l.map (q0 false)) p = act0 (l.map (q0 true)).reverse p := by
  rw [act0_eq, act0_eq]
  have := actF_rev p 1 l.reverse
  rw [List.reverse_reverse, List.map_reverse] at this
  exact this
theorem firstBad_iff : ∀ l : List Rul, firstBad l = 0 ↔ ∀ r ∈ l, r.check = 0
  | [] => by simp [firstBad]
  | r :: l => by
    unfold firstBad
    by_cases h : r.check = 0
    · rw [if_neg (by simp [h]), firstBad_iff l]
      simp [h]
    · rw [if_pos h]
      simp [h]
theorem newErr_one {l : List Rul} : newErr l 1 1 = 0 ↔ l.length ≤ 200 ∧ ∀ r ∈ l, r.check = 0 := by
  have hi : inn 1 1 100 = true := by decide
  unfold newErr checkAll
  by_cases h : 200 < l.length
  · rw [if_pos h, if_pos (by decide)]
    constructor
    · intro h; cases h
    · intro h; omega
  · rw [if_neg h]
    by_cases h2 : firstBad l = 0
    · rw [if_neg (by simp [h2]), if_neg (by rw [hi]; decide)]
      simp only [true_iff]
      exact ⟨by omega, (firstBad_iff l).1 h2⟩
    · rw [if_pos h2]
      constructor
      · intro h3; exact absurd h3 h2
      · intro h3; exact absurd ((firstBad_iff l).2 h3.2) h2
theorem any_ok (a : Int) : (anyRul a).Ok := by unfold Rul.Ok Pat.Ok anyRul; simp only; omega
theorem any_check {a : Int} (h : a = 1 ∨ a = 2) : (anyRul a).check = 0 := by rcases h with rfl | rfl <;> decide
theorem any_fits {p : Pkt} {a : Int} (hp : p.Ok) (hc : p.check = 0) : (anyRul a).fits p = true := by
  unfold Pkt.check at hc
  split at hc
  · cases hc
  rename_i h1
  split at hc
  · cases hc
  rename_i h2
  simp only [Bool.not_eq_true', Bool.not_eq_false, Bool.or_eq_true, not_or] at h1 h2
  obtain ⟨⟨⟨h2, h3⟩, h4⟩, h5⟩ := h2
  obtain ⟨⟨p1, p2⟩, p3, p4⟩ := hp
  have hz : ∀ x : Int, 0 ≤ x → x < 4294967296 → (⟨0, 0, false⟩ : Pat).has x = true := by
    intro x hx1 hx2
    unfold Pat.has
    have e : (2 ^ (min (32 - (0 : Int)).toNat 64) : Int) = 4294967296 := by decide
    simp only [e]
    have : x.fdiv 4294967296 = 0 := by
      rw [Int.fdiv_eq_ediv_of_nonneg _ (by decide)]; exact Int.ediv_eq_zero_of_lt hx1 hx2
    rw [this]; decide
  have hd : dirMeet 3 p.dir = true := by
    unfold inn at h1
    simp only [Bool.and_eq_true, decide_eq_true_eq] at h1
    have : p.dir = 1 ∨ p.dir = 2 := by omega
    rcases this with h | h <;> rw [h] <;> decide
  unfold Rul.fits anyRul Rng.has
  simp only [hd, hz _ p1 p2, hz _ p3 p4, h4, h5]
  simp
section
variable {w w' w0 : World} {L L' F cs A X Y cc cr : List Chunk} {s sr sc : Value} {K : VK} {R : ER} {b i j fb mb n : Nat}
theorem any39_spec {a : Int} (H : Hp w0 w L) : Calls Pg 17 ⟨[I a]⟩ w fun e w' => e = .returned (.agg ⟨(anyRul a).enc⟩) ∧ Hp w0 w' L := by
  apply F17_calls
  unfold F17
  refine al_m (ys := rul0.enc) H (by kernel_rfl) fun w b H => ?_
  refine bld_a ?_
  refine bld_a ?_
  refine bld_a ?_
  refine stA_m (vs := (anyRul a).enc) H updd rfl rfl (Rul.enc_sc _) fun w H => ?_
  refine ldA_m (l := (anyRul a).enc) H has rfl ?_
  exact ⟨rfl, H.tail⟩
theorem rev_spec {xs : List Rul} (h : TS cRul 29 s xs cs) (H : Hp w0 w (cs ++ F)) (hl : xs.length < 2 ^ 60) :
    Calls Pg 21 ⟨[s]⟩ w fun e w' => ∃ cs', e = .returned (.tuple ⟨[]⟩) ∧ Hp w0 w' (cs' ++ F) ∧ TS cRul 29 s xs.reverse cs' := by
  apply F21_calls
  unfold F21
  refine pv_of (lenS_ts h) ?_
  refine sub_k (by omega) (by omega) rfl ?_
  unfold F21_j1
  refine loop3 (F21_l1_succ _) (fun m x0 x2 x3 w => ∃ (i : Nat) (ys : List Rul) (cs : List Chunk), s = x0 ∧ x2 = I (i : Int) ∧ x3 = I ((xs.length : Int) - 1 - i) ∧ m + i = xs.length + 1 ∧ i ≤ xs.length ∧ ys.length = xs.length ∧ 2 * i ≤ xs.length + 1 ∧
    (∀ t, t < xs.length → ys[t]? = if t < i ∨ xs.length - 1 - t < i then xs[xs.length - 1 - t]? else xs[t]?) ∧ TS cRul 29 s ys cs ∧ Hp w0 w (cs ++ F)) ?_ (m := xs.length + 1) ⟨0, xs, cs, rfl, rfl, by simp, rfl, Nat.zero_le _, rfl, by omega, fun t ht => by rw [if_neg (by omega)], h, H⟩
  clear H h
  rintro m k _ _ _ w ⟨i, ys, cs, rfl, rfl, rfl, hm, hi, hyl, h2i, hys, h, H⟩ hk
  unfold F21_b1
  refine lss_k (fun hlt => ?_) (fun hlt => ?_)
  · (try simp only [W0])
    unfold F21_j2
    refine drew_k H fun w H => ?_
    have ej : ((xs.length : Int) - 1 - i) = ((xs.length - 1 - i : Nat) : Int) := by omega
    rw [ej]
    have hx1 : ys[xs.length - 1 - i]? = some (ys[xs.length - 1 - i]'(by omega)) := List.getElem?_eq_getElem _
    have hx2 : ys[i]? = some (ys[i]'(by omega)) := List.getElem?_eq_getElem _
    generalize ys[xs.length - 1 - i]'(by omega) = a at hx1
    generalize ys[i]'(by omega) = c at hx2
    refine ixN_t (C := cRul) h.tr H (fun c hc => List.mem_append_left _ hc) hx1 (by decide) ?_
    refine ixN_t (C := cRul) h.tr H (fun c hc => List.mem_append_left _ hc) hx2 (by decide) ?_
    (try simp only [W0])
    refine istN_t (C := cRul) (x := a) h H Split.here (by omega) fun w cs H h => ?_
    (try simp only [W0])
    refine istN_t (C := cRul) (x := c) h H Split.here (by rw [List.length_set]; omega) fun w cs H h => ?_
    refine add_k (z := ((i + 1 : Nat) : Int)) (by omega) (by omega) (by omega) ?_
    refine sub_k (z := (xs.length : Int) - 1 - ((i + 1 : Nat) : Int)) (by omega) (by omega) (by omega) ?_
    refine hk (m - 1) _ _ _ _ (by omega) ⟨i + 1, _, cs, rfl, rfl, rfl, by omega, by omega, by rw [List.length_set, List.length_set]; exact hyl, by omega, ?_, h, H⟩
    intro t ht
    rw [List.getElem?_set, List.getElem?_set]
    have hA := hys i (by omega)
    have hB := hys (xs.length - 1 - i) (by omega)
    rw [if_neg (by omega)] at hA hB
    rw [hx2] at hA
    rw [hx1] at hB
    by_cases h1 : xs.length - 1 - i = t
    · subst h1
      rw [if_pos rfl, if_pos (by rw [List.length_set]; omega), if_pos (by omega), hA]
      congr 1; omega
    · rw [if_neg h1]
      by_cases h2 : i = t
      · subst h2
        rw [if_pos rfl, if_pos (by omega), if_pos (by omega), hB]
      · rw [if_neg h2, hys t ht]
        by_cases h3 : t < i ∨ xs.length - 1 - t < i
        · rw [if_pos h3, if_pos (by omega)]
        · rw [if_neg h3, if_neg (by omega)]
  · (try simp only [W0])
    refine ⟨cs, (by first | rfl | trivial), H, ?_⟩
    have : ys = xs.reverse := by
      apply List.ext_getElem?
      intro t
      by_cases ht : t < xs.length
      · rw [hys t ht, List.getElem?_reverse ht]
        split
        · rfl
        · congr 1; omega
      · rw [List.getElem?_eq_none (by omega), List.getElem?_eq_none (by rw [List.length_reverse]; omega)]
    rw [← this]; exact h
end
end Go.Proofs.Ytmmbepdghpjgeaa.Den
