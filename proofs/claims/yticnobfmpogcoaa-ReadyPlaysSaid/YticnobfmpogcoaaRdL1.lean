/- The walks of Equal and of the chapter's example. Conditions: none. -/
import Derived.Test.YticnobfmpogcoaaRdW9
set_option linter.unusedVariables false
set_option linter.unusedSimpArgs false
set_option maxRecDepth 8000
namespace Go.Proofs.Yticnobfmpogcoaa.Den
open Go Go.RowKit
def ints (l : List Int) : List Value := l.map I
theorem thr_ints (L : List Ent) : thr L = ints (L.map fun e => (e.t : Int)) := by simp [thr, ints]
section
variable {w : World} {R Q : ER}
theorem Src.ext {w w' : World} {sz m : Nat} {s : Value} {ys : List Value} (h : Src w sz s m ys) (he : Ext [] w w') : Src w' sz s m ys := by
  rcases h with h | ⟨b, o, c, el, l, h1, h2, h3⟩
  · exact .inl h
  · exact .inr ⟨b, o, c, el, l, h1, h2.ext he (by simp), h3⟩
/-- An element of a slice that reads as known. -/
theorem src_at {n i : Nat} {s : Value} {xs : List Int} {v : Int} {K : VK} (h : Src w 1 s n (ints xs)) (hi : i < n) (hx : xs[i]? = some v) (k : K (I v) w) :
    (pv (ixS 1 s (I (i : Int))) fun v1 => ld1 v1 K) w := by
  rcases h with ⟨c, rfl, h0, h1⟩ | ⟨b, o, c, el, l, rfl, hb, hle, h1⟩
  · omega
  · simp only [ixS_mk hi, pv_some, Nat.mul_one]
    refine ld1_blk hb ?_ k
    have h2 : (ints xs)[i]? = some (I v) := by simp [ints, hx]
    rw [h1, List.getElem?_take, if_pos (by omega), List.getElem?_drop] at h2
    exact h2
theorem src_len {n : Nat} {s : Value} {ys : List Value} (h : Src w 1 s n ys) : lenS s = some (I (n : Int)) := by
  rcases h with ⟨c, rfl, _⟩ | ⟨b, o, c, el, l, rfl, _⟩ <;> rfl
theorem equal_l {s1 s2 : Value} {n : Nat} {xs ys : List Int} (hx : xs.length = n) (hy : ys.length = n) (hn : n < 2 ^ 60) : ∀ (k i : Nat) (w : World), i + k = n + 1 → i ≤ n → Src w 1 s1 n (ints xs) → Src w 1 s2 n (ints ys) →
    (∀ w', Ext [] w w' → R (.returned (.bool (decide (xs.drop i = ys.drop i)))) w') → orpimentlaw02_Equal_l5 R k s1 s2 (I (i : Int)) w
  | 0, i, w, hk, hi, h1, h2, h => by omega
  | k + 1, i, w, hk, hi, h1, h2, h => by
    rw [orpimentlaw02_Equal_l5_succ]
    unfold orpimentlaw02_Equal_b4
    rw [src_len h1, pv_some, bin_lss, pv_some]
    refine cnd_decide (fun hc => ?_) (fun hc => ?_)
    · have hin : i < n := by omega
      have ex : xs[i]? = some (xs[i]'(by omega)) := List.getElem?_eq_getElem _
      have ey : ys[i]? = some (ys[i]'(by omega)) := List.getElem?_eq_getElem _
      refine src_at (Src.ext h1 (Ext.drew _ _)) hin ex ?_
      refine src_at (Src.ext h2 (Ext.drew _ _)) hin ey ?_
      rw [bin_neq, pv_some]
      have dx : xs.drop i = xs[i]'(by omega) :: xs.drop (i + 1) := List.drop_eq_getElem_cons (by omega)
      have dy : ys.drop i = ys[i]'(by omega) :: ys.drop (i + 1) := List.drop_eq_getElem_cons (by omega)
      refine cnd_decide (fun hne => ?_) (fun hne => ?_)
      · refine ret_eq (h w.drew (Ext.drew _ _)) (congrArg Value.bool (decide_eq_false ?_))
        rw [dx, dy]; intro e; exact hne (List.cons.inj e).1
      · rw [bin_add, pv_some, wrap64_id (by omega) (by omega)]
        have heq : xs[i]'(by omega) = ys[i]'(by omega) := by simpa using hne
        refine equal_l hx hy hn k (i + 1) w.drew (by omega) (by omega) (Src.ext h1 (Ext.drew _ _)) (Src.ext h2 (Ext.drew _ _)) fun w' he => ?_
        refine ret_eq (h w' ((Ext.drew _ _).trans he)) (congrArg Value.bool (decide_eq_decide.2 ?_))
        rw [dx, dy, heq]
        exact ⟨fun e => (List.cons.inj e).2, fun e => by rw [e]⟩
    · have : i = n := by omega
      subst this
      unfold orpimentlaw02_Equal_j1
      refine ret_eq (h w (Ext.refl _ _)) ?_
      rw [List.drop_of_length_le (by omega), List.drop_of_length_le (by omega)]; rfl
theorem Equal_spec {s1 s2 : Value} {n m : Nat} {xs ys : List Int} (h1 : Src w 1 s1 n (ints xs)) (h2 : Src w 1 s2 m (ints ys)) (hn : n < 2 ^ 60) :
    Calls Pg 13 ⟨[s1, s2]⟩ w fun e w' => e = .returned (.bool (decide (xs = ys))) ∧ Ext [] w w' := by
  apply orpimentlaw02_Equal_calls
  unfold orpimentlaw02_Equal
  have l1 : xs.length = n := by have := h1.length; simpa [ints] using this
  have l2 : ys.length = m := by have := h2.length; simpa [ints] using this
  rw [src_len h1, pv_some, src_len h2, pv_some, bin_neq, pv_some]
  refine cnd_decide (fun hc => ?_) (fun hc => ?_)
  · refine ⟨?_, Ext.refl _ _⟩
    have : xs ≠ ys := fun e => hc (by rw [← l1, ← l2, e])
    simp [this]
  · have : n = m := by omega
    subst this
    unfold orpimentlaw02_Equal_j2 orpimentlaw02_Equal_j3
    exact ⟨n + 1, equal_l l1 l2 hn (n + 1) 0 w (by omega) (by omega) h1 h2 fun w' he => ⟨rfl, he⟩⟩
theorem build_ints {l : List Int} {parts : List (Nat × Value)} {K : VK} {n : Nat} (hn : n = l.length) (hpos : n ≠ 0) (hle : n ≤ 1000)
    (hr : buildL ((List.range (n * 1)).map fun x => [I 0][x % 1]!) (parts.map fun p => (p.1 * 1, 1, p.2)) = some (ints l))
    (k : ∀ s w', Src w' 1 s n (ints l) → Ext [] w w' → K s w') : valV Pg R (Instr.buildSlice 30 n ⟨parts⟩) K w := by
  refine build_k elInt (by omega) (by omega) hr fun w' hb he hs => ?_
  refine k _ w' (.inr ⟨_, 0, n, 3, _, rfl, hb, by simp [ints]; omega, ?_⟩) he
  rw [List.drop_zero, Nat.mul_one, hn]; exact (List.take_of_length_le (by simp [ints])).symm
theorem Order_src {b : Nat} {L : List Ent} (h : RQ w b L) : Calls Pg 11 ⟨[ptr b 0]⟩ w fun e w' => ∃ s, e = .returned s ∧ Src w' 1 s L.length (ints (L.map fun e => (e.t : Int))) ∧ Ext [] w w' :=
  (Order_spec h).mono fun e w' ⟨s, ob, h1, h2, h3, _⟩ => ⟨s, h1, by rw [← thr_ints]; exact h2.toSrc, h3⟩
theorem awake_spec : Calls Pg 8 ⟨[]⟩ w fun e w' => e = .returned (.bool true) ∧ Ext [] w w' := by
  apply orpimentlaw02_awake_calls
  unfold orpimentlaw02_awake
  refine cal_of New_spec ?_
  rintro e w1 ⟨b, rfl, hq0, he0, hlt⟩
  simp only [retK, eqNil_some, pv_some, gd_yes']
  have own : ∀ {w1 w2 : World}, Ext [] w w1 → Ext [b] w1 w2 → Ext [] w w2 := fun h h' => h.then h' (fun k hk _ => by cases hk) (fun k hk hl => by simp at hk; omega)
  refine cal_of (Add_spec hq0 1 10 255 false (by simp)) ?_
  rintro e w2 ⟨rfl, hq1, he1⟩
  have a1 : aAdd [] 1 10 255 false = (0, [⟨1, 10, 255⟩]) := rfl
  rw [a1] at hq1 ⊢
  simp only [retK, bin_neq, pv_some, ne_eq, not_true_eq_false, decide_false, pick_false, gd_yes']
  refine cal_of (Add_spec hq1 2 10 255 false (by simp)) ?_
  rintro e w3 ⟨rfl, hq2, he2⟩
  have a2 : aAdd [⟨1, 10, 255⟩] 2 10 255 false = (0, [⟨1, 10, 255⟩, ⟨2, 10, 255⟩]) := rfl
  rw [a2] at hq2 ⊢
  simp only [retK, bin_neq, pv_some, ne_eq, not_true_eq_false, decide_false, pick_false, gd_yes']
  refine cal_of (Add_spec hq2 3 20 2 false (by simp)) ?_
  rintro e w4 ⟨rfl, hq3, he3⟩
  have a3 : aAdd [⟨1, 10, 255⟩, ⟨2, 10, 255⟩] 3 20 2 false = (0, [⟨3, 20, 2⟩, ⟨1, 10, 255⟩, ⟨2, 10, 255⟩]) := rfl
  rw [a3] at hq3 ⊢
  simp only [retK, bin_neq, pv_some, ne_eq, not_true_eq_false, decide_false, pick_false, cnd_false]
  have E4 : Ext [] w w4 := own (own (own he0 he1) he2) he3
  refine cal_of (Best_spec hq3 0) ?_
  rintro e w' ⟨rfl, hw⟩
  obtain rfl := hw.symm
  have a4 : aBest [⟨3, 20, 2⟩, ⟨1, 10, 255⟩, ⟨2, 10, 255⟩] 0 = (1, 0) := rfl
  rw [a4]
  simp only [retK, ext0, ext1, pv_some, bin_eql, decide_true, gd_yes, pick_true]
  refine cal_of (Order_src hq3) ?_
  rintro e w5 ⟨s5, rfl, hs5, he5⟩
  simp only [retK]
  refine build_ints (l := [3, 1, 2]) rfl (by decide) (by decide) rfl fun s6 w6 hs6 he6 => ?_
  refine cal_of (Equal_spec (hs5.ext he6) hs6 (by simp)) ?_
  rintro e w7 ⟨rfl, he7⟩
  simp only [retK, List.map_cons, List.map_nil, show decide ([((3 : Nat) : Int), ((1 : Nat) : Int), ((2 : Nat) : Int)] = [3, 1, 2]) = true from rfl, pv_some, pick_true, gd_yes]
  have E7 : Ext [] w4 w7 := (he5.trans he6).trans he7
  have hbl := hq3.lt
  refine cal_of (Rotate_spec (hq3.ext E7 (by simp)) 10) ?_
  rintro e w8 ⟨rfl, hq8, he8⟩
  have a5 : aRotate [⟨3, 20, 2⟩, ⟨1, 10, 255⟩, ⟨2, 10, 255⟩] 10 = (0, [⟨3, 20, 2⟩, ⟨2, 10, 255⟩, ⟨1, 10, 255⟩]) := rfl
  rw [a5] at hq8 ⊢
  simp only [retK, bin_eql, pv_some, decide_true, pick_true, gd_yes]
  refine cal_of (Order_src hq8) ?_
  rintro e w9 ⟨s9, rfl, hs9, he9⟩
  simp only [retK]
  refine build_ints (l := [3, 2, 1]) rfl (by decide) (by decide) rfl fun s10 w10 hs10 he10 => ?_
  refine cal_of (Equal_spec (hs9.ext he10) hs10 (by simp)) ?_
  rintro e w11 ⟨rfl, he11⟩
  simp only [retK, List.map_cons, List.map_nil, show decide ([((3 : Nat) : Int), ((2 : Nat) : Int), ((1 : Nat) : Int)] = [3, 2, 1]) = true from rfl, pv_some, pick_true]
  exact ⟨by trivial, (((own (E4.trans E7) he8).trans he9).trans he10).trans he11⟩
end
end Go.Proofs.Yticnobfmpogcoaa.Den
