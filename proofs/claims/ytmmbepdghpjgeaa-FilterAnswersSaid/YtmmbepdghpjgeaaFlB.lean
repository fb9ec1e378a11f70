/- Packet filter, the reader of a rule's text: goesOn, number. Conditions: none. -/
import Derived.Test.YtmmbepdghpjgeaaFlA
set_option linter.unusedVariables false
set_option linter.unusedSimpArgs false
set_option maxRecDepth 8000
namespace Go.Proofs.Ytmmbepdghpjgeaa.Den
open Go Go.RowKit
/-- Does a number with these first digits fit? -/
def ExtOK (d : Nat) (low high no : Int) : Prop :=
  if d = 0 then low ≤ 0 ∧ no ≠ 0 else ∃ k m : Nat, m < 10 ^ k ∧ low ≤ ((d * 10 ^ k + m : Nat) : Int) ∧ ((d * 10 ^ k + m : Nat) : Int) ≤ high ∧ ((d * 10 ^ k + m : Nat) : Int) ≠ no
theorem chr_drop {S : ByteArray} {i t : Nat} : chr S (i + t) = ((bts S).drop i).getD t 10 := by
  unfold chr; rw [List.getD_eq_getElem?_getD, List.getD_eq_getElem?_getD, List.getElem?_drop]
theorem valOf_snoc (l : List Nat) (x : Nat) : valOf (l ++ [x]) = 10 * valOf l + (x - 48) := by simp [valOf, List.foldl_append]
theorem valOf_take {l : List Nat} {t x : Nat} (h : l[t]? = some x) : valOf (l.take (t + 1)) = 10 * valOf (l.take t) + (x - 48) := by
  rw [List.take_add_one, h]; exact valOf_snoc _ _
theorem foldl_val (l : List Nat) (hl : ∀ x ∈ l, x - 48 < 10) : ∀ a, ∃ m, m < 10 ^ l.length ∧ l.foldl (fun n d => 10 * n + (d - 48)) a = a * 10 ^ l.length + m := by
  induction l with
  | nil => intro a; exact ⟨0, by simp, by simp⟩
  | cons x l ih =>
    intro a
    obtain ⟨m, hm, e⟩ := ih (fun y hy => hl y (by simp [hy])) (10 * a + (x - 48))
    have hx := hl x (by simp)
    refine ⟨(x - 48) * 10 ^ l.length + m, ?_, ?_⟩
    · rw [List.length_cons, Nat.pow_succ]
      have : (x - 48) * 10 ^ l.length ≤ 9 * 10 ^ l.length := Nat.mul_le_mul_right _ (by omega)
      omega
    · rw [List.foldl_cons, e, List.length_cons, Nat.pow_succ, Nat.add_mul]
      have : 10 * a * 10 ^ l.length = a * (10 ^ l.length * 10) := by rw [Nat.mul_comm 10 a, Nat.mul_assoc, Nat.mul_comm 10]
      omega
theorem valOf_split {l : List Nat} (hl : ∀ x ∈ l, x - 48 < 10) (t : Nat) : ∃ m, m < 10 ^ (l.length - t) ∧ valOf l = valOf (l.take t) * 10 ^ (l.length - t) + m := by
  obtain ⟨m, h1, h2⟩ := foldl_val (l.drop t) (fun x hx => hl x (List.mem_of_mem_drop hx)) (valOf (l.take t))
  refine ⟨m, by simpa using h1, ?_⟩
  have : valOf l = (l.drop t).foldl (fun n d => 10 * n + (d - 48)) (valOf (l.take t)) := by
    unfold valOf; rw [← List.foldl_append, List.take_append_drop]
  rw [this, h2]; simp
theorem takeWhile_get {p : Nat → Bool} : ∀ (l : List Nat) (t : Nat), t < (l.takeWhile p).length → ∃ x, l[t]? = some x ∧ (l.takeWhile p)[t]? = some x ∧ p x = true
  | [], t, h => by simp at h
  | a :: l, t, h => by
    rw [List.takeWhile_cons] at h ⊢
    by_cases ha : p a
    · simp only [ha, if_true] at h ⊢
      cases t with
      | zero => exact ⟨a, rfl, rfl, ha⟩
      | succ t => exact takeWhile_get l t (by simpa using h)
    · simp [ha] at h
theorem takeWhile_end {p : Nat → Bool} : ∀ (l : List Nat) (x : Nat), l[(l.takeWhile p).length]? = some x → p x = false
  | [], x, h => by simp at h
  | a :: l, x, h => by
    rw [List.takeWhile_cons] at h
    by_cases ha : p a
    · simp only [ha, if_true, List.length_cons, List.getElem?_cons_succ] at h
      exact takeWhile_end l x h
    · simp only [ha, Bool.false_eq_true, if_false, List.length_nil, List.getElem?_cons_zero, Option.some.injEq] at h
      subst h; simpa using ha
theorem digitsOf_ne {l : List Nat} (h : l.head? ≠ some 48) : digitsOf l = l.takeWhile isDig := by
  unfold digitsOf; split
  · simp at h
  · rfl
theorem digitsOf_get (l : List Nat) (t : Nat) (h : t < (digitsOf l).length) : ∃ x, l[t]? = some x ∧ (digitsOf l)[t]? = some x ∧ isDig x = true ∧ (t = 0 ∨ 0 < valOf ((digitsOf l).take t)) := by
  by_cases hl : l.head? = some 48
  · cases l with
    | nil => simp at hl
    | cons a l =>
      simp at hl; subst hl
      simp only [digitsOf, List.length_cons, List.length_nil] at h ⊢
      obtain rfl : t = 0 := by omega
      exact ⟨48, rfl, rfl, by decide, .inl rfl⟩
  · rw [digitsOf_ne hl] at h ⊢
    obtain ⟨x, h1, h2, h3⟩ := takeWhile_get l t h
    refine ⟨x, h1, h2, h3, ?_⟩
    cases t with
    | zero => exact .inl rfl
    | succ t =>
      right
      obtain ⟨a, g1, g2, g3⟩ := takeWhile_get (p := isDig) l 0 (Nat.lt_trans (Nat.succ_pos t) h)
      have ha : a ≠ 48 := by
        rintro rfl
        cases l with
        | nil => simp at g1
        | cons c l => simp at g1; subst g1; simp at hl
      have hd : 48 < a := by unfold isDig at g3; simp at g3; omega
      obtain ⟨m, e1, e2⟩ := foldl_val (((l.takeWhile isDig).take (t + 1)).drop 1) (by
        intro x hx
        have hx := List.mem_of_mem_take (List.mem_of_mem_drop hx)
        have hd := List.all_eq_true.1 (List.all_takeWhile (p := isDig) (l := l)) x hx
        unfold isDig at hd; simp at hd; omega) (a - 48)
      have hsp : valOf ((l.takeWhile isDig).take (t + 1)) = (((l.takeWhile isDig).take (t + 1)).drop 1).foldl (fun n d => 10 * n + (d - 48)) (a - 48) := by
        cases htw : l.takeWhile isDig with
        | nil => rw [htw] at g2; simp at g2
        | cons c l' => rw [htw] at g2; simp at g2; subst g2; simp [valOf]
      rw [hsp, e2]
      have : 0 < (a - 48) * 10 ^ (((l.takeWhile isDig).take (t + 1)).drop 1).length := Nat.mul_pos (by omega) (Nat.pow_pos (by omega))
      omega
theorem digitsOf_end (l : List Nat) : isDig (l.getD (digitsOf l).length 10) = false ∨ ((digitsOf l).length ≠ 0 ∧ valOf (digitsOf l) = 0) := by
  by_cases hl : l.head? = some 48
  · right
    cases l with
    | nil => simp at hl
    | cons a l => simp at hl; subst hl; simp [digitsOf, valOf]
  · left
    rw [digitsOf_ne hl, List.getD_eq_getElem?_getD]
    cases hx : l[(l.takeWhile isDig).length]? with
    | none => rfl
    | some x => exact takeWhile_end l x hx
theorem digitsOf_small {l : List Nat} : ∀ x ∈ digitsOf l, x - 48 < 10 := by
  intro x hx
  obtain ⟨t, ht, e⟩ := List.getElem_of_mem hx
  obtain ⟨y, h1, h2, h3, h4⟩ := digitsOf_get l t ht
  rw [List.getElem?_eq_getElem ht, e] at h2
  injection h2 with h2; subst h2
  unfold isDig at h3; simp at h3; omega
theorem valid_prefix {l : List Nat} {low high no : Int} {t : Nat} (ht : t < (digitsOf l).length) (h1 : low ≤ (valOf (digitsOf l) : Int)) (h2 : (valOf (digitsOf l) : Int) ≤ high) (h3 : (valOf (digitsOf l) : Int) ≠ no) :
    ExtOK (valOf ((digitsOf l).take (t + 1))) low high no ∧ valOf ((digitsOf l).take (t + 1)) ≤ valOf (digitsOf l) := by
  obtain ⟨m, e1, e2⟩ := valOf_split (digitsOf_small (l := l)) (t + 1)
  have hp : 0 < 10 ^ ((digitsOf l).length - (t + 1)) := Nat.pow_pos (by omega)
  refine ⟨?_, ?_⟩
  · unfold ExtOK
    split
    · rename_i h0
      have hlen : (digitsOf l).length = t + 1 := by
        rcases Nat.lt_or_ge (t + 1) (digitsOf l).length with h | h
        · obtain ⟨y, g1, g2, g3, g4⟩ := digitsOf_get l (t + 1) h
          rcases g4 with g4 | g4 <;> omega
        · omega
      rw [List.take_of_length_le (by omega)] at h0
      rw [h0] at h1 h3
      exact ⟨h1, fun h => h3 h.symm⟩
    · exact ⟨_, m, e1, by rw [← e2]; exact h1, by rw [← e2]; exact h2, by rw [← e2]; exact h3⟩
  · rw [e2]
    have := Nat.le_mul_of_pos_right (valOf ((digitsOf l).take (t + 1))) hp
    omega
section
variable {w w' w0 : World} {L L' F cs A : List Chunk} {s : Value} {K : VK} {R : ER} {b i at' : Nat} {S : ByteArray}
theorem mul_k {x y z : Int} {K : VK} {w : World} (h1 : -9223372036854775808 ≤ x * y) (h2 : x * y ≤ 9223372036854775807) (hz : x * y = z) (g : K (I z) w) : pv (bin .mul (I x) (I y)) K w := by
  rw [bin_mul, pv_some, wrap64_id h1 h2, hz]; exact g
theorem goes_spec {d : Nat} {low high no : Int} (H : Hp w0 w L) (hl : 0 ≤ low) (hh : 0 ≤ high) (hh2 : high ≤ 65535) (hd : d ≤ 1000000) (hlow : low ≤ 65535) :
    Calls Pg 103 ⟨[I (d : Int), I low, I high, I no]⟩ w fun e w' => ∃ v, e = .returned (.bool v) ∧ Hp w0 w' L ∧ (ExtOK d low high no → v = true) := by
  apply F103_calls
  unfold F103
  refine eql_k (fun h0 => ?_) (fun h0 => ?_)
  · obtain rfl : d = 0 := by omega
    simp only [W0]
    refine leq_k (fun h1 => ?_) (fun h1 => ?_)
    · simp only [W0]
      rw [bin_neq]; simp only [W0]
      exact ⟨_, (by first | rfl | trivial), H, fun hx => by simp [ExtOK] at hx; simp [hx.2]⟩
    · simp only [W0]
      exact ⟨_, (by first | rfl | trivial), H, fun hx => absurd (by simpa [ExtOK] using hx.1) h1⟩
  · simp only [W0]
    unfold F103_j1 F103_j3 F103_j4
    refine loop5 (F103_l1_succ _) (fun m x0 x1 x2 x3 x9 w => ∃ k : Nat, x0 = I (d : Int) ∧ x1 = I low ∧ x2 = I high ∧ x3 = I no ∧ x9 = I ((10 ^ k : Nat) : Int) ∧ m + 10 ^ k = 1000000 ∧
      (∀ k' m' : Nat, m' < 10 ^ k' → low ≤ ((d * 10 ^ k' + m' : Nat) : Int) → ((d * 10 ^ k' + m' : Nat) : Int) ≤ high → ((d * 10 ^ k' + m' : Nat) : Int) ≠ no → k ≤ k') ∧ Hp w0 w L) ?_ (m := 999999) ⟨0, rfl, rfl, rfl, rfl, rfl, by simp, fun _ _ _ _ _ _ => Nat.zero_le _, H⟩
    clear H
    rintro m kk _ _ _ _ _ w ⟨k, rfl, rfl, rfl, rfl, rfl, hm, hk, H⟩ hkk
    unfold F103_b1
    have hp : 0 < 10 ^ k := Nat.pow_pos (by omega)
    have hpd : 10 ^ k ≤ d * 10 ^ k := Nat.le_mul_of_pos_left _ (by omega)
    have hub : d * 10 ^ k ≤ 1000000 * 1000000 := Nat.mul_le_mul hd (by omega)
    have hmc : (d : Int) * ((10 ^ k : Nat) : Int) = ((d * 10 ^ k : Nat) : Int) := by push_cast; rfl
    generalize hP : 10 ^ k = P at *
    generalize hQ : d * P = Q at *
    refine mul_k (by rw [hmc]; omega) (by rw [hmc]; omega) hmc ?_
    refine leq_k (fun h1 => ?_) (fun h1 => ?_)
    · simp only [W0]
      unfold F103_j5
      refine mul_k (by rw [hmc]; omega) (by rw [hmc]; omega) hmc ?_
      refine max_a ?_
      refine mul_k (by rw [hmc]; omega) (by rw [hmc]; omega) hmc ?_
      refine add_k (by omega) (by omega) rfl ?_
      refine sub_k (by omega) (by omega) rfl ?_
      refine min_a ?_
      have key : ∀ m' : Nat, m' < 10 ^ k → low ≤ ((d * 10 ^ k + m' : Nat) : Int) → ((d * 10 ^ k + m' : Nat) : Int) ≤ high → ((d * 10 ^ k + m' : Nat) : Int) ≠ no → max low (Q : Int) < min high ((Q : Int) + P - 1) ∨ (max low (Q : Int) = min high ((Q : Int) + P - 1) ∧ max low (Q : Int) ≠ no) := by
        intro m' g1 g2 g3 g4
        rw [hP] at *; rw [hQ] at *
        omega
      have fin : ¬ (max low (Q : Int) < min high ((Q : Int) + P - 1) ∨ (max low (Q : Int) = min high ((Q : Int) + P - 1) ∧ max low (Q : Int) ≠ no)) → pv (bin .mul (I (P : Int)) (.int .i64 10)) (fun v17 => kk (I (d : Int)) (I low) (I high) (I no) v17) w := by
        intro hn
        refine mul_k (z := ((10 ^ (k + 1) : Nat) : Int)) (by omega) (by omega) (by rw [Nat.pow_succ, hP]; push_cast; rfl) ?_
        refine hkk (1000000 - 10 ^ (k + 1)) _ _ _ _ _ _ (by rw [Nat.pow_succ, hP]; omega) ⟨k + 1, rfl, rfl, rfl, rfl, rfl, by rw [Nat.pow_succ, hP]; omega, ?_, H⟩
        intro k' m' g1 g2 g3 g4
        have := hk k' m' g1 g2 g3 g4
        rcases Nat.lt_or_ge k k' with h | h
        · omega
        · obtain rfl : k = k' := by omega
          exact absurd (key m' g1 g2 g3 g4) hn
      refine lss_k (fun h2 => ?_) (fun h2 => ?_)
      · simp only [W0]
        exact ⟨_, (by first | rfl | trivial), H, fun _ => rfl⟩
      · simp only [W0]
        refine eql_k (fun h3 => ?_) (fun h3 => ?_)
        · simp only [W0]
          refine neq_k (fun h4 => ?_) (fun h4 => ?_)
          · simp only [W0]
            exact ⟨_, (by first | rfl | trivial), H, fun _ => rfl⟩
          · simp only [W0]
            exact fin (by rintro (h | h); exact h2 h; exact h.2 h4)
        · simp only [W0]
          exact fin (by rintro (h | h); exact h2 h; exact h3 h.1)
    · simp only [W0]
      unfold F103_j2
      refine ⟨_, rfl, H, fun hx => ?_⟩
      unfold ExtOK at hx
      rw [if_neg (by omega)] at hx
      obtain ⟨k', m', g1, g2, g3, g4⟩ := hx
      have h5 := hk k' m' g1 g2 g3 g4
      have h6 : P ≤ 10 ^ k' := by rw [← hP]; exact Nat.pow_le_pow_right (by omega) h5
      have h7 : Q ≤ d * 10 ^ k' := by rw [← hQ]; exact Nat.mul_le_mul_left _ h6
      omega
end
end Go.Proofs.Ytmmbepdghpjgeaa.Den
