/- Message queue: the heap in plain Lean: what push and pop keep. Conditions: none. -/
import Derived.Test.YthcekppbbanfeaaGreatMqE
set_option linter.unusedVariables false
set_option linter.unusedSimpArgs false
set_option maxRecDepth 8000
namespace Go.Proofs.YthcekppbbanfeaaGreat.Den
open Go Go.RowKit
theorem lessK_asymm {a b : Kp} (h : lessK a b = true) : lessK b a = false := by
  unfold lessK at *; simp only [decide_eq_true_eq, decide_eq_false_iff_not] at *; omega
theorem lessK_ntrans {a b c : Kp} (h1 : lessK a b = false) (h2 : lessK b c = false) : lessK a c = false := by
  unfold lessK at *; simp only [decide_eq_false_iff_not] at *; omega
theorem lessK_irrefl (a : Kp) : lessK a a = false := by
  unfold lessK; simp only [decide_eq_false_iff_not]; omega
theorem lessAt_asymm {l : List Kp} {a b : Nat} (h : lessAt l a b = true) : lessAt l b a = false := by
  unfold lessAt at *
  cases ha : l[a]? <;> cases hb : l[b]? <;> rw [ha, hb] at h <;> simp only at h ⊢ <;> first | exact lessK_asymm h | cases h
theorem lessAt_ntrans {l : List Kp} {a b c : Nat} (hb : b < l.length) (h1 : lessAt l a b = false) (h2 : lessAt l b c = false) : lessAt l a c = false := by
  unfold lessAt at *
  have e : l[b]? = some l[b] := List.getElem?_eq_getElem hb
  rw [e] at h1 h2
  cases ha : l[a]? <;> cases hc : l[c]? <;> rw [ha] at h1 <;> rw [hc] at h2 <;> simp only at h1 h2 ⊢
  exact lessK_ntrans h1 h2
/-- The exchange of two places. -/
def sw (i j k : Nat) : Nat := if k = j then i else if k = i then j else k
theorem swapK_get {l : List Kp} {i j : Nat} (hi : i < l.length) (hj : j < l.length) (k : Nat) : (swapK l i j)[k]? = l[sw i j k]? := by
  unfold swapK sw
  rw [List.getElem?_eq_getElem hi, List.getElem?_eq_getElem hj]
  simp only
  by_cases h1 : k = j
  · subst h1
    rw [if_pos rfl, List.getElem?_set_self (by simpa using hj), List.getElem?_eq_getElem hi]
  · rw [if_neg h1, List.getElem?_set_ne (by omega)]
    by_cases h2 : k = i
    · subst h2
      rw [if_pos rfl, List.getElem?_set_self hi, List.getElem?_eq_getElem hj]
    · rw [if_neg h2, List.getElem?_set_ne (by omega)]
theorem lessAt_swap {l : List Kp} {i j : Nat} (hi : i < l.length) (hj : j < l.length) (a b : Nat) : lessAt (swapK l i j) a b = lessAt l (sw i j a) (sw i j b) := by
  unfold lessAt; rw [swapK_get hi hj, swapK_get hi hj]
theorem swapK_perm {l : List Kp} {i j : Nat} : (swapK l i j).Perm l := by
  by_cases h : i < l.length ∧ j < l.length
  · have e : swapK l i j = (l.set i (l[j]'h.2)).set j (l[i]'h.1) := by unfold swapK; rw [List.getElem?_eq_getElem h.1, List.getElem?_eq_getElem h.2]
    rw [e]
    exact List.set_set_perm h.1 h.2
  · have e : swapK l i j = l := by
      unfold swapK
      split
      · rename_i a b h1 h2
        exact absurd ⟨(List.getElem?_eq_some_iff.1 h1).1, (List.getElem?_eq_some_iff.1 h2).1⟩ h
      · rfl
    rw [e]
theorem upK_perm : ∀ {n : Nat} {l : List Kp} {j : Nat}, (upK n l j).Perm l := by
  intro n
  induction n with
  | zero => intro l j; exact List.Perm.refl _
  | succ n ih =>
    intro l j
    unfold upK
    split
    · exact List.Perm.refl _
    · exact ih.trans swapK_perm
theorem dnK_perm {m : Nat} : ∀ {n : Nat} {l : List Kp} {j : Nat}, (dnK m n l j).Perm l := by
  intro n
  induction n with
  | zero => intro l j; exact List.Perm.refl _
  | succ n ih =>
    intro l j
    unfold dnK
    split
    · exact List.Perm.refl _
    split
    · exact List.Perm.refl _
    · exact ih.trans swapK_perm
/-- A heap in the first m places. -/
def HeapOn (m : Nat) (l : List Kp) : Prop := ∀ k, 0 < k → k < m → lessAt l k ((k - 1) / 2) = false
theorem up_heap : ∀ {n : Nat} {l : List Kp} {j : Nat}, j < n → j < l.length → (∀ k, 0 < k → k < l.length → k ≠ j → lessAt l k ((k - 1) / 2) = false) →
    (∀ k, 0 < k → k < l.length → (k - 1) / 2 = j → 0 < j → lessAt l k ((j - 1) / 2) = false) → HeapOn l.length (upK n l j) := by
  intro n
  induction n with
  | zero => intro l j h; omega
  | succ n ih =>
    intro l j hn hj h1 h2
    unfold upK
    split
    · rename_i hs
      intro k hk hkl
      by_cases e : k = j
      · subst e
        rcases hs with hs | hs
        · omega
        · exact hs
      · exact h1 k hk hkl e
    · rename_i hs
      have hne : ¬ (j - 1) / 2 = j := fun h => hs (.inl h)
      have hlt : lessAt l j ((j - 1) / 2) = true := by
        cases h : lessAt l j ((j - 1) / 2) with
        | true => rfl
        | false => exact absurd (.inr h) hs
      have hj0 : 0 < j := by omega
      have hp : (j - 1) / 2 < j := by omega
      generalize hpe : (j - 1) / 2 = p at *
      have hlen := swapK_len l p j
      have key := ih (l := swapK l p j) (j := p) (by omega) (by rw [hlen]; omega) ?_ ?_
      · rw [hlen] at key; exact key
      · intro k hk hkl hkp
        rw [hlen] at hkl
        rw [lessAt_swap (by omega) hj]
        by_cases e : k = j
        · subst e
          have e1 : sw p k k = p := by unfold sw; rw [if_pos rfl]
          have e2 : sw p k ((k - 1) / 2) = k := by rw [hpe]; unfold sw; rw [if_neg (by omega), if_pos rfl]
          rw [e1, e2]; exact lessAt_asymm hlt
        · have e1 : sw p j k = k := by unfold sw; rw [if_neg e, if_neg hkp]
          rw [e1]
          by_cases e3 : (k - 1) / 2 = j
          · have e2 : sw p j ((k - 1) / 2) = p := by unfold sw; rw [if_pos e3]
            rw [e2]; exact h2 k hk hkl e3 hj0
          · by_cases e4 : (k - 1) / 2 = p
            · have e2 : sw p j ((k - 1) / 2) = j := by unfold sw; rw [if_neg e3, if_pos e4]
              rw [e2]
              have := h1 k hk hkl e
              rw [e4] at this
              exact lessAt_ntrans (by omega) this (lessAt_asymm hlt)
            · have e2 : sw p j ((k - 1) / 2) = (k - 1) / 2 := by unfold sw; rw [if_neg e3, if_neg e4]
              rw [e2]; exact h1 k hk hkl e
      · intro k hk hkl hkp hp0
        rw [hlen] at hkl
        rw [lessAt_swap (by omega) hj]
        have e2 : sw p j ((p - 1) / 2) = (p - 1) / 2 := by unfold sw; rw [if_neg (by omega), if_neg (by omega)]
        rw [e2]
        have hpp := h1 p hp0 (by omega) (by omega)
        by_cases e : k = j
        · subst e
          have e1 : sw p k k = p := by unfold sw; rw [if_pos rfl]
          rw [e1]; exact hpp
        · have e1 : sw p j k = k := by unfold sw; rw [if_neg e, if_neg (by omega)]
          rw [e1]
          have := h1 k hk hkl e
          rw [hkp] at this
          exact lessAt_ntrans (by omega) this hpp
theorem kid_spec (m : Nat) (l : List Kp) (i : Nat) (h : ¬ m ≤ 2 * i + 1) : kid m l i < m ∧ (kid m l i = 2 * i + 1 ∨ kid m l i = 2 * i + 2) ∧ ∀ k, k < m → (k = 2 * i + 1 ∨ k = 2 * i + 2) → k ≠ kid m l i → lessAt l k (kid m l i) = false := by
  unfold kid
  by_cases c : (decide (2 * i + 2 < m) && lessAt l (2 * i + 2) (2 * i + 1)) = true
  · rw [if_pos c]
    simp only [Bool.and_eq_true, decide_eq_true_eq] at c
    refine ⟨c.1, .inr rfl, fun k hk h1 h2 => ?_⟩
    rcases h1 with rfl | rfl
    · exact lessAt_asymm c.2
    · exact absurd rfl h2
  · rw [if_neg c]
    refine ⟨by omega, .inl rfl, fun k hk h1 h2 => ?_⟩
    rcases h1 with rfl | rfl
    · exact absurd rfl h2
    · cases h3 : lessAt l (2 * i + 2) (2 * i + 1) with
      | false => rfl
      | true => exact absurd (by simp [hk, h3]) c
theorem dn_heap {m : Nat} : ∀ {f : Nat} {l : List Kp} {i : Nat}, m ≤ i + f → m ≤ l.length → (∀ k, 0 < k → k < m → (k - 1) / 2 ≠ i → lessAt l k ((k - 1) / 2) = false) →
    (∀ k, 0 < k → k < m → (k - 1) / 2 = i → 0 < i → lessAt l k ((i - 1) / 2) = false) → HeapOn m (dnK m f l i) := by
  intro f
  induction f with
  | zero =>
    intro l i hf hm h1 h2 k hk hkm
    exact h1 k hk hkm (by omega)
  | succ f ih =>
    intro l i hf hm h1 h2
    unfold dnK
    split
    · rename_i hs
      intro k hk hkm
      exact h1 k hk hkm (by omega)
    rename_i hs
    obtain ⟨k1, k2, k3⟩ := kid_spec m l i hs
    generalize kid m l i = j at *
    split
    · rename_i hl
      intro k hk hkm
      by_cases e : (k - 1) / 2 = i
      · rw [e]
        by_cases e2 : k = j
        · rw [e2]; exact hl
        · exact lessAt_ntrans (by omega) (k3 k hkm (by omega) e2) hl
      · exact h1 k hk hkm e
    · rename_i hl
      have hlt : lessAt l j i = true := by simpa using hl
      have hlen := swapK_len l i j
      have hij : i < j := by omega
      have hjp : (j - 1) / 2 = i := by omega
      refine ih (l := swapK l i j) (i := j) (by omega) (by rw [hlen]; exact hm) ?_ ?_
      · intro k hk hkm hkj
        rw [lessAt_swap (by omega) (by omega)]
        by_cases e : k = j
        · subst e
          have e1 : sw i k k = i := by unfold sw; rw [if_pos rfl]
          have e2 : sw i k ((k - 1) / 2) = k := by rw [hjp]; unfold sw; rw [if_neg (by omega), if_pos rfl]
          rw [e1, e2]; exact lessAt_asymm hlt
        · by_cases e3 : k = i
          · subst e3
            have e1 : sw k j k = j := by unfold sw; rw [if_neg e, if_pos rfl]
            have e2 : sw k j ((k - 1) / 2) = (k - 1) / 2 := by unfold sw; rw [if_neg (by omega), if_neg (by omega)]
            rw [e1, e2]
            exact h2 j (by omega) k1 hjp hk
          · have e1 : sw i j k = k := by unfold sw; rw [if_neg e, if_neg e3]
            rw [e1]
            by_cases e4 : (k - 1) / 2 = i
            · have e2 : sw i j ((k - 1) / 2) = j := by unfold sw; rw [if_neg (by omega), if_pos e4]
              rw [e2]
              exact k3 k hkm (by omega) e
            · have e2 : sw i j ((k - 1) / 2) = (k - 1) / 2 := by unfold sw; rw [if_neg hkj, if_neg e4]
              rw [e2]; exact h1 k hk hkm e4
      · intro k hk hkm hkj hj0
        rw [lessAt_swap (by omega) (by omega), hjp]
        have e1 : sw i j k = k := by unfold sw; rw [if_neg (by omega), if_neg (by omega)]
        have e2 : sw i j i = j := by unfold sw; rw [if_neg (by omega), if_pos rfl]
        rw [e1, e2]
        have := h1 k hk hkm (by omega)
        rw [hkj] at this
        exact this
theorem dnK_get {m : Nat} : ∀ {f : Nat} {l : List Kp} {i k : Nat}, i < m → m ≤ l.length → m ≤ k → (dnK m f l i)[k]? = l[k]? := by
  intro f
  induction f with
  | zero => intro l i k _ _ _; rfl
  | succ f ih =>
    intro l i k hi hm hk
    unfold dnK
    split
    · rfl
    rename_i hs
    obtain ⟨k1, k2, _⟩ := kid_spec m l i hs
    split
    · rfl
    · rw [ih k1 (by rw [swapK_len]; exact hm) hk, swapK_get (by omega) (by omega)]
      congr 1
      unfold sw; rw [if_neg (by omega), if_neg (by omega)]
theorem heap_root {l : List Kp} (h : HeapOn l.length l) : ∀ k, k < l.length → lessAt l k 0 = false := by
  intro k
  induction k using Nat.strongRecOn with
  | _ k ih =>
    intro hk
    by_cases h0 : k = 0
    · subst h0
      unfold lessAt
      rw [List.getElem?_eq_getElem hk]
      exact lessK_irrefl _
    · exact lessAt_ntrans (b := (k - 1) / 2) (by omega) (h k (by omega) hk) (ih _ (by omega) (by omega))
theorem lessAt_app {l : List Kp} {x : Kp} {a b : Nat} (ha : a < l.length) (hb : b < l.length) : lessAt (l ++ [x]) a b = lessAt l a b := by
  unfold lessAt; rw [List.getElem?_append_left ha, List.getElem?_append_left hb]
theorem push_heap {l : List Kp} {x : Kp} (h : HeapOn l.length l) : HeapOn (pushK l x).length (pushK l x) ∧ (pushK l x).Perm (x :: l) := by
  refine ⟨?_, ?_⟩
  · rw [pushK_len]
    have := up_heap (n := l.length + 1) (l := l ++ [x]) (j := l.length) (by omega) (by simp) ?_ ?_
    · rw [List.length_append] at this; exact this
    · intro k hk hkl hne
      rw [List.length_append] at hkl
      have hkl : k < l.length + 1 := hkl
      rw [lessAt_app (by omega) (by omega)]
      exact h k hk (by omega)
    · intro k hk hkl hp
      rw [List.length_append] at hkl
      have hkl : k < l.length + 1 := hkl
      omega
  · unfold pushK
    refine upK_perm.trans ?_
    exact List.perm_append_comm
/-- What pop leaves: the first message of the order is taken, the others are a heap. -/
theorem pop_heap {l : List Kp} (h : HeapOn l.length l) (hl : 0 < l.length) : ∃ r, (popK l)[l.length - 1]? = some r ∧ (∀ x ∈ l, lessK x r = false) ∧ HeapOn ((popK l).take (l.length - 1)).length ((popK l).take (l.length - 1)) ∧ (r :: (popK l).take (l.length - 1)).Perm l := by
  have hlen := popK_len l
  have hr : (popK l)[l.length - 1]? = l[0]? := by
    unfold popK
    by_cases h1 : l.length = 1
    · have e : dnK (l.length - 1) l.length (swapK l 0 (l.length - 1)) 0 = swapK l 0 (l.length - 1) := by
        rw [h1]; unfold dnK; rw [if_pos (by omega)]
      rw [e, swapK_get hl (by omega)]
      congr 1; unfold sw; rw [if_pos rfl]
    · rw [dnK_get (by omega) (by rw [swapK_len]; omega) (Nat.le_refl _), swapK_get hl (by omega)]
      congr 1; unfold sw; rw [if_pos rfl]
  have h0 : l[0]? = some l[0] := List.getElem?_eq_getElem hl
  refine ⟨l[0], by rw [hr, h0], ?_, ?_, ?_⟩
  · intro x hx
    obtain ⟨i, hi, e⟩ := List.getElem_of_mem hx
    have := heap_root h i hi
    unfold lessAt at this
    rw [h0, List.getElem?_eq_getElem hi, e] at this
    exact this
  · have hd : HeapOn (l.length - 1) (popK l) := by
      unfold popK
      refine dn_heap (by omega) (by rw [swapK_len]; omega) ?_ (by intro k _ _ _ h0; omega)
      intro k hk hkm hp
      rw [lessAt_swap hl (by omega)]
      have e1 : sw 0 (l.length - 1) k = k := by unfold sw; rw [if_neg (by omega), if_neg (by omega)]
      have e2 : sw 0 (l.length - 1) ((k - 1) / 2) = (k - 1) / 2 := by unfold sw; rw [if_neg (by omega), if_neg (by omega)]
      rw [e1, e2]
      exact h k hk (by omega)
    intro k hk hkm
    rw [List.length_take] at hkm
    have := hd k hk (by omega)
    unfold lessAt at *
    rw [List.getElem?_take_of_lt (by omega), List.getElem?_take_of_lt (by omega)]
    exact this
  · have hp : (popK l).Perm l := by unfold popK; exact dnK_perm.trans swapK_perm
    refine List.Perm.trans ?_ hp
    have e : popK l = (popK l).take (l.length - 1) ++ [l[0]] := by
      conv => lhs; rw [← List.take_append_drop (l.length - 1) (popK l)]
      congr 1
      have hd : (popK l).drop (l.length - 1) = [(popK l)[l.length - 1]'(by omega)] := by
        rw [List.drop_eq_getElem_cons (by omega), List.drop_eq_nil_of_le (by omega)]
      rw [hd]
      have := hr
      rw [h0, List.getElem?_eq_getElem (by omega)] at this
      simpa using this
    conv => rhs; rw [e]
    exact List.perm_append_comm (l₁ := [l[0]])
/-- Two orderings of the same messages. -/
theorem sorted_unique : ∀ {S T : List Kp}, S.Perm T → S.Pairwise (fun a b => lessK a b = true) → T.Pairwise (fun a b => lessK b a = false) → S = T := by
  intro S
  induction S with
  | nil => intro T h _ _; exact (List.nil_perm.1 h).symm
  | cons a S ih =>
    intro T h hS hT
    cases T with
    | nil => exact absurd h.length_eq (by simp)
    | cons b T =>
      obtain ⟨s1, s2⟩ := List.pairwise_cons.1 hS
      obtain ⟨t1, t2⟩ := List.pairwise_cons.1 hT
      have e : a = b := by
        have ha : a ∈ b :: T := h.mem_iff.1 (by simp)
        have hb : b ∈ a :: S := h.mem_iff.2 (by simp)
        rcases List.mem_cons.1 ha with h1 | h1
        · exact h1
        rcases List.mem_cons.1 hb with h2 | h2
        · exact h2.symm
        · have := s1 b h2
          rw [t1 a h1] at this; cases this
      subst e
      rw [ih (List.perm_cons _ |>.1 h) s2 t2]
/-- The messages in order. -/
structure Ord (l S : List Kp) : Prop where
  heap : HeapOn l.length l
  perm : l.Perm S
  srt : S.Pairwise fun a b => lessK a b = true
theorem Ord.nil : Ord [] [] := ⟨fun k _ h => by simp at h, List.Perm.refl _, List.Pairwise.nil⟩
theorem Ord.pop {l : List Kp} {a : Kp} {S : List Kp} (h : Ord l (a :: S)) : (popK l)[l.length - 1]? = some a ∧ Ord ((popK l).take (l.length - 1)) S := by
  have hl : 0 < l.length := by rw [h.perm.length_eq]; simp
  obtain ⟨r, h1, h2, h3, h4⟩ := pop_heap h.heap hl
  obtain ⟨s1, s2⟩ := List.pairwise_cons.1 h.srt
  have e : r = a := by
    have hr : r ∈ a :: S := (h4.trans h.perm).mem_iff.1 (by simp)
    rcases List.mem_cons.1 hr with e | e
    · exact e
    · have := s1 r e
      rw [h2 a (h.perm.mem_iff.2 (by simp))] at this; cases this
  subst e
  exact ⟨h1, h3, (List.perm_cons _).1 (h4.trans h.perm), s2⟩
/-- Where a message goes: behind those of its priority. -/
def insK (x : Kp) : List Kp → List Kp
  | [] => [x]
  | a :: S => if a.m.pri < x.m.pri then x :: a :: S else a :: insK x S
theorem insK_perm (x : Kp) : ∀ S, (insK x S).Perm (x :: S)
  | [] => List.Perm.refl _
  | a :: S => by
    unfold insK
    split
    · exact List.Perm.refl _
    · exact ((insK_perm x S).cons a).trans (List.Perm.swap ..)
theorem insK_srt {x : Kp} : ∀ {S : List Kp}, (∀ a ∈ S, a.num < x.num) → S.Pairwise (fun a b => lessK a b = true) → (insK x S).Pairwise fun a b => lessK a b = true
  | [], _, _ => by simp [insK]
  | a :: S, hn, h => by
    obtain ⟨s1, s2⟩ := List.pairwise_cons.1 h
    unfold insK
    split
    · rename_i hlt
      refine List.pairwise_cons.2 ⟨fun b hb => ?_, h⟩
      rcases List.mem_cons.1 hb with rfl | hb
      · unfold lessK; rw [decide_eq_true_eq]; exact .inl hlt
      · have := s1 b hb
        unfold lessK at *; rw [decide_eq_true_eq] at *; omega
    · rename_i hge
      refine List.pairwise_cons.2 ⟨fun b hb => ?_, insK_srt (fun b hb => hn b (by simp [hb])) s2⟩
      rcases List.mem_cons.1 ((insK_perm x S).mem_iff.1 hb) with rfl | hb
      · have := hn a (by simp)
        unfold lessK; rw [decide_eq_true_eq]; omega
      · exact s1 b hb
theorem Ord.push {l S : List Kp} {x : Kp} (h : Ord l S) (hn : ∀ a ∈ S, a.num < x.num) : Ord (pushK l x) (insK x S) := by
  obtain ⟨h1, h2⟩ := push_heap (x := x) h.heap
  exact ⟨h1, h2.trans ((h.perm.cons x).trans (insK_perm x S).symm), insK_srt hn h.srt⟩
end Go.Proofs.YthcekppbbanfeaaGreat.Den
