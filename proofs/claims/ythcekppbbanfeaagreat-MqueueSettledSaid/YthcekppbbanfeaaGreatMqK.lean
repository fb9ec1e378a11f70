/- A stable sort by a key, in plain Lean: what exchanges of neighbouring blocks keep. Conditions: none. -/
import Derived.Test.YthcekppbbanfeaaGreatMqJ
set_option linter.unusedVariables false
set_option linter.unusedSimpArgs false
set_option maxRecDepth 8000
set_option maxHeartbeats 1000000
namespace Go.Proofs.YthcekppbbanfeaaGreat.Den
open Go Go.RowKit
abbrev Pr := Int × Int
def Pr.enc (p : Pr) : List Value := [I p.1, I p.2]
def cPr : Cod Pr := ⟨2, Pr.enc, fun _ => rfl, by intro a c hc; simp only [Pr.enc, List.mem_cons, List.not_mem_nil, or_false] at hc; rcases hc with rfl | rfl <;> rfl⟩
def clampI (a : Int) : Int := if a < 0 then 0 else if 1000 < a then 1000 else a
theorem clampI_id {a : Int} (h1 : 0 ≤ a) (h2 : a ≤ 1000) : clampI a = a := by unfold clampI; rw [if_neg (by omega), if_neg (by omega)]
/-- Pairs whose first part is small. -/
def cPs : Cod Pr := ⟨2, fun p => [I (clampI p.1), I p.2], fun _ => rfl, by intro a c hc; simp only [List.mem_cons, List.not_mem_nil, or_false] at hc; rcases hc with rfl | rfl <;> rfl⟩
section
variable {key : Pr → Int} {l l' A B C A' B' X Y P S U V : List Pr} {x y : Pr} {t i j : Nat}
def Srt (key : Pr → Int) (l : List Pr) : Prop := l.Pairwise fun x y => key x ≤ key y
/-- The elements of each key stand in the same order. -/
structure Same (key : Pr → Int) (l l' : List Pr) : Prop where
  len : l'.length = l.length
  fil : ∀ k, l'.filter (fun x => decide (key x = k)) = l.filter (fun x => decide (key x = k))
theorem Same.refl : Same key l l := ⟨rfl, fun _ => rfl⟩
theorem Same.trans {m : List Pr} (h : Same key l m) (h' : Same key m l') : Same key l l' := ⟨h'.len.trans h.len, fun k => (h'.fil k).trans (h.fil k)⟩
theorem Same.app (h : Same key A A') (h' : Same key B B') : Same key (A ++ B) (A' ++ B') :=
  ⟨by rw [List.length_append, List.length_append, h.len, h'.len], fun k => by rw [List.filter_append, List.filter_append, h.fil, h'.fil]⟩
theorem Same.mem (h : Same key l l') : x ∈ l' ↔ x ∈ l := by
  have e : ∀ m : List Pr, x ∈ m ↔ x ∈ m.filter (fun z => decide (key z = key x)) := fun m => by simp [List.mem_filter]
  rw [e l', h.fil, ← e]
theorem Same.swap (h : ∀ x ∈ X, ∀ y ∈ Y, key y < key x) : Same key (X ++ Y) (Y ++ X) := by
  refine ⟨by rw [List.length_append, List.length_append, Nat.add_comm], fun k => ?_⟩
  rw [List.filter_append, List.filter_append]
  by_cases hx : ∃ x ∈ X, key x = k
  · obtain ⟨x, hx, e⟩ := hx
    have : Y.filter (fun z => decide (key z = k)) = [] := by
      rw [List.filter_eq_nil_iff]
      intro y hy
      have := h x hx y hy
      simp; omega
    rw [this, List.append_nil, List.nil_append]
  · have : X.filter (fun z => decide (key z = k)) = [] := by
      rw [List.filter_eq_nil_iff]
      intro x hx'
      simp
      exact fun e => hx ⟨x, hx', e⟩
    rw [this, List.append_nil, List.nil_append]
theorem Srt.get (h : Srt key l) {x y : Pr} (hx : l[i]? = some x) (hy : l[j]? = some y) (hij : i ≤ j) : key x ≤ key y := by
  obtain ⟨hi, rfl⟩ := List.getElem?_eq_some_iff.1 hx
  obtain ⟨hj, rfl⟩ := List.getElem?_eq_some_iff.1 hy
  rcases Nat.lt_or_ge i j with h1 | h1
  · exact (List.pairwise_iff_getElem.1 h) i j hi hj h1
  · have : i = j := by omega
    subst this; exact Int.le_refl _
theorem Srt.left (h : Srt key (A ++ B)) : Srt key A := (List.pairwise_append.1 h).1
theorem Srt.right (h : Srt key (A ++ B)) : Srt key B := (List.pairwise_append.1 h).2.1
theorem Srt.app (h : Srt key A) (h' : Srt key B) (hc : ∀ x ∈ A, ∀ y ∈ B, key x ≤ key y) : Srt key (A ++ B) := List.pairwise_append.2 ⟨h, h', hc⟩
theorem Srt.one : Srt key [x] := List.pairwise_singleton ..
theorem Srt.nil : Srt key [] := List.Pairwise.nil
theorem mem_take_get (h : x ∈ l.take t) : ∃ i, i < t ∧ l[i]? = some x := by
  obtain ⟨i, hi, e⟩ := List.getElem_of_mem h
  rw [List.length_take] at hi
  refine ⟨i, by omega, ?_⟩
  rw [List.getElem_take] at e
  rw [← e]; exact List.getElem?_eq_getElem (by omega)
theorem mem_drop_get (h : x ∈ l.drop t) : ∃ i, t ≤ i ∧ l[i]? = some x := by
  obtain ⟨i, hi, e⟩ := List.getElem_of_mem h
  rw [List.length_drop] at hi
  refine ⟨t + i, by omega, ?_⟩
  rw [List.getElem_drop] at e
  rw [← e]; exact List.getElem?_eq_getElem (by omega)
theorem Srt.take_lt (h : Srt key B) {c : Int} (ht : t = 0 ∨ ∃ y, B[t - 1]? = some y ∧ key y < c) : ∀ y ∈ B.take t, key y < c := by
  intro y hy
  obtain ⟨i, hi, e⟩ := mem_take_get hy
  rcases ht with ht | ⟨z, hz, hl⟩
  · omega
  · have := h.get e hz (by omega); omega
theorem Srt.drop_ge (h : Srt key B) {c : Int} (ht : B.length ≤ t ∨ ∃ y, B[t]? = some y ∧ c ≤ key y) : ∀ y ∈ B.drop t, c ≤ key y := by
  intro y hy
  obtain ⟨i, hi, e⟩ := mem_drop_get hy
  rcases ht with ht | ⟨z, hz, hl⟩
  · have := (List.getElem?_eq_some_iff.1 e).1; omega
  · have := h.get hz e hi; omega
theorem Srt.take (h : Srt key B) : Srt key (B.take t) := by
  have h' : Srt key (B.take t ++ B.drop t) := by rw [List.take_append_drop]; exact h
  exact h'.left
theorem Srt.drop (h : Srt key B) : Srt key (B.drop t) := by
  have h' : Srt key (B.take t ++ B.drop t) := by rw [List.take_append_drop]; exact h
  exact h'.right
/-- An element put into a sorted list. -/
theorem Srt.ins (h : Srt key B) (h1 : t = 0 ∨ ∃ y, B[t - 1]? = some y ∧ key y < key x + 1) (h2 : B.length ≤ t ∨ ∃ y, B[t]? = some y ∧ key x ≤ key y) : Srt key (B.take t ++ ([x] ++ B.drop t)) := by
  have a := h.take_lt h1
  have b := h.drop_ge h2
  refine Srt.app h.take (Srt.app Srt.one h.drop fun z hz y hy => ?_) fun y hy z hz => ?_
  · rw [List.mem_singleton.1 hz]; exact b y hy
  · have := a y hy
    rcases List.mem_append.1 hz with hz | hz
    · rw [List.mem_singleton.1 hz]; omega
    · have := b z hz; omega
theorem set_at {P U : List Pr} {x y : Pr} : (P ++ x :: U).set P.length y = P ++ y :: U := by
  rw [List.set_append_right _ _ (Nat.le_refl _), Nat.sub_self, List.set_cons_zero]
theorem set_at1 {P U : List Pr} {x y z : Pr} : (P ++ z :: x :: U).set (P.length + 1) y = P ++ z :: y :: U := by
  rw [List.set_append_right _ _ (by omega), show P.length + 1 - P.length = 1 from by omega]; rfl
theorem get_at {P U : List Pr} {x : Pr} : (P ++ x :: U)[P.length]? = some x := by
  rw [List.getElem?_append_right (Nat.le_refl _), Nat.sub_self]; rfl
theorem get_at1 {P U : List Pr} {x y : Pr} : (P ++ x :: y :: U)[P.length + 1]? = some y := by
  rw [List.getElem?_append_right (by omega), show P.length + 1 - P.length = 1 from by omega]; rfl
theorem get_in {P A S : List Pr} {t : Nat} (h : t < A.length) : (P ++ (A ++ S))[P.length + t]? = A[t]? := by
  rw [List.getElem?_append_right (by omega), show P.length + t - P.length = t from by omega, List.getElem?_append_left h]
theorem get_in2 {P A B S : List Pr} {t : Nat} (h : t < B.length) : (P ++ (A ++ (B ++ S)))[P.length + A.length + t]? = B[t]? := by
  have := get_in (P := P ++ A) (A := B) (S := S) h
  rw [List.length_append, List.append_assoc] at this; exact this
/-- The merge's last step: the two halves merged, the first all at most the second. -/
theorem merge_end {A1 A2 B1 B2 C1 C2 : List Pr} (hA : Srt key (A1 ++ A2)) (hB : Srt key (B1 ++ B2)) (h1 : ∀ x ∈ A2, ∀ y ∈ B1, key y < key x) (h2 : ∀ x ∈ A1, ∀ y ∈ B2, key x ≤ key y)
    (c1 : Srt key C1) (s1 : Same key (A1 ++ B1) C1) (c2 : Srt key C2) (s2 : Same key (A2 ++ B2) C2) : Srt key (C1 ++ C2) ∧ Same key ((A1 ++ A2) ++ (B1 ++ B2)) (C1 ++ C2) := by
  refine ⟨Srt.app c1 c2 fun x hx y hy => ?_, ?_⟩
  · have hx := s1.mem.1 hx
    have hy := s2.mem.1 hy
    rcases List.mem_append.1 hx with hx | hx <;> rcases List.mem_append.1 hy with hy | hy
    · exact (List.pairwise_append.1 hA).2.2 x hx y hy
    · exact h2 x hx y hy
    · have := h1 y hy x hx; omega
    · exact (List.pairwise_append.1 hB).2.2 x hx y hy
  · have e : Same key (A2 ++ B1) (B1 ++ A2) := Same.swap h1
    have := (Same.refl (key := key) (l := A1)).app (e.app (Same.refl (key := key) (l := B2)))
    have h3 : Same key ((A1 ++ A2) ++ (B1 ++ B2)) ((A1 ++ B1) ++ (A2 ++ B2)) := by
      simpa only [List.append_assoc] using this
    exact h3.trans (s1.app s2)
/-- A range of places is sorted. -/
def SR (key : Pr → Int) (l : List Pr) (lo hi : Nat) : Prop := ∀ i j x y, lo ≤ i → i ≤ j → j < hi → l[i]? = some x → l[j]? = some y → key x ≤ key y
theorem SR.of {lo : Nat} (h : Srt key C) (hl : lo = P.length) : SR key (P ++ (C ++ S)) lo (lo + C.length) := by
  intro i j x y h1 h2 h3 hx hy
  obtain ⟨t, rfl⟩ : ∃ t, i = P.length + t := ⟨i - P.length, by omega⟩
  obtain ⟨u, rfl⟩ : ∃ u, j = P.length + u := ⟨j - P.length, by omega⟩
  rw [get_in (by omega)] at hx hy
  exact h.get hx hy (by omega)
theorem SR.srt {lo hi : Nat} (h : SR key (P ++ (C ++ S)) lo hi) (hl : lo ≤ P.length) (hh : P.length + C.length ≤ hi) : Srt key C := by
  unfold Srt
  rw [List.pairwise_iff_getElem]
  intro i j hi hj hij
  refine h (P.length + i) (P.length + j) _ _ (by omega) (by omega) (by omega) ?_ ?_
  · rw [get_in hi, List.getElem?_eq_getElem hi]
  · rw [get_in hj, List.getElem?_eq_getElem hj]
theorem SR.frame {lo hi : Nat} (h : SR key l lo hi) (he : ∀ k, lo ≤ k → k < hi → l'[k]? = l[k]?) : SR key l' lo hi := by
  intro i j x y h1 h2 h3 hx hy
  rw [he i (by omega) (by omega)] at hx
  rw [he j (by omega) (by omega)] at hy
  exact h i j x y h1 h2 h3 hx hy
theorem out_get {k : Nat} (hl : C.length = A.length) (h : k < P.length ∨ P.length + A.length ≤ k) : (P ++ (C ++ S))[k]? = (P ++ (A ++ S))[k]? := by
  rcases h with h | h
  · rw [List.getElem?_append_left h, List.getElem?_append_left h]
  · rw [List.getElem?_append_right (by omega), List.getElem?_append_right (by omega), List.getElem?_append_right (by omega), List.getElem?_append_right (by omega), hl]
theorem split3 (l : List Pr) {a b : Nat} (h1 : a ≤ b) (h2 : b ≤ l.length) : ∃ P A S, l = P ++ (A ++ S) ∧ P.length = a ∧ A.length = b - a := by
  refine ⟨l.take a, (l.drop a).take (b - a), (l.drop a).drop (b - a), ?_, ?_, ?_⟩
  · rw [List.take_append_drop, List.take_append_drop]
  · rw [List.length_take]; omega
  · rw [List.length_take, List.length_drop]; omega
end
/-- A fact that arithmetic is not to look into. -/
structure Opq (p : Prop) : Prop where
  out : p
theorem dvd_step {d k a : Nat} (h1 : d ∣ k) (h2 : d ∣ a) (h : k < a) : k + d ≤ a := by
  have := Nat.le_of_dvd (by omega) (Nat.dvd_sub h2 h1)
  omega
section
variable {key : Pr → Int}
/-- Two neighbouring elements exchanged. -/
theorem set2_up {P U : List Pr} {x y : Pr} : ((P ++ x :: y :: U).set P.length y).set (P.length + 1) x = P ++ y :: x :: U := by rw [set_at, set_at1]
theorem set2_dn {P U : List Pr} {x y : Pr} : ((P ++ x :: y :: U).set (P.length + 1) x).set P.length y = P ++ y :: x :: U := by rw [set_at1, set_at]
/-- A range sorted by itself; the others stay. -/
theorem SR.put {P A C S : List Pr} {lo hi : Nat} (hs : Same key A C) (h : SR key (P ++ (A ++ S)) lo hi) (ho : hi ≤ P.length ∨ P.length + A.length ≤ lo) : SR key (P ++ (C ++ S)) lo hi :=
  h.frame fun k h1 h2 => out_get hs.len (by omega)
theorem SR.short {l : List Pr} {lo hi hi' : Nat} (h : SR key l lo hi) (hl : l.length ≤ hi) : SR key l lo hi' := by
  intro i j x y h1 h2 h3 hx hy
  have := (List.getElem?_eq_some_iff.1 hy).1
  exact h i j x y h1 h2 (by omega) hx hy
theorem SR.none {l : List Pr} {lo hi : Nat} (hl : l.length ≤ lo) : SR key l lo hi := by
  intro i j x y h1 h2 h3 hx hy
  have := (List.getElem?_eq_some_iff.1 hx).1
  omega
end
end Go.Proofs.YthcekppbbanfeaaGreat.Den
