/- Inherit: the law Monotone. Conditions: none. -/
import Derived.Test.YtagcifbfokneoaaIhR
set_option linter.unusedVariables false
set_option linter.unusedSimpArgs false
set_option maxRecDepth 8000
set_option maxHeartbeats 1000000
namespace Go.Proofs.Ytagcifbfokneoaa.Den
open Go Go.RowKit
section
variable {w w' w0 : World} {L L' F cs cs2 cs3 : List Chunk} {s s2 sb se sd : Value} {K : VK} {R : ER} {base d out : List Int} {E E' : List (Nat × Nat)} {es : List (Int × Int)} {n to i u x : Nat}
theorem nxt_mem {f : Nat → Int} {k v : Nat} (h : ∃ t, t < n ∧ f t = k ∧ (v, t) ∈ E) : nxt E n f k v < n ∧ f (nxt E n f k v) = k ∧ (v, nxt E n f k v) ∈ E := by
  obtain ⟨t, h1, h2, h3⟩ := h
  unfold nxt
  cases hf : (List.range n).find? (fun t => decide (f t = k) && decide ((v, t) ∈ E)) with
  | none =>
    have := List.find?_eq_none.1 hf t (List.mem_range.2 h1)
    simp [h2, h3] at this
  | some y =>
    have hp := List.find?_some hf
    have hm := List.mem_of_find?_eq_some hf
    simp at hp
    exact ⟨List.mem_range.1 hm, hp.1, hp.2⟩
theorem Reach.pre {a b c : Nat} (he : (a, b) ∈ E) (h : Reach E b c) : Reach E a c := by
  induction h with
  | refl => exact .step (.refl _) he
  | step _ h2 ih => exact .step ih h2
theorem PathN.reach {k a b : Nat} (h : PathN E k a b) : Reach E a b := by
  induction h with
  | zero a => exact .refl _
  | succ h1 _ ih => exact .pre h1 ih
theorem IsD.reach {f : Nat → Int} {to v : Nat} (hf : IsD E n to f) (hv : v < n) (h : 0 ≤ f v) : Reach E v to := by
  obtain ⟨k, _, hp⟩ := hf.ex v hv h
  exact hp.reach
theorem chain_mem {f : Nat → Int} {to : Nat} (hf : IsD E n to f) (hV : Valid E n) : ∀ (k v : Nat), v < n → f v = (k : Int) → ∀ x ∈ chainP E n f k v, x < n ∧ Reach E v x ∧ Reach E x to
  | 0, v, hv, h => by
    intro x hx
    simp [chainP] at hx
    subst hx
    exact ⟨hv, .refl _, hf.reach hv (by omega)⟩
  | k + 1, v, hv, h => by
    intro x hx
    rw [chainP, List.mem_cons] at hx
    rcases hx with rfl | hx
    · exact ⟨hv, .refl _, hf.reach hv (by omega)⟩
    · obtain ⟨t, h1, h2, h3, _, h4⟩ := hf.least hV hv (k := k) (by omega)
      rw [h4] at hx
      obtain ⟨g1, g2, g3⟩ := chain_mem hf hV k t h1 h2 x hx
      exact ⟨g1, .pre h3 g2, g3⟩
theorem chain_last {f : Nat → Int} {to : Nat} (hf : IsD E n to f) (hV : Valid E n) : ∀ (k v : Nat), v < n → f v = (k : Int) → (chainP E n f k v)[k]? = some to
  | 0, v, hv, h => by
    obtain ⟨j, hj, hp⟩ := hf.ex v hv (by omega)
    obtain rfl : j = 0 := by omega
    cases hp
    rfl
  | k + 1, v, hv, h => by
    obtain ⟨t, h1, h2, h3, _, h4⟩ := hf.least hV hv (k := k) (by omega)
    rw [chainP, h4, List.getElem?_cons_succ]
    exact chain_last hf hV k t h1 h2
theorem chain_head {f : Nat → Int} : ∀ (k v : Nat), (chainP E n f k v)[0]? = some v
  | 0, v => rfl
  | k + 1, v => rfl
/-- The threads of the least cycle reach one another. -/
theorem Cyc.mem {t l : Nat} (h : Cyc E n t l) (hD : IsD E n t (dst E t)) (hV : Valid E n) : ∀ x ∈ chainP E n (dst E t) l t, x < n ∧ Reach E t x ∧ Reach E x t := by
  obtain ⟨y, y1, y2, y3⟩ := h.ex
  cases l with
  | zero => omega
  | succ k =>
    intro x hx
    obtain ⟨g1, g2, g3⟩ := nxt_mem (f := dst E t) (k := k) (v := t) (E := E) (n := n) ⟨y, (hV _ y1).2, by omega, y1⟩
    rw [chainP, List.mem_cons] at hx
    rcases hx with rfl | hx
    · exact ⟨h.lt, .refl _, .refl _⟩
    · obtain ⟨q1, q2, q3⟩ := chain_mem hD hV k _ g1 g2 x hx
      exact ⟨q1, .pre g3 q2, q3⟩
theorem bld2 {s1 s2 : Value} (h1 : scalar s1 = true) (h2 : scalar s2 = true) : bldO [.slice none 0 0, .slice none 0 0] [(0, 1, s1), (1, 1, s2)] = some (.agg ⟨[s1, s2]⟩) := by
  cases s1 <;> first | (simp [scalar] at h1; done) | (cases s2 <;> first | (simp [scalar] at h2; done) | rfl)
end
end Go.Proofs.Ytagcifbfokneoaa.Den
