/- Inherit: effective priorities, distances, chains, in plain Lean. Conditions: none. -/
import Derived.Test.YtagcifbfokneoaaIhB
set_option linter.unusedVariables false
set_option linter.unusedSimpArgs false
namespace Go.Proofs.Ytagcifbfokneoaa.Den
open Go Go.RowKit
def gt (l : List Int) (i : Nat) : Int := l.getD i 0
section
variable {l : List Int} {i j n : Nat} {v : Int} {base out out' : List Int} {E E' : List (Nat × Nat)}
theorem gt_some (h : i < l.length) : l[i]? = some (gt l i) := by simp [gt, List.getD, h]
theorem gt_set (h : i < l.length) : gt (l.set i v) j = if j = i then v else gt l j := by
  unfold gt List.getD
  by_cases e : j = i
  · subst e; simp [h]
  · rw [if_neg e, List.getElem?_set_ne (fun h => e h.symm)]
theorem gt_rep {x : Int} (h : i < n) : gt (List.replicate n x) i = x := by simp [gt, List.getD, h]
inductive Reach (E : List (Nat × Nat)) : Nat → Nat → Prop
  | refl (a : Nat) : Reach E a a
  | step {a b c : Nat} : Reach E a b → (b, c) ∈ E → Reach E a c
def Valid (E : List (Nat × Nat)) (n : Nat) : Prop := ∀ e ∈ E, e.1 < n ∧ e.2 < n
structure IsEff (base : List Int) (E : List (Nat × Nat)) (out : List Int) : Prop where
  len : out.length = base.length
  ge : ∀ i, i < base.length → gt base i ≤ gt out i
  cl : ∀ e ∈ E, gt out e.1 ≤ gt out e.2
  why : ∀ i, i < base.length → ∃ j, j < base.length ∧ Reach E j i ∧ gt out i = gt base j
theorem Reach.mono (hs : ∀ e ∈ E, e ∈ E') {a b : Nat} (h : Reach E a b) : Reach E' a b := by
  induction h with
  | refl => exact .refl _
  | step h1 h2 ih => exact .step ih (hs _ h2)
theorem Reach.le (hc : ∀ e ∈ E, gt out e.1 ≤ gt out e.2) {a b : Nat} (h : Reach E a b) : gt out a ≤ gt out b := by
  induction h with
  | refl => exact Int.le_refl _
  | step h1 h2 ih => exact Int.le_trans ih (hc _ h2)
/-- More edges: no effective priority is less. -/
theorem IsEff.mono (h : IsEff base E out) (h' : IsEff base E' out') (hs : ∀ e ∈ E, e ∈ E') (hi : i < base.length) : gt out i ≤ gt out' i := by
  obtain ⟨j, hj, hr, e⟩ := h.why i hi
  rw [e]
  exact Int.le_trans (h'.ge j hj) ((hr.mono hs).le h'.cl)
theorem gt_ext (hl : out.length = out'.length) (h : ∀ i, i < out.length → gt out i = gt out' i) : out = out' := by
  apply List.ext_getElem? ; intro k
  by_cases hk : k < out.length
  · rw [gt_some hk, gt_some (hl ▸ hk), h k hk]
  · rw [List.getElem?_eq_none (by omega), List.getElem?_eq_none (by omega)]
theorem IsEff.unique (h : IsEff base E out) (h' : IsEff base E' out') (hs : ∀ e, e ∈ E ↔ e ∈ E') : out = out' := by
  refine gt_ext (h.len.trans h'.len.symm) fun i hi => ?_
  rw [h.len] at hi
  exact Int.le_antisymm (h.mono h' (fun e he => (hs e).1 he) hi) (h'.mono h (fun e he => (hs e).2 he) hi)
/-- What is left to raise. -/
def slack (l : List Int) : Nat := (l.map fun x => (255 - x).toNat).sum
theorem slack_set : ∀ {l : List Int} {i : Nat}, i < l.length → gt l i < v → v ≤ 255 → slack (l.set i v) + 1 ≤ slack l
  | [], i, h, _, _ => by simp at h
  | a :: l, 0, h, h1, h2 => by simp [slack, gt] at *; omega
  | a :: l, i + 1, h, h1, h2 => by
    have := slack_set (l := l) (i := i) (by simpa using h) (by simpa [gt] using h1) h2
    simp [slack] at *; omega
/-- What all loops keep: reasons, bounds. -/
structure Wk (base : List Int) (E : List (Nat × Nat)) (out : List Int) : Prop where
  len : out.length = base.length
  ge : ∀ i, i < base.length → gt base i ≤ gt out i
  why : ∀ i, i < base.length → ∃ j, j < base.length ∧ Reach E j i ∧ gt out i = gt base j
theorem Wk.start : Wk base E base := ⟨rfl, fun _ _ => Int.le_refl _, fun i hi => ⟨i, hi, .refl _, rfl⟩⟩
theorem Wk.raise {a b : Nat} (h : Wk base E out) (hv : Valid E base.length) (he : (a, b) ∈ E) (hlt : gt out b ≤ gt out a) : Wk base E (out.set b (gt out a)) := by
  have hb := (hv _ he).2
  have ha := (hv _ he).1
  refine ⟨by simp [h.len], fun i hi => ?_, fun i hi => ?_⟩
  · rw [gt_set (by rw [h.len]; exact hb)]
    split
    · rename_i e; subst e; exact Int.le_trans (h.ge _ hi) hlt
    · exact h.ge i hi
  · rw [gt_set (by rw [h.len]; exact hb)]
    split
    · rename_i e; subst e
      obtain ⟨j, hj, hr, e⟩ := h.why a ha
      exact ⟨j, hj, hr.step he, e⟩
    · exact h.why i hi
theorem Wk.done (h : Wk base E out) (hc : ∀ e ∈ E, gt out e.1 ≤ gt out e.2) : IsEff base E out := ⟨h.len, h.ge, hc, h.why⟩
theorem Wk.le (h : Wk base E out) (hb : ∀ x ∈ base, x ≤ 255) (hi : i < base.length) : gt out i ≤ 255 := by
  obtain ⟨j, hj, _, e⟩ := h.why i hi
  rw [e]; exact hb _ (List.mem_of_getElem? (gt_some hj))
/-! ### distances -/
inductive PathN (E : List (Nat × Nat)) : Nat → Nat → Nat → Prop
  | zero (a : Nat) : PathN E 0 a a
  | succ {k a b c : Nat} : (a, b) ∈ E → PathN E k b c → PathN E (k + 1) a c
/-- f is the number of edges of a shortest chain to a thread, or less than 0. -/
structure IsD (E : List (Nat × Nat)) (n to : Nat) (f : Nat → Int) : Prop where
  neg : ∀ v, v < n → f v < 0 → f v = -1
  le : ∀ v, v < n → ∀ k, PathN E k v to → 0 ≤ f v ∧ f v ≤ k
  ex : ∀ v, v < n → 0 ≤ f v → ∃ k : Nat, f v = k ∧ PathN E k v to
open Classical in
/-- The number of edges of a shortest chain, -1 without one. -/
noncomputable def dst (E : List (Nat × Nat)) (to v : Nat) : Int := if h : ∃ k : Nat, PathN E k v to ∧ ∀ j : Nat, PathN E j v to → k ≤ j then (Classical.choose h : Nat) else -1
theorem IsD.eq {f : Nat → Int} {to v : Nat} (hf : IsD E n to f) (hv : v < n) : f v = dst E to v := by
  unfold dst
  by_cases h0 : 0 ≤ f v
  · obtain ⟨k, e, p⟩ := hf.ex v hv h0
    have h : ∃ k : Nat, PathN E k v to ∧ ∀ j : Nat, PathN E j v to → k ≤ j := ⟨k, p, fun j pj => by have := (hf.le v hv j pj).2; omega⟩
    rw [dif_pos h]
    obtain ⟨c1, c2⟩ := Classical.choose_spec h
    have := c2 k p
    have := (hf.le v hv _ c1).2
    omega
  · rw [dif_neg]
    · exact hf.neg v hv (by omega)
    · rintro ⟨k, p, _⟩
      exact h0 (hf.le v hv k p).1
theorem IsD.dst {f : Nat → Int} {to : Nat} (hf : IsD E n to f) : IsD E n to (dst E to) :=
  ⟨fun v hv => by rw [← hf.eq hv]; exact hf.neg v hv, fun v hv => by rw [← hf.eq hv]; exact hf.le v hv, fun v hv => by rw [← hf.eq hv]; exact hf.ex v hv⟩
/-- From closure and reasons. -/
theorem IsD.of {f : Nat → Int} {to : Nat} (hv : Valid E n) (h0 : f to = 0) (hc : ∀ e ∈ E, 0 ≤ f e.2 → 0 ≤ f e.1 ∧ f e.1 ≤ f e.2 + 1) (hr : ∀ v, v < n → 0 ≤ f v → ∃ k : Nat, f v = k ∧ PathN E k v to) (hn : ∀ v, v < n → f v < 0 → f v = -1) : IsD E n to f := by
  refine ⟨hn, fun v hvn k p => ?_, hr⟩
  clear hr hvn hn
  generalize hto : to = t at p
  induction p with
  | zero a => subst hto; rw [h0]; exact ⟨Int.le_refl _, Int.le_refl _⟩
  | succ h1 h2 ih =>
    subst hto
    obtain ⟨i1, i2⟩ := ih rfl
    obtain ⟨c1, c2⟩ := hc _ h1 i1
    exact ⟨c1, by simp only at c2; omega⟩
theorem nodup_lt : ∀ (n : Nat) (l : List Nat), l.Nodup → (∀ x ∈ l, x < n) → l.length ≤ n
  | 0, l, _, h => by
    cases l with
    | nil => simp
    | cons a l => have := h a (by simp); omega
  | n + 1, l, hn, h => by
    have h1 : (l.filter (· != n)).Nodup := hn.filter _
    have h2 := nodup_lt n _ h1 fun x hx => by
      obtain ⟨hx, hne⟩ := List.mem_filter.1 hx
      have := h x hx
      simp at hne; omega
    have h3 : l.length ≤ (l.filter (· != n)).length + 1 := by
      have : ∀ l : List Nat, l.Nodup → l.length ≤ (l.filter (· != n)).length + 1 := by
        intro l
        induction l with
        | nil => simp
        | cons a l ih =>
          intro hn
          obtain ⟨ha, hn⟩ := List.nodup_cons.1 hn
          by_cases e : a = n
          · subst e
            have : l.filter (· != a) = l := List.filter_eq_self.2 fun x hx => by
              simp; rintro rfl; exact ha hx
            simp [this]
          · have := ih hn
            simp [e]; omega
      exact this l hn
    omega
/-- Levels without a gap: no level is above the number of threads. -/
theorem level_le {d : Nat → Int} (hs : ∀ v, v < n → 2 ≤ d v → ∃ u, u < n ∧ d u = d v - 1) : ∀ (k v : Nat), v < n → d v = (k : Int) + 1 → ∃ l : List Nat, l.length = k + 1 ∧ l.Nodup ∧ (∀ x ∈ l, x < n) ∧ ∀ x ∈ l, d x ≤ (k : Int) + 1
  | 0, v, hv, h => ⟨[v], rfl, by simp, by simpa using hv, by simp [h]⟩
  | k + 1, v, hv, h => by
    obtain ⟨u, hu, e⟩ := hs v hv (by omega)
    obtain ⟨l, h1, h2, h3, h4⟩ := level_le hs k u hu (by omega)
    refine ⟨v :: l, by simp [h1], List.nodup_cons.2 ⟨fun hm => ?_, h2⟩, ?_, ?_⟩
    · have := h4 v hm; omega
    · intro x hx
      rcases List.mem_cons.1 hx with rfl | hx
      · exact hv
      · exact h3 x hx
    · intro x hx
      rcases List.mem_cons.1 hx with rfl | hx
      · omega
      · have := h4 x hx; omega
/-- What the levels keep: k is done for the edges of D, all less than k are done for all. -/
structure Lv (E : List (Nat × Nat)) (n to k : Nat) (D : List (Nat × Nat)) (d : List Int) : Prop where
  len : d.length = n
  to1 : gt d to = 1
  nn : ∀ v, v < n → 0 ≤ gt d v ∧ gt d v ≤ k + 1
  why : ∀ v, v < n → 1 ≤ gt d v → ∃ j : Nat, gt d v = j + 1 ∧ PathN E j v to
  lt : ∀ e ∈ E, 1 ≤ gt d e.2 → gt d e.2 < k → 1 ≤ gt d e.1 ∧ gt d e.1 ≤ gt d e.2 + 1
  eq : ∀ e ∈ D, gt d e.2 = k → 1 ≤ gt d e.1 ∧ gt d e.1 ≤ gt d e.2 + 1
  gap : ∀ v, v < n → 2 ≤ gt d v → ∃ u, u < n ∧ gt d u = gt d v - 1
theorem Lv.start {to : Nat} (h : to < n) : Lv E n to 0 [] ((List.replicate n 0).set to 1) := by
  have e : ∀ v, gt ((List.replicate n (0 : Int)).set to 1) v = if v = to then 1 else gt (List.replicate n 0) v := fun v => gt_set (by simpa using h)
  have z : ∀ v, gt (List.replicate n (0 : Int)) v = 0 := fun v => by
    by_cases hv : v < n
    · exact gt_rep hv
    · unfold gt List.getD; rw [List.getElem?_eq_none (by simp; omega)]; rfl
  simp only [z] at e
  refine ⟨by simp, by rw [e, if_pos rfl], fun v hv => ?_, fun v hv h1 => ?_, fun e' he h1 h2 => ?_, by simp, fun v hv h2 => ?_⟩
  · rw [e]; split <;> omega
  · rw [e] at h1 ⊢
    split at h1
    · rename_i hv; subst hv; exact ⟨0, by simp, .zero _⟩
    · omega
  · simp only [Int.natCast_zero] at h2; omega
  · rw [e] at h2; split at h2 <;> omega
theorem Lv.next {to k : Nat} {d : List Int} (h : Lv E n to k E d) : Lv E n to (k + 1) [] d :=
  ⟨h.len, h.to1, fun v hv => by have := h.nn v hv; omega, h.why, fun e he h1 h2 => by
    by_cases hk : gt d e.2 = k
    · exact h.eq e he hk
    · exact h.lt e he h1 (by omega), by simp, h.gap⟩
theorem Lv.first {to : Nat} (h : to < n) : Lv E n to 1 [] ((List.replicate n 0).set to 1) := by
  have h0 := Lv.start (E := E) h
  have e : ∀ v, gt ((List.replicate n (0 : Int)).set to 1) v ≤ 1 := fun v => by
    rw [gt_set (by simpa using h)]; split
    · omega
    · by_cases hv : v < n
      · rw [gt_rep hv]; omega
      · unfold gt List.getD; rw [List.getElem?_eq_none (by simp; omega)]; simp
  exact ⟨h0.len, h0.to1, fun v hv => ⟨(h0.nn v hv).1, by have := e v; omega⟩, h0.why, fun x hx h1 h2 => by omega, by simp, h0.gap⟩
theorem Lv.skip {to k : Nat} {d : List Int} {D : List (Nat × Nat)} {e : Nat × Nat} (h : Lv E n to k D d) (he : gt d e.2 = k → gt d e.1 ≠ 0) (hv : e.1 < n) : Lv E n to k (D ++ [e]) d :=
  ⟨h.len, h.to1, h.nn, h.why, h.lt, fun x hx hk => by
    rcases List.mem_append.1 hx with hx | hx
    · exact h.eq x hx hk
    · simp at hx; subst hx
      have := h.nn _ hv
      have := he hk
      omega, h.gap⟩
theorem Lv.set {to k : Nat} {d : List Int} {D : List (Nat × Nat)} {e : Nat × Nat} (h : Lv E n to k D d) (hV : Valid E n) (he : e ∈ E) (hD : ∀ x ∈ D, x ∈ E) (hk : 1 ≤ k) (h1 : gt d e.2 = k) (h2 : gt d e.1 = 0) : Lv E n to k (D ++ [e]) (d.set e.1 (k + 1)) := by
  have hv := hV e he
  have g : ∀ v, gt (d.set e.1 ((k : Int) + 1)) v = if v = e.1 then (k : Int) + 1 else gt d v := fun v => gt_set (by rw [h.len]; exact hv.1)
  refine ⟨by simp [h.len], ?_, fun v hvn => ?_, fun v hvn hg => ?_, fun x hx g1 g2 => ?_, fun x hx g1 => ?_, fun v hvn hg => ?_⟩
  · rw [g, if_neg]
    · exact h.to1
    · intro e'; rw [← e', h.to1] at h2; omega
  · rw [g]; split
    · omega
    · exact h.nn v hvn
  · rw [g] at hg ⊢
    split
    · rename_i ev
      obtain ⟨j, ej, pj⟩ := h.why e.2 hv.2 (by omega)
      refine ⟨j + 1, by omega, ?_⟩
      rw [ev]; exact .succ (by exact he) pj
    · rename_i ev; rw [if_neg ev] at hg; exact h.why v hvn hg
  · rw [g] at g1 g2 ⊢
    rw [g]
    by_cases e2 : x.2 = e.1
    · rw [if_pos e2] at g2; omega
    · rw [if_neg e2] at g1 g2 ⊢
      have := h.lt x hx g1 g2
      split
      · rename_i e1; rw [e1] at this; omega
      · exact this
  · rw [g] at g1 ⊢
    rw [g]
    by_cases e2 : x.2 = e.1
    · rw [if_pos e2] at g1; omega
    · rw [if_neg e2] at g1 ⊢
      split
      · omega
      · rename_i e1
        rcases List.mem_append.1 hx with hx | hx
        · exact h.eq x hx g1
        · simp at hx; exact absurd (by rw [hx]) e1
  · rw [g] at hg
    by_cases ev : v = e.1
    · rw [if_pos ev] at hg
      refine ⟨e.2, hv.2, ?_⟩
      rw [g, g, if_pos ev]
      split
      · rename_i e1; rw [e1] at h1; omega
      · omega
    · rw [if_neg ev] at hg
      obtain ⟨u, hu, eu⟩ := h.gap v hvn hg
      refine ⟨u, hu, ?_⟩
      rw [g, g, if_neg ev]
      split
      · rename_i e1; rw [e1] at eu; omega
      · exact eu
theorem Lv.isD {to : Nat} {d : List Int} (h : Lv E n to (n + 1) [] d) (hV : Valid E n) : IsD E n to fun v => gt d v - 1 := by
  have top : ∀ v, v < n → gt d v ≤ n := by
    intro v hv
    by_cases hg : gt d v ≤ n
    · exact hg
    · obtain ⟨l, h1, h2, h3, _⟩ := level_le (d := gt d) h.gap (gt d v - 1).toNat v hv (by omega)
      have := nodup_lt n l h2 h3
      omega
  refine IsD.of hV (by rw [h.to1]; rfl) (fun e he h0 => ?_) (fun v hv h0 => ?_) (fun v hv h0 => ?_)
  · have := h.lt e he (by omega) (by have := top e.2 (hV e he).2; omega)
    omega
  · obtain ⟨j, e, p⟩ := h.why v hv (by omega)
    exact ⟨j, by omega, p⟩
  · have := (h.nn v hv).1; omega
/-! ### chains -/
def nxt (E : List (Nat × Nat)) (n : Nat) (f : Nat → Int) (k v : Nat) : Nat := ((List.range n).find? fun t => decide (f t = k) && decide ((v, t) ∈ E)).getD 0
def chainP (E : List (Nat × Nat)) (n : Nat) (f : Nat → Int) : Nat → Nat → List Nat
  | 0, v => [v]
  | k + 1, v => v :: chainP E n f k (nxt E n f k v)
theorem find_range {p : Nat → Bool} {t : Nat} (ht : t < n) (hp : p t = true) (hm : ∀ u, u < t → p u = false) : (List.range n).find? p = some t := by
  rw [List.find?_eq_some_iff_append]
  refine ⟨hp, List.range t, (List.range (n - t - 1)).map (· + (t + 1)), ?_, fun a ha => by rw [hm a (by simpa using ha)]; rfl⟩
  apply List.ext_getElem?
  intro i
  by_cases h1 : i < t
  · rw [List.getElem?_append_left (by simpa using h1)]; simp [h1, Nat.lt_trans h1 ht]
  · rw [List.getElem?_append_right (by simpa using h1)]
    simp only [List.length_range]
    by_cases h2 : i = t
    · subst h2; simp [ht]
    · obtain ⟨j, hj⟩ : ∃ j, i - t = j + 1 := ⟨i - t - 1, by omega⟩
      rw [hj, List.getElem?_cons_succ]
      by_cases h3 : i < n
      · simp only [List.getElem?_map, List.getElem?_range h3, List.getElem?_range (show j < n - t - 1 by omega), Option.map_some]
        congr 1; omega
      · rw [List.getElem?_eq_none (by simpa using h3), List.getElem?_eq_none (by simp; omega)]
theorem nxt_eq {f : Nat → Int} {k v t : Nat} (ht : t < n) (h1 : f t = k) (h2 : (v, t) ∈ E) (hm : ∀ u, u < t → ¬ (f u = k ∧ (v, u) ∈ E)) : nxt E n f k v = t := by
  unfold nxt
  rw [find_range ht (by simp [h1, h2]) fun u hu => ?_]
  · rfl
  · have := hm u hu
    simp only [Bool.and_eq_false_iff, decide_eq_false_iff_not]
    by_cases h : f u = k
    · exact .inr fun h' => this ⟨h, h'⟩
    · exact .inl h
/-- A next one of a chain, the least. -/
theorem IsD.least {f : Nat → Int} {to v k : Nat} (hf : IsD E n to f) (hV : Valid E n) (hv : v < n) (h : f v = (k : Int) + 1) : ∃ t, t < n ∧ f t = k ∧ (v, t) ∈ E ∧ (∀ u, u < t → ¬ (f u = k ∧ (v, u) ∈ E)) ∧ nxt E n f k v = t := by
  obtain ⟨j, ej, p⟩ := hf.ex v hv (by omega)
  obtain rfl : j = k + 1 := by omega
  cases p with
  | succ h1 h2 =>
    rename_i b
    have hb := (hV _ h1).2
    obtain ⟨g1, g2⟩ := hf.le b hb k h2
    have g3 : f b = k := by
      obtain ⟨j, ej, pj⟩ := hf.ex b hb g1
      have := (hf.le v hv _ (.succ h1 pj)).2
      omega
    have : ∀ m, m ≤ n → (∃ t, t < m ∧ f t = k ∧ (v, t) ∈ E ∧ ∀ u, u < t → ¬ (f u = k ∧ (v, u) ∈ E)) ∨ ∀ u, u < m → ¬ (f u = k ∧ (v, u) ∈ E) := by
      intro m
      induction m with
      | zero => intro _; exact .inr fun u hu => by omega
      | succ m ih =>
        intro hm
        rcases ih (by omega) with ⟨t, ht, h⟩ | h
        · exact .inl ⟨t, by omega, h⟩
        · by_cases hp : f m = k ∧ (v, m) ∈ E
          · exact .inl ⟨m, by omega, hp.1, hp.2, h⟩
          · exact .inr fun u hu => by
              by_cases e : u = m
              · subst e; exact hp
              · exact h u (by omega)
    rcases this n (Nat.le_refl _) with ⟨t, ht, e1, e2, e3⟩ | h
    · exact ⟨t, ht, e1, e2, e3, nxt_eq ht e1 e2 e3⟩
    · exact absurd ⟨g3, h1⟩ (h b hb)
theorem nxt_congr {f g : Nat → Int} {k v : Nat} (h : ∀ u, u < n → f u = g u) : nxt E n f k v = nxt E n g k v := by
  unfold nxt
  have : ∀ l : List Nat, (∀ u ∈ l, u < n) → (l.find? fun t => decide (f t = k) && decide ((v, t) ∈ E)) = l.find? fun t => decide (g t = k) && decide ((v, t) ∈ E) := by
    intro l
    induction l with
    | nil => intro _; rfl
    | cons a l ih =>
      intro hl
      rw [List.find?_cons, List.find?_cons, h a (hl a (by simp)), ih fun u hu => hl u (by simp [hu])]
  rw [this _ fun u hu => by simpa using hu]
theorem chainP_congr {f g : Nat → Int} (h : ∀ u, u < n → f u = g u) : ∀ k v, chainP E n f k v = chainP E n g k v
  | 0, v => rfl
  | k + 1, v => by rw [chainP, chainP, nxt_congr h, chainP_congr h]
theorem chainP_len {f : Nat → Int} : ∀ k v, (chainP E n f k v).length = k + 1
  | 0, v => rfl
  | k + 1, v => by rw [chainP, List.length_cons, chainP_len]
theorem PathN.snoc {k a b c : Nat} (h : PathN E k a b) (he : (b, c) ∈ E) : PathN E (k + 1) a c := by
  induction h with
  | zero => exact .succ he (.zero _)
  | succ h1 _ ih => exact .succ h1 (ih he)
theorem Reach.path {a b : Nat} (h : Reach E a b) : ∃ k, PathN E k a b := by
  induction h with
  | refl => exact ⟨0, .zero _⟩
  | step _ h2 ih => obtain ⟨k, p⟩ := ih; exact ⟨k + 1, p.snoc h2⟩
/-- The first one at the least distance with a property, among those below i. -/
structure Best (f : Nat → Int) (P : Nat → Prop) (i b : Nat) : Prop where
  lt : b < i
  nn : 0 ≤ f b
  ok : P b
  min : ∀ u, u < i → 0 ≤ f u → P u → f b < f u ∨ (f b = f u ∧ b ≤ u)
theorem Best.unique {f : Nat → Int} {P : Nat → Prop} {i b b' : Nat} (h : Best f P i b) (h' : Best f P i b') : b = b' := by
  have := h.min b' h'.lt h'.nn h'.ok
  have := h'.min b h.lt h.nn h.ok
  omega
theorem Best.congr {f g : Nat → Int} {P : Nat → Prop} {i b : Nat} (h : Best f P i b) (e : ∀ u, u < i → f u = g u) : Best g P i b :=
  ⟨h.lt, by rw [← e b h.lt]; exact h.nn, h.ok, fun u hu h1 h2 => by rw [← e b h.lt, ← e u hu]; exact h.min u hu (by rw [e u hu]; exact h1) h2⟩
theorem Best.keep {f : Nat → Int} {P : Nat → Prop} {i b : Nat} (h : Best f P i b) (hn : 0 ≤ f i → P i → f b ≤ f i) : Best f P (i + 1) b :=
  ⟨by have := h.lt; omega, h.nn, h.ok, fun u hu h1 h2 => by
    by_cases e : u = i
    · subst e; have := hn h1 h2; have := h.lt; omega
    · exact h.min u (by omega) h1 h2⟩
theorem Best.take {f : Nat → Int} {P : Nat → Prop} {i : Nat} (h1 : 0 ≤ f i) (h2 : P i) (h : ∀ u, u < i → 0 ≤ f u → P u → f i < f u) : Best f P (i + 1) i :=
  ⟨by omega, h1, h2, fun u hu g1 g2 => by
    by_cases e : u = i
    · subst e; exact .inr ⟨rfl, Nat.le_refl _⟩
    · exact .inl (h u (by omega) g1 g2)⟩
theorem none_keep {f : Nat → Int} {P : Nat → Prop} {i : Nat} (h : ∀ u, u < i → 0 ≤ f u → ¬ P u) (hn : 0 ≤ f i → ¬ P i) : ∀ u, u < i + 1 → 0 ≤ f u → ¬ P u := fun u hu h1 => by
  by_cases e : u = i
  · subst e; exact hn h1
  · exact h u (by omega) h1
/-- The least cycle: its length and its first thread. -/
structure Cyc (E : List (Nat × Nat)) (i : Nat) (t l : Nat) : Prop where
  lt : t < i
  ex : ∃ h, (t, h) ∈ E ∧ dst E t h + 1 = l ∧ 0 ≤ dst E t h
  min : ∀ u, u < i → ∀ h, (u, h) ∈ E → 0 ≤ dst E u h → (l : Int) < dst E u h + 1 ∨ ((l : Int) = dst E u h + 1 ∧ t ≤ u)
theorem Cyc.unique {i t l t' l' : Nat} (h : Cyc E i t l) (h' : Cyc E i t' l') : t = t' ∧ l = l' := by
  obtain ⟨x, x1, x2, x3⟩ := h.ex
  obtain ⟨y, y1, y2, y3⟩ := h'.ex
  have := h.min _ h'.lt _ y1 y3
  have := h'.min _ h.lt _ x1 x3
  omega
end
end Go.Proofs.Ytagcifbfokneoaa.Den
