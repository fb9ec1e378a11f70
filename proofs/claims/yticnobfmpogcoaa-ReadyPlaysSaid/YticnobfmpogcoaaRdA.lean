/- A queue of ready threads as one list, and how its block represents it. Conditions: none. -/
import Derived.Test.YticnobfmpogcoaaRdP
import Derived.Test.YticnobfmpogcoaaRdW3
set_option linter.unusedVariables false
set_option linter.unusedSimpArgs false
namespace Go.Proofs.Yticnobfmpogcoaa.Den
open Go
def ring (L : List Ent) (p : Nat) : List Nat := (L.filter (fun e => e.p == p)).map (·.t)
def insertL (x : Ent) (f : Bool) : List Ent → List Ent
  | [] => [x]
  | y :: ys => if y.p < x.p ∨ (f = true ∧ y.p = x.p) then x :: y :: ys else y :: insertL x f ys
def eraseL (t : Nat) (L : List Ent) : List Ent := L.filter (fun e => e.t != t)
def Sorted (L : List Ent) : Prop := L.Pairwise (fun a b => b.p ≤ a.p)
theorem insert_perm (x : Ent) (f : Bool) : ∀ L, (insertL x f L).Perm (x :: L)
  | [] => .refl _
  | y :: ys => by
    unfold insertL; split
    · exact .refl _
    · exact ((insert_perm x f ys).cons y).trans (.swap x y ys)
theorem mem_insert {x : Ent} {f : Bool} {L : List Ent} {e : Ent} : e ∈ insertL x f L ↔ e = x ∨ e ∈ L := by
  rw [(insert_perm x f L).mem_iff, List.mem_cons]
theorem sorted_insert (x : Ent) (f : Bool) : ∀ L, Sorted L → Sorted (insertL x f L)
  | [], _ => List.pairwise_singleton _ _
  | y :: ys, h => by
    unfold insertL
    have h1 := List.pairwise_cons.1 h
    split
    · rename_i hc
      refine List.pairwise_cons.2 ⟨fun e he => ?_, h⟩
      rcases List.mem_cons.1 he with rfl | he
      · rcases hc with hc | hc <;> omega
      · have := h1.1 e he; rcases hc with hc | hc <;> omega
    · rename_i hc
      refine List.pairwise_cons.2 ⟨fun e he => ?_, sorted_insert x f ys h1.2⟩
      rcases mem_insert.1 he with rfl | he
      · omega
      · exact h1.1 e he
theorem ring_below {L : List Ent} {p : Nat} (h : ∀ e ∈ L, e.p < p) : ring L p = [] := by
  unfold ring; rw [List.filter_eq_nil_iff.2]
  · rfl
  · intro e he; have := h e he; simp; omega
theorem ring_insert_ne {x : Ent} {f : Bool} {p : Nat} (hp : p ≠ x.p) : ∀ L, ring (insertL x f L) p = ring L p
  | [] => by simp [insertL, ring, Ne.symm hp]
  | y :: ys => by
    unfold insertL; split
    · simp [ring, Ne.symm hp]
    · have ih := ring_insert_ne (f := f) hp ys
      unfold ring at ih ⊢
      simp only [List.filter_cons]
      split <;> simp [ih]
theorem ring_insert_same (x : Ent) (f : Bool) : ∀ L, Sorted L → ring (insertL x f L) x.p = if f then x.t :: ring L x.p else ring L x.p ++ [x.t]
  | [], _ => by cases f <;> simp [insertL, ring]
  | y :: ys, h => by
    have h1 := List.pairwise_cons.1 h
    unfold insertL; split
    · rename_i hc
      cases f with
      | true => simp [ring]
      | false =>
        have hlt : ∀ e ∈ y :: ys, e.p < x.p := by
          intro e he
          have hy : y.p < x.p := by rcases hc with hc | hc; · exact hc
                                    · cases hc.1
          rcases List.mem_cons.1 he with rfl | he
          · exact hy
          · have := h1.1 e he; omega
        have hr := ring_below hlt
        have hr' : ring (x :: y :: ys) x.p = x.t :: ring (y :: ys) x.p := by simp [ring]
        rw [hr', hr]; rfl
    · rename_i hc
      have ih := ring_insert_same x f ys h1.2
      have e1 : ∀ l : List Ent, ring (y :: l) x.p = (if y.p = x.p then [y.t] else []) ++ ring l x.p := by
        intro l; unfold ring; rw [List.filter_cons]; by_cases hy : y.p = x.p <;> simp [hy]
      rw [e1, e1, ih]
      cases f with
      | false => simp
      | true =>
        have hy : y.p ≠ x.p := fun e => hc (.inr ⟨rfl, e⟩)
        simp [hy]
theorem ring_erase (t p : Nat) (L : List Ent) : ring (eraseL t L) p = (ring L p).filter (· != t) := by
  unfold ring eraseL
  rw [List.filter_map, List.filter_filter, List.filter_filter]
  congr 1
  apply List.filter_congr
  intro e _; simp [Bool.and_comm]
theorem mem_erase {t : Nat} {L : List Ent} {e : Ent} : e ∈ eraseL t L ↔ e ∈ L ∧ e.t ≠ t := by simp [eraseL]
theorem mem_ring {L : List Ent} {p t : Nat} : t ∈ ring L p ↔ ∃ e ∈ L, e.p = p ∧ e.t = t := by
  simp [ring, and_assoc]
theorem ring_nodup {L : List Ent} (h : (L.map (·.t)).Nodup) (p : Nat) : (ring L p).Nodup :=
  ((List.filter_sublist (p := fun e : Ent => e.p == p) (l := L)).map (fun e : Ent => e.t)).nodup h
theorem sorted_erase {L : List Ent} (h : Sorted L) (t : Nat) : Sorted (eraseL t L) := List.Pairwise.sublist List.filter_sublist h
theorem ent_inj {L : List Ent} (h : (L.map (·.t)).Nodup) {a b : Ent} (ha : a ∈ L) (hb : b ∈ L) (e : a.t = b.t) : a = b := by
  induction L with
  | nil => cases ha
  | cons x l ih =>
    simp only [List.map_cons, List.nodup_cons] at h
    rcases List.mem_cons.1 ha with h1 | h1 <;> rcases List.mem_cons.1 hb with h2 | h2
    · rw [h1, h2]
    · subst h1; exact absurd (List.mem_map.2 ⟨b, h2, e.symm⟩) h.1
    · subst h2; exact absurd (List.mem_map.2 ⟨a, h1, e⟩) h.1
    · exact ih h.2 h1 h2
def EntOk (e : Ent) : Prop := e.t < 256 ∧ e.p < 256 ∧ 1 ≤ e.m ∧ e.m ≤ 255
/-- A list as a queue may hold it. -/
structure Good (L : List Ent) : Prop where
  ok : ∀ e ∈ L, EntOk e
  nodup : (L.map (·.t)).Nodup
  sorted : Sorted L
structure Rep0 (q : QS) (L : List Ent) : Prop where
  good : Good L
  prio : ∀ e ∈ L, q.prio e.t = (e.p : Int)
  mask : ∀ e ∈ L, q.mask e.t = (e.m : Int)
  rings : ∀ p, p < 256 → Ring q p (ring L p)
  bits : ∀ p, p < 256 → q.bit p = !(ring L p).isEmpty
  words : ∀ k, k < 4 → q.words k < 2 ^ 64
structure Rep (q : QS) (L : List Ent) : Prop extends Rep0 q L where
  inn : ∀ t, t < 256 → (q.inn t = true ↔ ∃ e ∈ L, e.t = t)
  n : q.n = (L.length : Int)
theorem good_insert {L : List Ent} {x : Ent} (f : Bool) (h : Good L) (hx : EntOk x) (hnew : ∀ e ∈ L, e.t ≠ x.t) : Good (insertL x f L) := by
  refine ⟨fun e he => ?_, ?_, sorted_insert x f L h.sorted⟩
  · rcases mem_insert.1 he with rfl | he
    · exact hx
    · exact h.ok e he
  · rw [((insert_perm x f L).map (·.t)).nodup_iff, List.map_cons, List.nodup_cons]
    refine ⟨fun hm => ?_, h.nodup⟩
    obtain ⟨e, he, h1⟩ := List.mem_map.1 hm
    exact hnew e he h1
theorem good_erase {L : List Ent} (h : Good L) (t : Nat) : Good (eraseL t L) :=
  ⟨fun e he => h.ok e (mem_erase.1 he).1, ((List.filter_sublist (l := L)).map (·.t)).nodup h.nodup, sorted_erase h.sorted t⟩
theorem Rep0_insert {q q' : QS} {L : List Ent} {x : Ent} {f : Bool} (h : Rep0 q L) (hx : EntOk x) (hnew : ∀ e ∈ L, e.t ≠ x.t)
    (hprio : ∀ u, q'.prio u = if u = x.t then (x.p : Int) else q.prio u) (hmask : ∀ u, q'.mask u = if u = x.t then (x.m : Int) else q.mask u)
    (hring : Ring q' x.p (if f then x.t :: ring L x.p else ring L x.p ++ [x.t]))
    (hsame : ∀ e ∈ L, e.p ≠ x.p → q'.next e.t = q.next e.t ∧ q'.prev e.t = q.prev e.t) (hfirst : ∀ p, p ≠ x.p → q'.first p = q.first p)
    (hbits : ∀ p, p < 256 → q'.bit p = (decide (p = x.p) || q.bit p)) (hwords : ∀ k, k < 4 → q'.words k < 2 ^ 64) : Rep0 q' (insertL x f L) := by
  refine ⟨good_insert f h.good hx hnew, fun e he => ?_, fun e he => ?_, fun p hp => ?_, fun p hp => ?_, hwords⟩
  · rcases mem_insert.1 he with rfl | he
    · rw [hprio, if_pos rfl]
    · rw [hprio, if_neg (hnew e he), h.prio e he]
  · rcases mem_insert.1 he with rfl | he
    · rw [hmask, if_pos rfl]
    · rw [hmask, if_neg (hnew e he), h.mask e he]
  · by_cases hpx : p = x.p
    · subst hpx; rw [ring_insert_same x f L h.good.sorted]; exact hring
    · rw [ring_insert_ne hpx]
      refine Ring_congr (hfirst p hpx) (fun u hu => ?_) (fun u hu => ?_) (h.rings p hp)
      · obtain ⟨e, he, h1, rfl⟩ := mem_ring.1 hu; exact (hsame e he (by rw [h1]; exact hpx)).1
      · obtain ⟨e, he, h1, rfl⟩ := mem_ring.1 hu; exact (hsame e he (by rw [h1]; exact hpx)).2
  · rw [hbits p hp]
    by_cases hpx : p = x.p
    · subst hpx; rw [ring_insert_same x f L h.good.sorted]; cases f <;> simp
    · rw [ring_insert_ne hpx, h.bits p hp]; simp [hpx]
theorem Rep0_erase {q q' : QS} {L : List Ent} {x : Ent} (h : Rep0 q L) (hx : x ∈ L)
    (hprio : ∀ u, q'.prio u = q.prio u) (hmask : ∀ u, q'.mask u = q.mask u) (hring : Ring q' x.p ((ring L x.p).filter (· != x.t)))
    (hsame : ∀ e ∈ L, e.p ≠ x.p → q'.next e.t = q.next e.t ∧ q'.prev e.t = q.prev e.t) (hfirst : ∀ p, p ≠ x.p → q'.first p = q.first p)
    (hbits : ∀ p, p < 256 → q'.bit p = if p = x.p then !((ring L x.p).filter (· != x.t)).isEmpty else q.bit p) (hwords : ∀ k, k < 4 → q'.words k < 2 ^ 64) : Rep0 q' (eraseL x.t L) := by
  have hr : ∀ p, p ≠ x.p → ring (eraseL x.t L) p = ring L p := by
    intro p hp
    rw [ring_erase]
    apply List.filter_eq_self.2
    intro u hu
    obtain ⟨e, he, h1, rfl⟩ := mem_ring.1 hu
    have : e.t ≠ x.t := fun q => hp (by rw [← h1, ent_inj h.good.nodup he hx q])
    simpa using this
  refine ⟨good_erase h.good x.t, fun e he => ?_, fun e he => ?_, fun p hp => ?_, fun p hp => ?_, hwords⟩
  · rw [hprio]; exact h.prio e (mem_erase.1 he).1
  · rw [hmask]; exact h.mask e (mem_erase.1 he).1
  · by_cases hpx : p = x.p
    · subst hpx; rw [ring_erase]; exact hring
    · rw [hr p hpx]
      refine Ring_congr (hfirst p hpx) (fun u hu => ?_) (fun u hu => ?_) (h.rings p hp)
      · obtain ⟨e, he, h1, rfl⟩ := mem_ring.1 hu; exact (hsame e he (by rw [h1]; exact hpx)).1
      · obtain ⟨e, he, h1, rfl⟩ := mem_ring.1 hu; exact (hsame e he (by rw [h1]; exact hpx)).2
  · rw [hbits p hp]
    by_cases hpx : p = x.p
    · subst hpx; rw [if_pos rfl, ring_erase]
    · rw [if_neg hpx, hr p hpx, h.bits p hp]
/-! ### words -/
theorem bit_or {q q' : QS} {p : Nat} (hw : ∀ k, q'.words k = if k = p / 64 then q.words k ||| 2 ^ (p % 64) else q.words k) (u : Nat) : q'.bit u = (decide (u = p) || q.bit u) := by
  unfold QS.bit
  rw [hw]
  split
  · rename_i hk
    rw [Nat.testBit_or, Nat.testBit_two_pow]
    by_cases hu : u = p
    · subst hu; simp
    · have : ¬ (p % 64 = u % 64) := by omega
      simp [hu, this]
  · rename_i hk
    have : u ≠ p := fun e => hk (by rw [e])
    simp [this]
theorem bit_clr {q q' : QS} {p : Nat} (hw : ∀ k, q'.words k = if k = p / 64 then q.words k &&& (2 ^ 64 - 1 - 2 ^ (p % 64)) else q.words k) (u : Nat) : q'.bit u = (!decide (u = p) && q.bit u) := by
  unfold QS.bit
  rw [hw]
  have hlt : 2 ^ (p % 64) < 2 ^ 64 := Nat.pow_lt_pow_right (by omega) (by omega)
  split
  · rename_i hk
    rw [Nat.testBit_and, show 2 ^ 64 - 1 - 2 ^ (p % 64) = 2 ^ 64 - (2 ^ (p % 64) + 1) by omega, Nat.testBit_two_pow_sub_succ hlt, Nat.testBit_two_pow]
    have h64 : u % 64 < 64 := by omega
    by_cases hu : u = p
    · subst hu; simp
    · have : ¬ (p % 64 = u % 64) := by omega
      simp [hu, this, h64]
  · rename_i hk
    have : u ≠ p := fun e => hk (by rw [e])
    simp [this]
end Go.Proofs.Yticnobfmpogcoaa.Den
