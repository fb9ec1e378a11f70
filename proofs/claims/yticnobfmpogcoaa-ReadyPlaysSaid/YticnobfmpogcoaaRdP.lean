/- The rings of a queue, as lists. Conditions: none. -/
import Derived.Test.YticnobfmpogcoaaRdQ
set_option linter.unusedVariables false
set_option linter.unusedSimpArgs false
namespace Go.Proofs.Yticnobfmpogcoaa.Den
open Go
structure Ent where
  t : Nat
  p : Nat
  m : Nat
def Chain (q : QS) : Nat → List Nat → Nat → Prop
  | x, [], y => q.next x = (y : Int) ∧ q.prev y = (x : Int)
  | x, z :: zs, y => (q.next x = (z : Int) ∧ q.prev z = (x : Int)) ∧ Chain q z zs y
def Ring (q : QS) (p : Nat) : List Nat → Prop
  | [] => q.first p = -1
  | h :: r => q.first p = (h : Int) ∧ Chain q h r h
theorem Chain_append (q : QS) : ∀ (a : List Nat) (x z y : Nat) (b : List Nat), Chain q x (a ++ z :: b) y ↔ Chain q x a z ∧ Chain q z b y
  | [], x, z, y, b => Iff.rfl
  | c :: a, x, z, y, b => by simp only [List.cons_append, Chain, Chain_append q a c z y b, and_assoc]
theorem Chain_congr {q q' : QS} : ∀ (l : List Nat) (x y : Nat), (∀ u ∈ x :: l, q'.next u = q.next u) → (∀ u ∈ l ++ [y], q'.prev u = q.prev u) → Chain q x l y → Chain q' x l y
  | [], x, y, h1, h2, h => ⟨(h1 x (by simp)).trans h.1, (h2 y (by simp)).trans h.2⟩
  | z :: l, x, y, h1, h2, h => ⟨⟨(h1 x (by simp)).trans h.1.1, (h2 z (by simp)).trans h.1.2⟩,
      Chain_congr l z y (fun u hu => h1 u (List.mem_cons_of_mem _ hu)) (fun u hu => h2 u (by simp only [List.cons_append, List.mem_cons]; exact .inr hu)) h.2⟩
/-- The last thread of a ring that begins with x. -/
def lst : Nat → List Nat → Nat
  | x, [] => x
  | _, z :: l => lst z l
theorem lst_mem : ∀ (l : List Nat) (x : Nat), lst x l ∈ x :: l
  | [], x => by simp [lst]
  | z :: l, x => List.mem_cons_of_mem _ (lst_mem l z)
theorem Chain_last {q : QS} : ∀ (l : List Nat) (x y : Nat), Chain q x l y → q.prev y = (lst x l : Int) ∧ q.next (lst x l) = (y : Int)
  | [], _, _, h => ⟨h.2, h.1⟩
  | z :: l, _, y, h => Chain_last l z y h.2
/-- The end of a chain is led elsewhere. -/
theorem Chain_close {q q' : QS} {y : Nat} : ∀ (l : List Nat) (x t : Nat), (x :: l).Nodup → Chain q x l t → (∀ u ∈ x :: l, u ≠ lst x l → q'.next u = q.next u) → (∀ u ∈ l, q'.prev u = q.prev u) →
    q'.next (lst x l) = (y : Int) → q'.prev y = (lst x l : Int) → Chain q' x l y
  | [], x, t, _, _, _, _, h1, h2 => ⟨h1, h2⟩
  | z :: l, x, t, hnd, h, hn, hp, h1, h2 => by
    have hx : x ≠ lst z l := fun e => by
      have := lst_mem l z; rw [← e] at this
      exact (List.nodup_cons.1 hnd).1 this
    refine ⟨⟨(hn x (by simp) hx).trans h.1.1, (hp z (by simp)).trans h.1.2⟩, ?_⟩
    exact Chain_close l z t (List.nodup_cons.1 hnd).2 h.2 (fun u hu hne => hn u (List.mem_cons_of_mem _ hu) hne) (fun u hu => hp u (List.mem_cons_of_mem _ hu)) h1 h2
theorem lst_append : ∀ (a : List Nat) (x z : Nat) (b : List Nat), lst x (a ++ z :: b) = lst z b
  | [], _, _, _ => rfl
  | c :: a, _, z, b => lst_append a c z b
theorem Ring_congr {q q' : QS} {p : Nat} {ts : List Nat} (hf : q'.first p = q.first p) (hn : ∀ u ∈ ts, q'.next u = q.next u) (hp : ∀ u ∈ ts, q'.prev u = q.prev u) (h : Ring q p ts) : Ring q' p ts := by
  cases ts with
  | nil => exact hf.trans h
  | cons x l =>
    refine ⟨hf.trans h.1, Chain_congr l x x hn (fun u hu => ?_) h.2⟩
    rcases List.mem_append.1 hu with h1 | h1
    · exact hp u (List.mem_cons_of_mem _ h1)
    · simp at h1; subst h1; exact hp u (by simp)
/-- A new thread between the last one and the first one. -/
theorem Ring_put {q q' : QS} {p h t : Nat} {r : List Nat} (f : Bool) (hnd : (h :: r).Nodup) (ht : t ∉ h :: r) (hr : Ring q p (h :: r))
    (hn : ∀ u, q'.next u = if u = lst h r then (t : Int) else if u = t then (h : Int) else q.next u) (hp : ∀ u, q'.prev u = if u = h then (t : Int) else if u = t then (lst h r : Int) else q.prev u)
    (hf : q'.first p = if f then (t : Int) else (h : Int)) : Ring q' p (if f then t :: h :: r else h :: r ++ [t]) := by
  have hth : t ≠ h := fun e => ht (by simp [e])
  have htl : t ≠ lst h r := fun e => ht (e ▸ lst_mem r h)
  have hc := hr.2
  have c1 : Chain q' h r t := by
    refine Chain_close r h h hnd hc (fun u hu hne => ?_) (fun u hu => ?_) ?_ ?_
    · rw [hn, if_neg hne, if_neg (fun (e : u = t) => ht (e ▸ hu))]
    · have hu1 : u ≠ h := fun e => (List.nodup_cons.1 hnd).1 (e ▸ hu)
      rw [hp, if_neg hu1, if_neg (fun (e : u = t) => ht (e ▸ List.mem_cons_of_mem _ hu))]
    · rw [hn, if_pos rfl]
    · rw [hp, if_neg hth, if_pos rfl]
  have c2 : q'.next t = (h : Int) ∧ q'.prev h = (t : Int) := ⟨by rw [hn, if_neg htl, if_pos rfl], by rw [hp, if_pos rfl]⟩
  cases f with
  | false => exact ⟨hf, (Chain_append q' r h t h []).2 ⟨c1, c2⟩⟩
  | true => exact ⟨hf, c2, c1⟩
/-- A thread is taken out. -/
theorem Ring_cut {q q' : QS} {p t x y : Nat} {a b : List Nat} (hnd : (a ++ t :: b).Nodup) (hne : a ++ b ≠ []) (hr : Ring q p (a ++ t :: b)) (hx : q.prev t = (x : Int)) (hy : q.next t = (y : Int))
    (hn : ∀ u, q'.next u = if u = x then (y : Int) else q.next u) (hp : ∀ u, q'.prev u = if u = y then (x : Int) else q.prev u)
    (hf : q'.first p = if q.first p = (t : Int) then (y : Int) else q.first p) : Ring q' p (a ++ b) := by
  cases a with
  | nil =>
    cases b with
    | nil => exact absurd rfl hne
    | cons z b =>
      obtain ⟨h1, ⟨h2, h3⟩, h4⟩ := hr
      have hyz : y = z := by rw [h2] at hy; exact (Int.ofNat.inj hy).symm
      have hxl : x = lst z b := by have := (Chain_last b z t h4).1; rw [hx] at this; exact Int.ofNat.inj this
      subst hyz; subst hxl
      simp only [List.nil_append] at hnd ⊢
      obtain ⟨hnd1, hnd2⟩ := List.nodup_cons.1 hnd
      refine ⟨by rw [hf, if_pos h1], Chain_close b y t hnd2 h4 (fun u hu hne => by rw [hn, if_neg hne]) (fun u hu => ?_) (by rw [hn, if_pos rfl]) (by rw [hp, if_pos rfl])⟩
      have hu1 : u ≠ y := fun e => (List.nodup_cons.1 hnd2).1 (e ▸ hu)
      rw [hp, if_neg hu1]
  | cons h a =>
    obtain ⟨h1, h20⟩ := hr
    obtain ⟨h2, h3⟩ := (Chain_append q a h t h b).1 h20
    clear h20
    have hxl : x = lst h a := by have := (Chain_last a h t h2).1; rw [hx] at this; exact Int.ofNat.inj this
    subst hxl
    simp only [List.cons_append] at hnd ⊢
    have hta : t ∉ h :: a := fun hm => by
      have := List.nodup_append.1 (show ((h :: a) ++ t :: b).Nodup from hnd)
      exact this.2.2 t hm t (by simp) rfl
    have hdis : ∀ u, u ∈ h :: a → u ∉ b := fun u hu hb => by
      have := List.nodup_append.1 (show ((h :: a) ++ t :: b).Nodup from hnd)
      exact this.2.2 u hu u (List.mem_cons_of_mem _ hb) rfl
    have hnda : (h :: a).Nodup := (List.nodup_append.1 (show ((h :: a) ++ t :: b).Nodup from hnd)).1
    have hndb : (t :: b).Nodup := (List.nodup_append.1 (show ((h :: a) ++ t :: b).Nodup from hnd)).2.1
    have hft : q.first p ≠ (t : Int) := by rw [h1]; intro e; exact hta (by rw [Int.ofNat.inj e]; simp)
    have hf' : q'.first p = (h : Int) := by rw [hf, if_neg hft, h1]
    cases b with
    | nil =>
      have hyh : y = h := by rw [h3.1] at hy; exact (Int.ofNat.inj hy).symm
      subst hyh
      simp only [List.append_nil]
      refine ⟨hf', Chain_close a y t hnda h2 (fun u hu hne => by rw [hn, if_neg hne]) (fun u hu => ?_) (by rw [hn, if_pos rfl]) (by rw [hp, if_pos rfl])⟩
      have hu1 : u ≠ y := fun e => (List.nodup_cons.1 hnda).1 (e ▸ hu)
      rw [hp, if_neg hu1]
    | cons z b =>
      obtain ⟨⟨h4, h5⟩, h6⟩ := h3
      have hyz : y = z := by rw [h4] at hy; exact (Int.ofNat.inj hy).symm
      subst hyz
      have hya : y ∉ h :: a := fun hm => hdis y hm (by simp)
      refine ⟨hf', (Chain_append q' a h y h b).2 ⟨?_, ?_⟩⟩
      · refine Chain_close a h t hnda h2 (fun u hu hne => by rw [hn, if_neg hne]) (fun u hu => ?_) (by rw [hn, if_pos rfl]) (by rw [hp, if_pos rfl])
        have hu1 : u ≠ y := fun e => hya (e ▸ List.mem_cons_of_mem _ hu)
        rw [hp, if_neg hu1]
      · refine Chain_congr b y h (fun u hu => ?_) (fun u hu => ?_) h6
        · have : u ≠ lst h a := fun e => hdis (lst h a) (lst_mem a h) (e ▸ hu)
          rw [hn, if_neg this]
        · have : u ≠ y := by
            rcases List.mem_append.1 hu with hm | hm
            · exact fun e => (List.nodup_cons.1 (List.nodup_cons.1 hndb).2).1 (e ▸ hm)
            · simp at hm; subst hm; exact fun e => hya (by simp [← e])
          rw [hp, if_neg this]
end Go.Proofs.Yticnobfmpogcoaa.Den
