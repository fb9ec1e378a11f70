/- Slices that begin behind their block's start: cut at the front, appended to. Conditions: none. -/
import Derived.Test.YthcekppbbanfeaaGreatOt
set_option linter.unusedVariables false
set_option linter.unusedSimpArgs false
set_option maxRecDepth 8000
namespace Go.Proofs.YthcekppbbanfeaaGreat.Den
open Go Go.RowKit
def SlO (el sz : Nat) (s : Value) (n : Nat) (xs : List Value) (cs : List Chunk) : Prop :=
  (cs = [] ∧ (∃ a, s = .slice a 0 0) ∧ n = 0 ∧ xs = []) ∨ ∃ b o cap pre rest, cs = [⟨b, el, pre ++ (xs ++ rest)⟩] ∧ s = .slice (some ⟨b, o, none⟩) n cap ∧ pre.length = o ∧ xs.length = n * sz ∧ n ≤ cap ∧ rest.length = (cap - n) * sz
section
variable {w w' : World} {w0 : World} {T el sz bts n m : Nat} {z xs ys : List Value} {s src : Value} {cs F L : List Chunk} {K : VK} {R : ER}
theorem Sl.slO (h : Sl el sz s n xs cs) : SlO el sz s n xs cs := by
  rcases h with h | ⟨b, cap, rest, h1, h2, h3, h4, h5⟩
  · exact .inl h
  · exact .inr ⟨b, 0, cap, [], rest, h1, h2, rfl, h3, h4, h5⟩
theorem SlO.length (h : SlO el sz s n xs cs) : xs.length = n * sz := by
  rcases h with ⟨_, _, rfl, rfl⟩ | ⟨b, o, cap, pre, rest, _, _, _, h, _, _⟩
  · simp
  · exact h
theorem SlO.rdL (h : SlO el sz s n xs cs) (hL : ∀ c ∈ cs, c ∈ L) : RdL w0 L sz s n xs := by
  rcases h with ⟨_, ⟨a, rfl⟩, rfl, rfl⟩ | ⟨b, o, cap, pre, rest, rfl, rfl, h0, h1, h2, h3⟩
  · cases a with
    | none => exact .inl (.inl ⟨0, rfl, by simp, rfl⟩)
    | some a => exact .inl (.inr ⟨a, 0, rfl, Nat.le_refl _, by simp [cellsAt]⟩)
  · refine .inr ⟨b, o, cap, .t el, pre ++ (xs ++ rest), rfl, h2, ⟨hL _ (by simp), rfl⟩, ?_, ?_⟩
    · rw [List.length_append, List.length_append, h0, h1]; omega
    · rw [← h0, List.drop_left, ← h1, List.take_left]
theorem append_o' (hT : ElT T el sz bts z) (H : Hp w0 w (cs ++ F)) (hs : SlO el sz s n xs cs) (hsrc : RdL w0 (cs ++ F) sz src m ys) (hsc : ∀ c ∈ ys, scalar c = true)
    (hsize : (2 * (n + m) + 1000) * bts ≤ 2 ^ 48) (hnm : n + m < 2 ^ 62) {ty : Nat} {cc : Array Bool}
    (k : ∀ w' s' cs', Hp w0 w' (cs' ++ F) → SlO el sz s' (n + m) (xs ++ ys) cs' → ((cs = [] ∧ m = 0) ∨ ∃ c, cs' = [c]) → K s' w') : blt Pg R .append ⟨[T, T]⟩ ty cc ⟨[s, src]⟩ K w := by
  suffices hh : ∃ s' w' cs', (Builtin.append_ #[T, T] ty #[s, src]).run Pg w = .ok s' w' ∧ Hp w0 w' (cs' ++ F) ∧ SlO el sz s' (n + m) (xs ++ ys) cs' ∧ ((cs = [] ∧ m = 0) ∨ ∃ c, cs' = [c]) by
    obtain ⟨s', w', cs', h1, h2, h3, h4⟩ := hh
    unfold blt semV
    have : (builtin .append ⟨[T, T]⟩ ty cc ⟨[s, src]⟩).run Pg w = .ok (.value s') w' := run_value h1
    rw [this]
    exact k w' s' cs' h2 h3 h4
  have hrd := hsrc.rd H
  obtain ⟨i, zv, hi, hi1, hi2, hi3, hi4⟩ := hT.parts
  have hsz : szO Pg el = some sz := by simp [szO, hi, hi1]
  have hz : (Pg.info? el).bind (·.zero) = some zv := by simp [hi, hi3]
  have hlen := hrd.length
  have hxl := hs.length
  obtain ⟨base, cap, hsv, hncap⟩ : ∃ base cap, s = .slice base n cap ∧ (n ≤ cap) := by
    rcases hs with ⟨_, ⟨a, rfl⟩, rfl, rfl⟩ | ⟨b, o, cap, pre, rest, rfl, rfl, h0, h1, h2, h3⟩
    · exact ⟨a, 0, rfl, Nat.le_refl _⟩
    · exact ⟨_, cap, rfl, h2⟩
  have hu := fun w => run_underlying' (P := Pg) (w := w) hT.under
  have hss := fun w => run_sizeOf' (P := Pg) (w := w) hsz
  have ht := fun w => run_typeInfo (w := w) (P := Pg) hi
  have hzv := fun w => run_zeroValue' (P := Pg) (w := w) hz
  have hfs := run_firstCells (P := Pg) hrd
  have hlo := run_lenOf (P := Pg) hrd
  by_cases hc : n + m ≤ cap
  · have hopen : (Builtin.append_ #[T, T] ty #[s, src]).run Pg w = (do
        if let some a := base then storeCells (a.add (n * sz)) ys
        pure (.slice base (n + m) cap) : Sem Value).run Pg w := by
      unfold Builtin.append_
      subst hsv
      simp [Sem.run_bind, hu, Result.andThen, hss, hlo, hc, hfs]
      cases base <;> rfl
    rw [hopen]
    rcases hs with ⟨rfl, ⟨a, h1⟩, rfl, rfl⟩ | ⟨b, o, cap', pre, rest, rfl, h1, h0, h3, h4, h5⟩
    · rw [hsv] at h1
      injection h1 with h1 h2 h3
      subst h1; subst h3
      obtain rfl : m = 0 := by omega
      have hy : ys = [] := by simpa using hlen
      subst hy
      refine ⟨.slice base 0 0, w, [], ?_, H, .inl ⟨rfl, ⟨base, rfl⟩, rfl, rfl⟩, .inl ⟨rfl, rfl⟩⟩
      cases base <;> rfl
    · rw [hsv] at h1
      injection h1 with h1 h6 h7
      subst h1; subst h7
      have h2 := (H.blk ⟨b, el, pre ++ (xs ++ rest)⟩ (by simp)).2
      have hle : o + n * sz + 0 + ys.length ≤ (pre ++ (xs ++ rest)).length := by
        rw [List.length_append, List.length_append, h0, h3, h5, hlen, Nat.add_zero, Nat.add_assoc, ← Nat.add_mul, ← Nat.add_mul]
        exact Nat.add_le_add_left (Nat.mul_le_mul_right _ (by omega)) _
      obtain ⟨w', g1, g2, g3⟩ := run_storeCells_blk (P := Pg) ys (o + n * sz) 0 w (pre ++ (xs ++ rest)) h2 hle hsc
      have hlay : lay (pre ++ (xs ++ rest)) (o + n * sz + 0) ys = pre ++ (xs ++ ys ++ rest.drop ys.length) := by
        unfold lay
        rw [Nat.add_zero, ← h3, ← h0, ← List.append_assoc pre, ← List.length_append, List.take_left, List.drop_append]
        simp
      rw [hlay] at g2
      refine ⟨.slice (some ⟨b, o, none⟩) (n + m) cap, w', [⟨b, el, pre ++ ((xs ++ ys) ++ rest.drop ys.length)⟩], ?_, ?_, .inr ⟨b, o, cap, pre, rest.drop ys.length, rfl, rfl, h0, by rw [List.length_append, h3, hlen, Nat.add_mul], hc, ?_⟩, .inr ⟨_, rfl⟩⟩
      · simp only [add_mk]
        rw [Sem.run_bind, g1]; rfl
      · exact Hp.upd (c := ⟨b, el, pre ++ (xs ++ rest)⟩) H g2 g3
      · rw [List.length_drop, h5, hlen, ← Nat.sub_mul]; congr 1; omega
  · have hb2 : ¬ (2 ^ 48 < Builtin.nextslicecap (n + m) cap * bts) := by
      have := next_le (need := n + m) (cap := cap) (by omega)
      have h2 := Nat.mul_le_mul_right bts this
      omega
    have hbz : ¬ (9223372036854775807 < (n : Int) + (m : Int) ∧ bts = 0) := by omega
    have hold : ∀ w1 : World, w1.heap = w.heap → (Builtin.firstCells sz n (.slice base n cap)).run Pg w1 = .ok xs.toArray w1 := by
      intro w1 h1
      refine run_firstCells ?_
      rw [← hsv]
      have hr : Rd w sz s n xs := (hs.rdL (w0 := w0) (L := cs ++ F) (fun c hc => List.mem_append_left _ hc)).rd H
      rcases hr with h | ⟨a, c, h, hmc, h2⟩
      · exact .inl h
      · exact .inr ⟨a, c, h, hmc, by rw [cellsAt_congr (w := w) (by rw [h1])]; exact h2⟩
    have hnew : ∀ w1 : World, w1.heap = w.heap → (Builtin.firstCells sz m src).run Pg w1 = .ok ys.toArray w1 := by
      intro w1 h1
      refine run_firstCells ?_
      rcases hrd with h | ⟨a, c, h, hmc, h2⟩
      · exact .inl h
      · exact .inr ⟨a, c, h, hmc, by rw [cellsAt_congr (w := w) (by rw [h1])]; exact h2⟩
    obtain ⟨newCap, hcap, hch⟩ : ∃ newCap, n + m ≤ newCap ∧ (choose (.appendCap (n + m) cap el)).run Pg w = .ok newCap w.drew := by
      refine ⟨_, ?_, rfl⟩
      simp only [Question.cut]; omega
    have hask : ∀ k w1, (askRoom k).run Pg w1 = .ok () w1 := by
      intro k w1; unfold askRoom; split <;> rfl
    have hzs : zv.cells.size = sz := by have := hT.len; rw [← hi4] at this; simpa using this
    have hHn := (H.to (L' := F) (fun f => by simp only [List.map_append, List.sum_append]; omega)).drew.new el (xs.toArray ++ ys.toArray ++ Builtin.zeroCells zv.cells (newCap - (n + m)))
    refine ⟨.slice (some ⟨w.heap.size, 0, none⟩) (n + m) newCap, w.drew.alloc (.cells (xs.toArray ++ ys.toArray ++ Builtin.zeroCells zv.cells (newCap - (n + m))) el), [⟨w.heap.size, el, (xs ++ ys) ++ (Builtin.zeroCells zv.cells (newCap - (n + m))).toList⟩], ?_, by simpa using hHn, ?_, .inr ⟨_, rfl⟩⟩
    · unfold Builtin.append_
      subst hsv
      simp [Sem.run_bind, hu, Result.andThen, hss, hlo, hc, ht, hi2, hbz, hb2, hch, hask, hold w.drew rfl, hnew w.drew rfl, hzv, newRow, newObj, Sem.run, World.alloc]
      congr 2; apply Array.ext'; simp
    · exact .inr ⟨_, 0, newCap, [], _, rfl, rfl, rfl, by rw [List.length_append, hxl, hlen, Nat.add_mul], hcap, by rw [Array.length_toList, zeroCells_size, hzs]⟩
end
section
variable {α : Type} {C : Cod α} {xs zs : List α} {x : α} {w w' w0 : World} {L L' F cs cs2 : List Chunk} {s s2 : Value} {K : VK} {R : ER} {el i j T bts : Nat} {z : List Value} {v : Value}
def TO (C : Cod α) (el : Nat) (s : Value) (xs : List α) (cs : List Chunk) : Prop := SlO el C.sz s xs.length (C.all xs) cs
theorem TS.to (h : TS C el s xs cs) : TO C el s xs cs := Sl.slO h
theorem TO.tr (h : TO C el s xs cs) : TR C w0 cs s xs := SlO.rdL h fun _ hc => hc
theorem TO.nil : TO C el (.slice none 0 0) [] [] := TS.nil.to
theorem TO.sc (h : TO C el s xs cs) : scalar s = true := (h.tr (w0 := default)).sc
theorem lenS_to (h : TO C el s xs cs) : lenS s = some (I (xs.length : Int)) := lenS_tr (w0 := default) h.tr
theorem TO.sh (h : TO C el s xs cs) : ∃ k : Sh, s = k.val := (h.tr (w0 := default)).sh
theorem append_to (hT : ElT T el C.sz bts z) (H : Hp w0 w L) (hs : TO C el s xs cs) (hS : Split L cs F) (hsrc : TR C w0 cs2 s2 zs) (hs2 : ∀ c ∈ cs2, c ∈ L) (hsize : (2 * (xs.length + zs.length) + 1000) * bts ≤ 2 ^ 48) (hnm : xs.length + zs.length < 2 ^ 62) {ty : Nat} {cc : Array Bool}
    (k : ∀ w' s' cs', Hp w0 w' (cs' ++ F) → TO C el s' (xs ++ zs) cs' → K s' w') : blt Pg R .append ⟨[T, T]⟩ ty cc ⟨[s, s2]⟩ K w := by
  refine append_o' hT (H.split hS) hs (RdL.mono hsrc fun c hc => (hS.2 c).1 (hs2 c hc)) all_sc hsize hnm fun w' s' cs' h1 h2 _ => k w' s' cs' h1 ?_
  unfold TO
  rw [List.length_append, all_app]; exact h2
/-- The first element cut off. -/
theorem TO.tail (hz : 0 < C.sz) (h : TO C el s (x :: xs) cs) : ∃ s' cs', slS C.sz s (some (I 1)) none = some s' ∧ TO C el s' xs cs' ∧ ∀ {w0 w : World} {F : List Chunk}, Hp w0 w (cs ++ F) → Hp w0 w (cs' ++ F) := by
  rcases h with ⟨_, _, h0, _⟩ | ⟨b, o, cap, pre, rest, rfl, rfl, h0, h1, h2, h3⟩
  · simp at h0
  · rw [List.length_cons] at h1 h2 h3
    have e1 : slS C.sz (.slice (some ⟨b, o, none⟩) (x :: xs).length cap) (some (I 1)) none = some (.slice (if cap = 1 then some ⟨b, o, none⟩ else some ⟨b, o + C.sz, none⟩) xs.length (cap - 1)) := by
      have e0 : (1 : Int) ≤ ((xs.length + 1 : Nat) : Int) := by omega
      simp only [slS, boundO, List.length_cons]
      rw [if_pos (by omega)]
      simp only [Int.toNat_one, Nat.one_mul, Option.map_some, add_mk, Nat.add_sub_cancel]
    rw [e1]
    by_cases hc : cap = 1
    · have hx : xs = [] := List.length_eq_zero_iff.1 (by omega)
      subst hx hc
      refine ⟨_, [], rfl, .inl ⟨rfl, ⟨some ⟨b, o, none⟩, by simp⟩, rfl, rfl⟩, fun H => H.right⟩
    · rw [if_neg hc]
      refine ⟨_, _, rfl, .inr ⟨b, o + C.sz, cap - 1, pre ++ C.enc x, rest, ?_, rfl, by rw [List.length_append, h0, C.len], all_len, by omega, by rw [h3]; congr 1; omega⟩, fun H => H⟩
      have : C.all (x :: xs) = C.enc x ++ C.all xs := by simp [Cod.all]
      rw [this]; simp
end
end Go.Proofs.YthcekppbbanfeaaGreat.Den
