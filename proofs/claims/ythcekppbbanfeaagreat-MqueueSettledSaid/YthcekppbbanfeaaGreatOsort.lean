/- From the library's sort contracts to lists in chunks. Conditions: none. -/
import Derived.Test.YthcekppbbanfeaaGreatOt
import Derived.Shelf.SlSortCmp.NoneTotal
set_option linter.unusedVariables false
set_option linter.unusedSimpArgs false
set_option maxRecDepth 8000
namespace Go.Proofs.YthcekppbbanfeaaGreat.Den
open Go Go.RowKit
section
variable {α : Type} [Inhabited α] {C : Cod α} {xs : List α} {w w' w0 : World} {L F cs : List Chunk} {s : Value} {el : Nat}
theorem ext_grow {W W' : World} (h : Ext [] W W') : ∃ q os, W' = Sort.grow (W.drewN q) os := by
  refine ⟨W'.drawn - W.drawn, W'.heap.extract W.heap.size W'.heap.size, ?_⟩
  have h1 := h.os; have h2 := h.tape; have h3 := h.output; have h4 := h.drawn
  have hh : W'.heap = W.heap ++ W'.heap.extract W.heap.size W'.heap.size := by
    apply Array.ext_getElem?
    intro i
    rw [Array.getElem?_append]
    split
    · rename_i hi; rw [h.block i hi (by simp)]
    · rename_i hi
      by_cases hi2 : i < W'.heap.size
      · rw [Array.getElem?_extract]
        rw [if_pos (by have := h.size; omega)]
        congr 1; omega
      · rw [Array.getElem?_eq_none (by omega), Array.getElem?_eq_none]
        simp; omega
  obtain ⟨hp, tp, dr, os', out⟩ := W'
  simp only at h1 h2 h3 h4 hh
  subst h1 h2 h3
  simp only [Sort.grow, World.drewN, World.mk.injEq, and_true, true_and]
  exact ⟨hh, by omega⟩
theorem flatK_all : (Sort.flatK C.enc C.sz xs.toArray).toList = C.all xs := by
  apply List.ext_getElem?
  intro t
  by_cases ht : t < xs.length * C.sz
  · have hz : 0 < C.sz := Nat.pos_of_ne_zero fun h => by rw [h] at ht; simp at ht
    have hj : t / C.sz < xs.length := (Nat.div_lt_iff_lt_mul hz).2 ht
    have hm : t % C.sz < C.sz := Nat.mod_lt _ hz
    obtain ⟨x, hx⟩ : ∃ x, xs[t / C.sz]? = some x := ⟨_, List.getElem?_eq_getElem hj⟩
    have e1 := all_get (C := C) hx hm
    rw [show t / C.sz * C.sz + t % C.sz = t from by rw [Nat.mul_comm]; exact Nat.div_add_mod _ _] at e1
    rw [e1]
    have e2 : xs.toArray[t / C.sz]! = x := by simp [hx]
    have e3 : (Sort.flatK C.enc C.sz xs.toArray)[t]? = some ((C.enc x)[t % C.sz]!) := by
      simp only [Sort.flatK, Array.getElem?_map]
      rw [Array.getElem?_range]
      simp only [List.size_toArray, if_pos ht, Option.map_some, e2]
    rw [Array.getElem?_toList, e3]
    have hl := C.len x
    rw [List.getElem?_eq_getElem (by omega), List.getElem!_eq_getElem?_getD, List.getElem?_eq_getElem (by omega)]; rfl
  · rw [List.getElem?_eq_none, List.getElem?_eq_none]
    · rw [all_len]; omega
    · simp [Sort.flatK]; omega
theorem sort_bridge (h : TS C el s xs cs) (H : Hp w0 w (cs ++ F)) (hn : 0 < xs.length) : ∃ b cap, s = .slice (some ⟨b, 0, none⟩) xs.length cap ∧ Sort.HoldsK C.enc C.sz w b 0 xs.toArray ∧ b < w.heap.size ∧
    ∀ (d' : Array α) (n : Nat) (os : Array Obj), d'.size = xs.length → ∃ cs', Hp w0 (sortWorldK C.enc C.sz w b 0 n d' os) (cs' ++ F) ∧ TS C el s d'.toList cs' := by
  obtain ⟨b, cap, rest, rfl, rfl, h1, h2⟩ := h.chunk hn
  have hb : Blk w b el (C.all xs ++ rest) := (H.blk ⟨b, el, C.all xs ++ rest⟩ (by simp)).2
  refine ⟨b, cap, rfl, ?_, hb.lt, ?_⟩
  · intro j hj
    rw [Nat.zero_add]
    refine ⟨?_, hb.frozen j⟩
    rw [hb.cell]
    have e : (Sort.flatK C.enc C.sz xs.toArray)[j]? = (C.all xs)[j]? := by rw [← Array.getElem?_toList, flatK_all]
    have hl : (C.all xs).length = (Sort.flatK C.enc C.sz xs.toArray).size := by rw [← flatK_all]; simp
    rw [List.getElem?_append_left (by omega), ← e, Array.getElem?_eq_getElem hj, getElem!_pos _ j hj]
    rfl
  · intro d' n os hd
    refine ⟨[⟨b, el, C.all d'.toList ++ rest⟩], ?_, by rw [← hd, ← Array.length_toList]; exact TS.mk rfl (by simp; omega) (by rw [h2, ← hd]; simp)⟩
    have hfl : (Sort.flatK C.enc C.sz d').toList = C.all d'.toList := by
      have := flatK_all (C := C) (xs := d'.toList); simpa using this
    have hlen : (C.all d'.toList).length = (C.all xs).length := by rw [all_len, all_len]; simp [hd]
    have hsz : (Sort.flatK C.enc C.sz d').size = (C.all xs).length := by rw [← hlen, ← hfl]; simp
    have hheap : w.heap[b]? = some (.cells ⟨C.all xs ++ rest⟩ el (0, 0)) := hb
    have hcells : Sort.putCells id 0 (Sort.flatK C.enc C.sz d') ⟨C.all xs ++ rest⟩ = ⟨C.all d'.toList ++ rest⟩ := by
      apply Array.ext_getElem?
      intro i
      simp only [Sort.putCells, Array.getElem?_mapIdx]
      by_cases hi : i < (C.all xs).length
      · have e1 : ((⟨C.all xs ++ rest⟩ : Array Value))[i]? = some (C.all xs)[i] := by simp [List.getElem?_append_left hi, hi]
        have e2 : ((⟨C.all d'.toList ++ rest⟩ : Array Value))[i]? = (C.all d'.toList)[i]? := by simp [List.getElem?_append_left (show i < (C.all d'.toList).length by omega)]
        rw [e1, e2, ← hfl]
        simp only [Option.map_some, Nat.zero_le, true_and, Nat.zero_add, Nat.sub_zero, hsz, hi, if_true, id]
        simp [hsz, hi]
      · have e1 : ((⟨C.all xs ++ rest⟩ : Array Value))[i]? = rest[i - (C.all xs).length]? := by simp [List.getElem?_append_right (Nat.not_lt.1 hi)]
        have e2 : ((⟨C.all d'.toList ++ rest⟩ : Array Value))[i]? = rest[i - (C.all xs).length]? := by
          have := List.getElem?_append_right (l₁ := C.all d'.toList) (l₂ := rest) (i := i) (by omega)
          rw [hlen] at this; simpa using this
        rw [e1, e2]
        cases rest[i - (C.all xs).length]? with
        | none => rfl
        | some v => simp only [Option.map_some, hsz]; rw [if_neg (by omega)]
    have hb' : Blk (sortWorldK C.enc C.sz w b 0 n d' os) b el (C.all d'.toList ++ rest) := by
      unfold Blk sortWorldK Sort.grow Sort.putRowK Sort.putRow Sort.mapBlock Sort.ahead
      simp only
      rw [Array.getElem?_append_left (by simpa using hb.lt), Array.getElem?_modify, if_pos rfl, hheap]
      simp only [Option.map_some, Sort.onCells, hcells]
    have he : Ext [b] w (sortWorldK C.enc C.sz w b 0 n d' os) := by
      refine ⟨rfl, rfl, rfl, ?_, fun k hk hne => ?_, ?_⟩
      · unfold sortWorldK Sort.grow Sort.putRowK Sort.putRow Sort.mapBlock Sort.ahead; simp
      · unfold sortWorldK Sort.grow Sort.putRowK Sort.putRow Sort.mapBlock Sort.ahead
        simp only
        rw [Array.getElem?_append_left (by simpa using hk), Array.getElem?_modify, if_neg (by simpa using fun h => hne (by simp [h]))]
      · unfold sortWorldK Sort.grow Sort.putRowK Sort.putRow Sort.mapBlock Sort.ahead; simp
    exact Hp.upd (c := ⟨b, el, C.all xs ++ rest⟩) H hb' he
theorem permIn_all {d d' : Array α} (h : Sort.PermIn 0 d.size d d') : d'.size = d.size ∧ d'.toList.Perm d.toList := by
  obtain ⟨h1, _, h3⟩ := h
  refine ⟨h1, ?_⟩
  have e1 : d'.extract 0 d.size = d' := by rw [← h1]; simp
  have e2 : d.extract 0 d.size = d := by simp
  rw [e1, e2] at h3; exact h3
theorem sortedIn_pw {lt : α → α → Bool} {d : Array α} (h : Sort.SortedIn lt 0 d.size d) : d.toList.Pairwise fun x y => lt y x = false := by
  rw [List.pairwise_iff_getElem]
  intro i j hi hj hij
  have := h i j (Nat.zero_le _) hij (by simpa using hj)
  simp only [Array.length_toList] at hi hj
  simpa [hi, hj] using this
end
end Go.Proofs.YthcekppbbanfeaaGreat.Den
