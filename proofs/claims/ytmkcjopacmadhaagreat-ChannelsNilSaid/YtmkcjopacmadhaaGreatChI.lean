/- Channels: slices.Insert, walked. Conditions: none. -/
import Derived.Test.YtmkcjopacmadhaaGreatChC
import Derived.Lib.AppendZerosOnto
set_option linter.unusedVariables false
set_option linter.unusedSimpArgs false
set_option maxRecDepth 8000
set_option maxHeartbeats 1000000
namespace Go.Proofs.YtmkcjopacmadhaaGreat.Den
open Go Go.RowKit
section
variable {w w' w0 : World} {L L' F cs cs2 : List Chunk} {K : VK} {R : ER} {T el sz bts tn n k cap b : Nat} {z l : List Value}
theorem appendZ_h {kn : IntKind} {ty : Nat} {cc : Array Bool} (hT : ElT T el sz bts z) (htn : Pg.underlying tn = some (.int kn)) (H : Hp w0 w L) (hm : Has L b (.t el) l) (hle : n * sz ≤ l.length) (hsz : 0 < sz) (h0 : 0 < k) (hg : cap < n + k) (hnc : n ≤ cap) (h62 : n + k < 2 ^ 62) (h48 : (2 * (n + k) + 1000) * bts ≤ 2 ^ 48)
    (g : ∀ w' b' cap' Z, Hp w0 w' (⟨b', el, l.take (n * sz) ++ Z⟩ :: L) → n + k ≤ cap' → Z.length = (cap' - n) * sz → K (.slice (some ⟨b', 0, none⟩) (n + k) cap') w') :
    blt Pg R .append ⟨[T, tn]⟩ ty cc ⟨[.slice (some ⟨b, 0, none⟩) n cap, I (k : Int)]⟩ K w := by
  obtain ⟨i, zv, hi, hi1, hi2, hi3, hi4⟩ := hT.parts
  have hb := H.bl hm
  have hold : (Builtin.firstCells i.size n (.slice (some ⟨b, 0, none⟩) n cap)).run Pg w.drew = .ok (l.take (n * sz)).toArray w.drew := by
    rw [hi1]
    refine run_firstCells (.inr ⟨_, cap, rfl, hnc, ?_⟩)
    have := (hb.drew).cellsAt (n * sz) 0 0 (by omega)
    simpa using this
  have hzs : zv.cells.size = sz := by have := hT.len; rw [← hi4] at this; simpa using this
  have hnx := next_le (need := n + k) (cap := cap) hg
  have h2 := Nat.mul_le_mul_right bts hnx
  have h3 : k * bts ≤ (2 * (n + k) + 1000) * bts := Nat.mul_le_mul_right bts (by omega)
  have hrun := Lib.run_append_grow_zeros (P := Pg) w T tn ty el i zv .i64 kn hT.under htn hi hi3 (some ⟨b, 0, none⟩) n cap _ hold k h0 (by omega) hg (by omega) (by rw [hi2]; omega) (by rw [hi2]; omega)
  unfold blt semV
  have hr : (builtin .append ⟨[T, tn]⟩ ty cc ⟨[.slice (some ⟨b, 0, none⟩) n cap, I (k : Int)]⟩).run Pg w = _ := run_value hrun
  rw [hr]
  have hge := grownCap_ge w (n + k) cap el
  have hzl : ∀ m, (Builtin.zeroCells zv.cells m).toList.length = m * sz := by intro m; rw [Array.length_toList, zeroCells_size, hzs]
  refine g _ w.heap.size (grownCap w (n + k) cap el) ((Builtin.zeroCells zv.cells k).toList ++ (Builtin.zeroCells zv.cells (grownCap w (n + k) cap el - (n + k))).toList) ?_ hge ?_
  · have := H.drew.new el ((l.take (n * sz)).toArray ++ Builtin.zeroCells zv.cells k ++ Builtin.zeroCells zv.cells (grownCap w (n + k) cap el - (n + k)))
    have e : ((l.take (n * sz)).toArray ++ Builtin.zeroCells zv.cells k ++ Builtin.zeroCells zv.cells (grownCap w (n + k) cap el - (n + k))).toList = l.take (n * sz) ++ ((Builtin.zeroCells zv.cells k).toList ++ (Builtin.zeroCells zv.cells (grownCap w (n + k) cap el - (n + k))).toList) := by simp [List.append_assoc]
    rw [e] at this; exact this
  · rw [List.length_append, hzl, hzl, ← Nat.add_mul]; congr 1; omega
theorem cap_h {ty : Nat} {cc : Array Bool} {a : Option Addr} (hu : Pg.underlying T = some (.slice el)) (g : K (I (cap : Int)) w) : blt Pg R .cap ⟨[T]⟩ ty cc ⟨[.slice a n cap]⟩ K w := by
  have hrun : (Builtin.cap_ ⟨[T]⟩ ty ⟨[.slice a n cap]⟩).run Pg w = .ok (I (cap : Int)) w := by
    unfold Builtin.cap_
    simp [Sem.run_bind, run_underlying' hu, Result.andThen, goInt]
  unfold blt semV
  have hr : (builtin .cap ⟨[T]⟩ ty cc ⟨[.slice a n cap]⟩).run Pg w = _ := run_value hrun
  rw [hr]; exact g
/-- s[i:], s[:i]. -/
theorem slFrom {sz b o n c i : Nat} (hi : i ≤ n) (hn : n ≤ c) (hc : i < c) : slS sz (.slice (some ⟨b, o, none⟩) n c) (some (I (i : Int))) none = some (.slice (some ⟨b, o + i * sz, none⟩) (n - i) (c - i)) := by
  have e1 : (i : Int) ≤ (n : Int) := by omega
  have e2 : (n : Int) ≤ (c : Int) := by omega
  have e3 : c ≠ i := by omega
  simp [slS, boundO, e1, e2, e3, add_mk]
theorem slTo {sz b o n c i : Nat} (hc : i ≤ c) : slS sz (.slice (some ⟨b, o, none⟩) n c) none (some (I (i : Int))) = some (.slice (some ⟨b, o, none⟩) i c) := by
  have e1 : (i : Int) ≤ (c : Int) := by omega
  simp [slS, boundO, e1, add_mk]
theorem lay_len {l cs : List Value} {o : Nat} (h : o + cs.length ≤ l.length) : (lay l o cs).length = l.length := by
  unfold lay
  rw [List.length_append, List.length_append, List.length_take, List.length_drop, Nat.min_eq_left (by omega)]; omega
theorem lay_app {A Y X : List Value} (h : X.length ≤ Y.length) : lay (A ++ Y) A.length X = A ++ X ++ Y.drop X.length := by
  unfold lay
  rw [List.take_left, List.drop_append]
  simp
end
end Go.Proofs.YtmkcjopacmadhaaGreat.Den
