/- The list of calls that a law gets, wherever it lies. Conditions: none. -/
import Derived.Test.YticnobfmpogcoaaRdL1
import Derived.Deep.Slices
set_option linter.unusedVariables false
set_option linter.unusedSimpArgs false
set_option maxRecDepth 8000
namespace Go.Proofs.Yticnobfmpogcoaa.Den
open Go Go.RowKit
/-- The numbers of one call. -/
structure ActR where
  d : Int
  t : Int
  p : Int
  m : Int
  n : Int
  f : Bool
def ActR.cells (x : ActR) : List Value := [.int .u8 x.d, I x.t, I x.p, I x.m, I x.n, .bool x.f]
/-- v is a slice of these calls. -/
def Acts (w : World) (v : Value) (xs : List ActR) : Prop :=
  (v = .slice none 0 0 ∧ xs = []) ∨ ∃ a cap, v = .slice (some a) xs.length cap ∧ ∀ i x, xs[i]? = some x → ∀ j, j < 6 → w.cell? (a.add (i * 6 + j)) = x.cells[j]?
section
variable {w w' : World} {v : Value} {xs : List ActR} {K : VK} {i : Nat} {x : ActR}
theorem Ext.cell (he : Ext [] w w') {a : Addr} (ha : a.block < w.heap.size) : w'.cell? a = w.cell? a := World.cell?_of_block (w := w) (he.block a.block ha (by simp))
theorem add_block (a : Addr) (n : Nat) : (a.add n).block = a.block := by unfold Addr.add; split <;> rfl
theorem cell_lt {a : Addr} {c : Value} (h : w.cell? a = some c) : a.block < w.heap.size := by
  by_cases hlt : a.block < w.heap.size
  · exact hlt
  · have e : w.heap[a.block]? = none := by simp; omega
    simp [World.cell?, e] at h
theorem Acts.ext (h : Acts w v xs) (he : Ext [] w w') : Acts w' v xs := by
  rcases h with h | ⟨a, cap, h1, h3⟩
  · exact .inl h
  · refine .inr ⟨a, cap, h1, fun i x hx j hj => ?_⟩
    have h5 := h3 i x hx j hj
    have hs : x.cells[j]? = some (x.cells[j]'(by simp [ActR.cells]; omega)) := List.getElem?_eq_getElem _
    rw [hs] at h5 ⊢
    rw [he.cell (cell_lt h5)]; exact h5
theorem Acts.len (h : Acts w v xs) : lenS v = some (I (xs.length : Int)) := by
  rcases h with ⟨rfl, rfl⟩ | ⟨a, cap, rfl, _⟩ <;> rfl
/-- The place of a call. -/
theorem acts_at (h : Acts w v xs) (hx : xs[i]? = some x) : ∃ a, ixS 6 v (I (i : Int)) = some (.pointer (some a)) ∧ ∀ j, j < 6 → w.cell? (a.add j) = x.cells[j]? := by
  have hi : i < xs.length := (List.getElem?_eq_some_iff.1 hx).1
  rcases h with ⟨rfl, rfl⟩ | ⟨a, cap, rfl, h3⟩
  · simp at hi
  · refine ⟨a.add (i * 6), ?_, fun j hj => ?_⟩
    · simp only [ixS]; rw [if_pos (by omega)]; simp
    · rw [Go.Deep.add_add]; exact h3 i x hx j hj
theorem ld1_cell {a : Addr} {c : Value} (h : w.cell? a = some c) (k : K c w) : ld1 (.pointer (some a)) K w := by
  simp only [ld1, h]; exact k
theorem faO_add (n : Nat) (a : Addr) : faO n (.pointer (some a)) = some (.pointer (some (a.add n))) := rfl
theorem ldN6_act {a : Addr} (h : ∀ j, j < 6 → w.cell? (a.add j) = x.cells[j]?) (k : K (.agg x.cells.toArray) w) : ldN 6 (.pointer (some a)) K w := by
  have e : cellsAt w a 0 6 = some x.cells := by
    simp only [cellsAt, h 0 (by omega), h 1 (by omega), h 2 (by omega), h 3 (by omega), h 4 (by omega), h 5 (by omega), ActR.cells, List.getElem?_cons_zero, List.getElem?_cons_succ]
  simp only [ldN, e]; exact k
/-- The call, copied into a variable of the law's own. -/
theorem act_var (k : ∀ w', Blk w' w.heap.size 27 x.cells → Ext [] w w' → K (.pointer (some ⟨w.heap.size, 0, none⟩)) w') :
    al Pg 27 (fun v1 => stN 6 v1 (.agg x.cells.toArray) fun _ => K v1) w := by
  refine al_blk (z := .agg ⟨[.int .u8 0, I 0, I 0, I 0, I 0, .bool false]⟩) (by kernel_rfl) fun w1 hb he hs => ?_
  refine stN_blk hb rfl (by simp [Value.cells]) ?_ fun w2 hb2 he2 => ?_
  · intro c hc
    simp only [ActR.cells, List.mem_cons, List.not_mem_nil, or_false] at hc
    rcases hc with rfl | rfl | rfl | rfl | rfl | rfl <;> rfl
  · refine k w2 ?_ (he.then he2 (fun k hk _ => by cases hk) (fun k hk hl => by simp at hk; omega))
    have e : lay (Value.cells (.agg ⟨[.int .u8 0, I 0, I 0, I 0, I 0, .bool false]⟩)).toList 0 x.cells = x.cells := by simp [lay, Value.cells, ActR.cells]
    rw [e] at hb2; exact hb2
theorem own2 {w1 w2 : World} {b : Nat} (h : Ext [] w w1) (h' : Ext [b] w1 w2) (hb : w.heap.size ≤ b) : Ext [] w w2 := h.then h' (fun k hk _ => by cases hk) (fun k hk hl => by simp at hk; omega)
end
end Go.Proofs.Yticnobfmpogcoaa.Den
