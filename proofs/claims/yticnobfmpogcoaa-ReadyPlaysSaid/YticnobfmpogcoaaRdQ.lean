/- The block of a queue of ready threads, read as numbers. Conditions: none. -/
import Derived.Test.YticnobfmpogcoaaHp
set_option linter.unusedVariables false
set_option linter.unusedSimpArgs false
namespace Go.Proofs.Yticnobfmpogcoaa.Den
open Go Go.RowKit
def fup {α : Type} (f : Nat → α) (t : Nat) (v : α) : Nat → α := fun i => if i = t then v else f i
theorem fup_same {α : Type} (f : Nat → α) (t : Nat) (v : α) : fup f t v t = v := by simp [fup]
theorem fup_ne {α : Type} (f : Nat → α) {t i : Nat} (v : α) (h : i ≠ t) : fup f t v i = f i := by simp [fup, h]
/-- The numbers of a queue's block. -/
structure QS where
  first : Nat → Int
  prev : Nat → Int
  next : Nat → Int
  prio : Nat → Int
  mask : Nat → Int
  inn : Nat → Bool
  words : Nat → Nat
  n : Int
def QS.link (q : QS) (r t : Nat) : Value := match r with
  | 0 => .int .i64 (q.prev t)
  | 1 => .int .i64 (q.next t)
  | 2 => .int .i64 (q.prio t)
  | 3 => .int .i64 (q.mask t)
  | _ => .bool (q.inn t)
def QS.cell (q : QS) (i : Nat) : Value :=
  if i < 256 then .int .i64 (q.first i) else if i < 1536 then q.link ((i - 256) % 5) ((i - 256) / 5) else if i < 1540 then .int .u64 (q.words (i - 1536)) else .int .i64 q.n
def QS.lst (q : QS) : List Value := (List.range 1541).map q.cell
theorem QS.length (q : QS) : q.lst.length = 1541 := by simp [QS.lst]
theorem QS.get (q : QS) {i : Nat} (h : i < 1541) : q.lst[i]? = some (q.cell i) := by simp [QS.lst, h]
theorem QS.set (q q' : QS) {i : Nat} {v : Value} (h : i < 1541) (hi : q'.cell i = v) (ho : ∀ j, j < 1541 → j ≠ i → q'.cell j = q.cell j) : q.lst.set i v = q'.lst := by
  apply List.ext_getElem?
  intro j
  rw [List.getElem?_set]
  by_cases hj : j < 1541
  · rw [q'.get hj]
    split
    · rename_i hij; subst hij; rw [if_pos (by rw [q.length]; exact hj), hi]
    · rename_i hij; rw [q.get hj, ho j hj (Ne.symm hij)]
  · have : q'.lst[j]? = none := by rw [List.getElem?_eq_none]; rw [q'.length]; omega
    rw [this]
    split
    · rename_i hij; subst hij; exact absurd h hj
    · rw [List.getElem?_eq_none]; rw [q.length]; omega
section
variable (q : QS) {t : Nat}
theorem QS.cell_first (h : t < 256) : q.cell t = .int .i64 (q.first t) := by simp [QS.cell, h]
theorem QS.cell_link {r : Nat} (h : t < 256) (hr : r < 5) : q.cell (256 + t * 5 + r) = q.link r t := by
  have h1 : ¬ (256 + t * 5 + r < 256) := by omega
  have h2 : 256 + t * 5 + r < 1536 := by omega
  have h3 : (256 + t * 5 + r - 256) % 5 = r := by omega
  have h4 : (256 + t * 5 + r - 256) / 5 = t := by omega
  simp [QS.cell, h1, h2, h3, h4]
theorem QS.cell_word (h : t < 4) : q.cell (1536 + t) = .int .u64 (q.words t) := by
  have h1 : ¬ (1536 + t < 256) := by omega
  have h2 : ¬ (1536 + t < 1536) := by omega
  have h3 : 1536 + t < 1540 := by omega
  simp [QS.cell, h1, h2, h3]
theorem QS.cell_n : q.cell 1540 = .int .i64 q.n := by simp [QS.cell]
theorem QS.set_first (h : t < 256) (v : Int) : q.lst.set t (.int .i64 v) = ({ q with first := fup q.first t v } : QS).lst := by
  refine q.set _ (by omega) ?_ fun j hj hne => ?_
  · rw [QS.cell_first _ h]; simp [fup]
  · simp only [QS.cell, QS.link, fup, hne, if_false]
theorem QS.set_link {r : Nat} (h : t < 256) (hr : r < 5) (q' : QS) (v : Value) (hv : q'.link r t = v) (hl : ∀ r' t', ¬ (r' = r ∧ t' = t) → r' < 5 → q'.link r' t' = q.link r' t')
    (hf : q'.first = q.first) (hw : q'.words = q.words) (hn : q'.n = q.n) : q.lst.set (256 + t * 5 + r) v = q'.lst := by
  refine q.set _ (by omega) ?_ fun j hj hne => ?_
  · rw [QS.cell_link _ h hr]; exact hv
  · unfold QS.cell
    rw [hf, hw, hn]
    split
    · rfl
    · split
      · exact hl _ _ (by intro ⟨h1, h2⟩; apply hne; omega) (Nat.mod_lt _ (by omega))
      · rfl
theorem QS.set_prev (h : t < 256) (v : Int) : q.lst.set (256 + t * 5) (.int .i64 v) = ({ q with prev := fup q.prev t v } : QS).lst := by
  refine q.set_link (r := 0) h (by omega) _ _ (by simp [QS.link, fup]) (fun r' t' hn hr => ?_) rfl rfl rfl
  unfold QS.link; split <;> first | rfl | exact congrArg (Value.int .i64) (fup_ne _ _ (fun ht => hn ⟨rfl, ht⟩))
theorem QS.set_next (h : t < 256) (v : Int) : q.lst.set (256 + t * 5 + 1) (.int .i64 v) = ({ q with next := fup q.next t v } : QS).lst := by
  refine q.set_link h (by omega) _ _ (by simp [QS.link, fup]) (fun r' t' hn hr => ?_) rfl rfl rfl
  unfold QS.link; split <;> first | rfl | exact congrArg (Value.int .i64) (fup_ne _ _ (fun ht => hn ⟨rfl, ht⟩))
theorem QS.set_prio (h : t < 256) (v : Int) : q.lst.set (256 + t * 5 + 2) (.int .i64 v) = ({ q with prio := fup q.prio t v } : QS).lst := by
  refine q.set_link h (by omega) _ _ (by simp [QS.link, fup]) (fun r' t' hn hr => ?_) rfl rfl rfl
  unfold QS.link; split <;> first | rfl | exact congrArg (Value.int .i64) (fup_ne _ _ (fun ht => hn ⟨rfl, ht⟩))
theorem QS.set_mask (h : t < 256) (v : Int) : q.lst.set (256 + t * 5 + 3) (.int .i64 v) = ({ q with mask := fup q.mask t v } : QS).lst := by
  refine q.set_link h (by omega) _ _ (by simp [QS.link, fup]) (fun r' t' hn hr => ?_) rfl rfl rfl
  unfold QS.link; split <;> first | rfl | exact congrArg (Value.int .i64) (fup_ne _ _ (fun ht => hn ⟨rfl, ht⟩))
theorem QS.set_inn (h : t < 256) (v : Bool) : q.lst.set (256 + t * 5 + 4) (.bool v) = ({ q with inn := fup q.inn t v } : QS).lst := by
  refine q.set_link h (by omega) _ _ (by simp [QS.link, fup]) (fun r' t' hn hr => ?_) rfl rfl rfl
  have h5 : r' = 0 ∨ r' = 1 ∨ r' = 2 ∨ r' = 3 ∨ r' = 4 := by omega
  rcases h5 with rfl | rfl | rfl | rfl | rfl
  · rfl
  · rfl
  · rfl
  · rfl
  · exact congrArg Value.bool (fup_ne _ _ (fun ht => hn ⟨rfl, ht⟩))
theorem QS.set_word (h : t < 4) (v : Nat) : q.lst.set (1536 + t) (.int .u64 (v : Int)) = ({ q with words := fup q.words t v } : QS).lst := by
  refine q.set _ (by omega) ?_ fun j hj hne => ?_
  · rw [QS.cell_word _ h]; simp [fup]
  · simp only [QS.cell, QS.link]
    by_cases h1 : j < 1536
    · simp only [h1, if_true]
    · have : ¬ (j - 1536 = t) := by omega
      simp only [h1, if_false, fup, this]
theorem QS.set_n (v : Int) : q.lst.set 1540 (.int .i64 v) = ({ q with n := v } : QS).lst := by
  refine q.set _ (by omega) ?_ fun j hj hne => ?_
  · rw [QS.cell_n]
  · simp only [QS.cell, QS.link]
    have : j < 1540 := by omega
    simp only [this, if_true]
end
/-- Block b holds the queue of numbers q. -/
def QB (w : World) (b : Nat) (q : QS) : Prop := Blk w b 54 q.lst
section
variable {w : World} {b : Nat} {q : QS} {t : Nat} {K : VK} {v : Int}
theorem ld_first (h : QB w b q) (ht : t < 256) (k : K (.int .i64 (q.first t)) w) : ld1 (.pointer (some ⟨b, t, none⟩)) K w := ld1_blk h ((q.get (by omega)).trans (by rw [q.cell_first ht])) k
theorem ld_prev (h : QB w b q) (ht : t < 256) (k : K (.int .i64 (q.prev t)) w) : ld1 (.pointer (some ⟨b, 256 + t * 5, none⟩)) K w := ld1_blk h ((q.get (by omega)).trans (congrArg some (q.cell_link (r := 0) ht (by omega)))) k
theorem ld_next (h : QB w b q) (ht : t < 256) (k : K (.int .i64 (q.next t)) w) : ld1 (.pointer (some ⟨b, 256 + t * 5 + 1, none⟩)) K w := ld1_blk h ((q.get (by omega)).trans (congrArg some (q.cell_link ht (by omega)))) k
theorem ld_prio (h : QB w b q) (ht : t < 256) (k : K (.int .i64 (q.prio t)) w) : ld1 (.pointer (some ⟨b, 256 + t * 5 + 2, none⟩)) K w := ld1_blk h ((q.get (by omega)).trans (congrArg some (q.cell_link ht (by omega)))) k
theorem ld_mask (h : QB w b q) (ht : t < 256) (k : K (.int .i64 (q.mask t)) w) : ld1 (.pointer (some ⟨b, 256 + t * 5 + 3, none⟩)) K w := ld1_blk h ((q.get (by omega)).trans (congrArg some (q.cell_link ht (by omega)))) k
theorem ld_inn (h : QB w b q) (ht : t < 256) (k : K (.bool (q.inn t)) w) : ld1 (.pointer (some ⟨b, 256 + t * 5 + 4, none⟩)) K w := ld1_blk h ((q.get (by omega)).trans (congrArg some (q.cell_link ht (by omega)))) k
theorem ld_word (h : QB w b q) (ht : t < 4) (k : K (.int .u64 (q.words t)) w) : ld1 (.pointer (some ⟨b, 1536 + t, none⟩)) K w := ld1_blk h ((q.get (by omega)).trans (by rw [q.cell_word ht])) k
theorem ld_n (h : QB w b q) (k : K (.int .i64 q.n) w) : ld1 (.pointer (some ⟨b, 1540, none⟩)) K w := ld1_blk h ((q.get (by omega)).trans (by rw [q.cell_n])) k
theorem st_first (h : QB w b q) (ht : t < 256) (k : ∀ w', QB w' b { q with first := fup q.first t v } → Ext [b] w w' → K undef w') : st1 (.pointer (some ⟨b, t, none⟩)) (.int .i64 v) K w :=
  st1_blk h (by rw [q.length]; omega) rfl fun w' hb => k w' (by rw [q.set_first ht] at hb; exact hb)
theorem st_prev (h : QB w b q) (ht : t < 256) (k : ∀ w', QB w' b { q with prev := fup q.prev t v } → Ext [b] w w' → K undef w') : st1 (.pointer (some ⟨b, 256 + t * 5, none⟩)) (.int .i64 v) K w :=
  st1_blk h (by rw [q.length]; omega) rfl fun w' hb => k w' (by rw [q.set_prev ht] at hb; exact hb)
theorem st_next (h : QB w b q) (ht : t < 256) (k : ∀ w', QB w' b { q with next := fup q.next t v } → Ext [b] w w' → K undef w') : st1 (.pointer (some ⟨b, 256 + t * 5 + 1, none⟩)) (.int .i64 v) K w :=
  st1_blk h (by rw [q.length]; omega) rfl fun w' hb => k w' (by rw [q.set_next ht] at hb; exact hb)
theorem st_prio (h : QB w b q) (ht : t < 256) (k : ∀ w', QB w' b { q with prio := fup q.prio t v } → Ext [b] w w' → K undef w') : st1 (.pointer (some ⟨b, 256 + t * 5 + 2, none⟩)) (.int .i64 v) K w :=
  st1_blk h (by rw [q.length]; omega) rfl fun w' hb => k w' (by rw [q.set_prio ht] at hb; exact hb)
theorem st_mask (h : QB w b q) (ht : t < 256) (k : ∀ w', QB w' b { q with mask := fup q.mask t v } → Ext [b] w w' → K undef w') : st1 (.pointer (some ⟨b, 256 + t * 5 + 3, none⟩)) (.int .i64 v) K w :=
  st1_blk h (by rw [q.length]; omega) rfl fun w' hb => k w' (by rw [q.set_mask ht] at hb; exact hb)
theorem st_inn {v : Bool} (h : QB w b q) (ht : t < 256) (k : ∀ w', QB w' b { q with inn := fup q.inn t v } → Ext [b] w w' → K undef w') : st1 (.pointer (some ⟨b, 256 + t * 5 + 4, none⟩)) (.bool v) K w :=
  st1_blk h (by rw [q.length]; omega) rfl fun w' hb => k w' (by rw [q.set_inn ht] at hb; exact hb)
theorem st_word {v : Nat} (h : QB w b q) (ht : t < 4) (k : ∀ w', QB w' b { q with words := fup q.words t v } → Ext [b] w w' → K undef w') : st1 (.pointer (some ⟨b, 1536 + t, none⟩)) (.int .u64 (v : Int)) K w :=
  st1_blk h (by rw [q.length]; omega) rfl fun w' hb => k w' (by rw [q.set_word ht] at hb; exact hb)
theorem st_n (h : QB w b q) (k : ∀ w', QB w' b { q with n := v } → Ext [b] w w' → K undef w') : st1 (.pointer (some ⟨b, 1540, none⟩)) (.int .i64 v) K w :=
  st1_blk h (by rw [q.length]; omega) rfl fun w' hb => k w' (by rw [q.set_n] at hb; exact hb)
end
end Go.Proofs.Yticnobfmpogcoaa.Den
