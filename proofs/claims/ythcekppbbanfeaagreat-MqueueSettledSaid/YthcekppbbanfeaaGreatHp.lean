/- Blocks of memory read as lists, what a piece of a run may have changed, and the steps of the denotation in these words. Conditions: none. -/
import Derived.Test.YthcekppbbanfeaaGreatDenCode
import Derived.Below
set_option linter.unusedVariables false
set_option linter.unusedSimpArgs false
namespace Go.Proofs.YthcekppbbanfeaaGreat.Den
open Go Go.RowKit

/-- Block b holds the cells l. -/
def Blk (w : World) (b : Nat) (t : TypeId) (l : List Value) : Prop := w.heap[b]? = some (.cells ⟨l⟩ t (0, 0))
/-- w' is w; but the blocks of S may have changed, and there may be new blocks. -/
structure Ext (S : List Nat) (w w' : World) : Prop where
  os : w'.os = w.os
  tape : w'.tape = w.tape
  output : w'.output = w.output
  size : w.heap.size ≤ w'.heap.size
  block : ∀ k, k < w.heap.size → k ∉ S → w'.heap[k]? = w.heap[k]?
  drawn : w.drawn ≤ w'.drawn
section
variable {w w' w'' : World} {b b' : Nat} {t t' : TypeId} {l l' : List Value} {S S' : List Nat}
theorem Ext.refl (S : List Nat) (w : World) : Ext S w w := ⟨rfl, rfl, rfl, Nat.le_refl _, fun _ _ _ => rfl, Nat.le_refl _⟩
theorem Ext.mono (h : Ext S w w') (hs : ∀ k, k ∈ S → k < w.heap.size → k ∈ S') : Ext S' w w' :=
  ⟨h.os, h.tape, h.output, h.size, fun k hk hn => h.block k hk fun hm => hn (hs k hm hk), h.drawn⟩
theorem Ext.trans (h : Ext S w w') (h' : Ext S w' w'') : Ext S w w'' :=
  ⟨h'.os.trans h.os, h'.tape.trans h.tape, h'.output.trans h.output, Nat.le_trans h.size h'.size, fun k hk hn => (h'.block k (Nat.lt_of_lt_of_le hk h.size) hn).trans (h.block k hk hn), Nat.le_trans h.drawn h'.drawn⟩
/-- One part after the other, with blocks of their own. -/
theorem Ext.then (h : Ext S w w') (h' : Ext S' w' w'') {S2 : List Nat} (h1 : ∀ k, k ∈ S → k < w.heap.size → k ∈ S2) (h2 : ∀ k, k ∈ S' → k < w.heap.size → k ∈ S2) : Ext S2 w w'' :=
  ⟨h'.os.trans h.os, h'.tape.trans h.tape, h'.output.trans h.output, Nat.le_trans h.size h'.size, fun k hk hn =>
    (h'.block k (Nat.lt_of_lt_of_le hk h.size) fun hm => hn (h2 k hm hk)).trans (h.block k hk fun hm => hn (h1 k hm hk)), Nat.le_trans h.drawn h'.drawn⟩
theorem Ext.drew (S : List Nat) (w : World) : Ext S w w.drew := ⟨rfl, rfl, rfl, Nat.le_refl _, fun _ _ _ => rfl, Nat.le_succ _⟩
theorem Ext.alloc (S : List Nat) (w : World) (o : Obj) : Ext S w (w.alloc o) :=
  ⟨rfl, rfl, rfl, by simp, fun k hk _ => Below.heap_alloc _ _ _ hk, Nat.le_refl _⟩
theorem Ext.setCell (w : World) (a : Addr) (v : Value) : Ext [a.block] w (w.setCell a v) :=
  ⟨rfl, rfl, rfl, by simp, fun k _ hn => Below.heap_setCell _ _ _ _ (by simpa using hn), Nat.le_refl _⟩
theorem Ext.below {B : Nat} (h : Ext S w w') (hB : B ≤ w.heap.size) (hS : ∀ k, k ∈ S → B ≤ k) : Below B w w' :=
  ⟨h.os, h.tape, h.output, h.size, fun k hk => h.block k (by omega) fun hm => by have := hS k hm; omega⟩
theorem Blk.lt (h : Blk w b t l) : b < w.heap.size := by
  unfold Blk at h; exact (Array.getElem?_eq_some_iff.1 h).1
theorem Blk.ext (h : Blk w b t l) (he : Ext S w w') (hn : b ∉ S) : Blk w' b t l := by
  have hl := h.lt
  unfold Blk at *; rw [he.block b hl hn]; exact h
theorem Blk.inj (h : Blk w b t l) (h' : Blk w b t' l') : t = t' ∧ l = l' := by
  unfold Blk at *; rw [h] at h'; simp at h'; exact ⟨h'.2, h'.1⟩
theorem Blk.drew (h : Blk w b t l) : Blk w.drew b t l := h
theorem Blk.cell (h : Blk w b t l) (o : Nat) : w.cell? ⟨b, o, none⟩ = l[o]? := by
  unfold Blk at h; simp [World.cell?, h]
theorem Blk.frozen (h : Blk w b t l) (o : Nat) : w.frozen? ⟨b, o, none⟩ = false := by
  unfold Blk at h; simp [World.frozen?, h]
theorem Blk.setCell (h : Blk w b t l) (o : Nat) (v : Value) : Blk (w.setCell ⟨b, o, none⟩ v) b t (l.set o v) := by
  unfold Blk at *
  simp [World.setCell, Array.getElem?_modify, h]
theorem Blk.new (w : World) (t : TypeId) (l : Array Value) : Blk (w.alloc (.cells l t)) w.heap.size t l.toList := by
  show (w.heap.push _)[w.heap.size]? = _
  simp
theorem add_mk (b o n : Nat) : (⟨b, o, none⟩ : Addr).add n = ⟨b, o + n, none⟩ := by
  unfold Addr.add; split
  · rename_i h; simp [h]
  · rfl
theorem Blk.cellsAt (h : Blk w b t l) : ∀ (n o i : Nat), o + i + n ≤ l.length → cellsAt w ⟨b, o, none⟩ i n = some ((l.drop (o + i)).take n)
  | 0, o, i, _ => by simp [Den.cellsAt]
  | n + 1, o, i, hle => by
    have hlt : o + i < l.length := by omega
    have ih := Blk.cellsAt h n o (i + 1) (by omega)
    simp only [Den.cellsAt, add_mk, h.cell, List.getElem?_eq_getElem hlt, ih]
    rw [List.drop_eq_getElem_cons hlt, List.take_succ_cons]; rfl
end

/-! ### steps -/
section
variable {w : World} {b : Nat} {t : TypeId} {l : List Value} {K : VK} {R : ER}
theorem pv_some (v : Value) (K : VK) : pv (some v) K = K v := Eq.symm (Eq.symm rfl)
theorem nilO_ptr (a : Addr) : nilO (.pointer (some a)) = some (.pointer (some a)) := rfl
theorem faO_mk (n b o : Nat) : faO n (.pointer (some ⟨b, o, none⟩)) = some (.pointer (some ⟨b, o + n, none⟩)) := by simp [faO, add_mk]
theorem ixA_mk {n sz b o j : Nat} {k : IntKind} (h : j < n) : ixA n sz (.pointer (some ⟨b, o, none⟩)) (.int k (j : Int)) = some (.pointer (some ⟨b, o + j * sz, none⟩)) := by
  simp only [ixA, add_mk]; rw [if_pos (by omega)]; simp
theorem ixS_mk {n sz b o c j : Nat} {k : IntKind} (h : j < n) : ixS sz (.slice (some ⟨b, o, none⟩) n c) (.int k (j : Int)) = some (.pointer (some ⟨b, o + j * sz, none⟩)) := by
  simp only [ixS, add_mk]; rw [if_pos (by omega)]; simp
theorem gd_yes {F : VK → WP} {K : VK} : gd (.bool true) true F K = F K := Eq.symm (Eq.symm rfl)
theorem gd_no {F : VK → WP} {K : VK} : gd (.bool false) true F K = K undef := Eq.symm (Eq.symm rfl)
theorem gd_yes' {F : VK → WP} {K : VK} : gd (.bool false) false F K = F K := Eq.symm (Eq.symm rfl)
theorem gd_no' {F : VK → WP} {K : VK} : gd (.bool true) false F K = K undef := Eq.symm (Eq.symm rfl)
theorem cnd_true {A B : WP} : cnd (.bool true) A B = A := Eq.symm (Eq.symm rfl)
theorem cnd_false {A B : WP} : cnd (.bool false) A B = B := Eq.symm (Eq.symm rfl)
theorem cnd_decide {p : Prop} [Decidable p] {A B : WP} {w : World} (h1 : p → A w) (h2 : ¬p → B w) : cnd (.bool (decide p)) A B w := by
  by_cases h : p
  · simp only [h, decide_true]; exact h1 h
  · simp only [h, decide_false]; exact h2 h
theorem pick_true (a b : Value) : pickO (.bool true) a b = some a := rfl
theorem pick_false (a b : Value) : pickO (.bool false) a b = some b := rfl
theorem not_bool (b : Bool) : unO .not (.bool b) = some (.bool !b) := rfl
theorem bin_add (k : IntKind) (a b : Int) : bin .add (.int k a) (.int k b) = some (.int k (k.wrap (a + b))) := by simp [bin]
theorem bin_sub (k : IntKind) (a b : Int) : bin .sub (.int k a) (.int k b) = some (.int k (k.wrap (a - b))) := by simp [bin]
theorem bin_mul (k : IntKind) (a b : Int) : bin .mul (.int k a) (.int k b) = some (.int k (k.wrap (a * b))) := by simp [bin]
theorem bin_eql (k : IntKind) (a b : Int) : bin .eql (.int k a) (.int k b) = some (.bool (decide (a = b))) := by
  simp only [bin, if_true]; rfl
theorem bin_neq (k : IntKind) (a b : Int) : bin .neq (.int k a) (.int k b) = some (.bool (decide (a ≠ b))) := by
  simp only [bin, if_true]; congr 2; rw [Bool.eq_iff_iff]; simp
theorem bin_lss (k : IntKind) (a b : Int) : bin .lss (.int k a) (.int k b) = some (.bool (decide (a < b))) := by simp [bin]
theorem bin_leq (k : IntKind) (a b : Int) : bin .leq (.int k a) (.int k b) = some (.bool (decide (a ≤ b))) := by simp [bin]
theorem bin_gtr (k : IntKind) (a b : Int) : bin .gtr (.int k a) (.int k b) = some (.bool (decide (b < a))) := by simp [bin]
theorem bin_geq (k : IntKind) (a b : Int) : bin .geq (.int k a) (.int k b) = some (.bool (decide (b ≤ a))) := by simp [bin]
theorem bin_quo {k : IntKind} {a b : Int} (h : b ≠ 0) : bin .quo (.int k a) (.int k b) = some (.int k (k.wrap (a.tdiv b))) := by simp [bin, h]
theorem bin_rem {k : IntKind} {a b : Int} (h : b ≠ 0) : bin .rem (.int k a) (.int k b) = some (.int k (a.tmod b)) := by simp [bin, h]
theorem ext0 (a : Value) (l : List Value) : extO 0 (.tuple ⟨a :: l⟩) = some a := by simp [extO]
theorem ext1 (a b : Value) (l : List Value) : extO 1 (.tuple ⟨a :: b :: l⟩) = some b := by simp [extO]
theorem ext2 (a b c : Value) (l : List Value) : extO 2 (.tuple ⟨a :: b :: c :: l⟩) = some c := by simp [extO]
theorem lenS_mk (a : Option Addr) (n c : Nat) : lenS (.slice a n c) = some (.int .i64 n) := rfl
theorem eqNil_none : eqNilP (.pointer none) = some (.bool true) := rfl
theorem eqNil_some (a : Addr) : eqNilP (.pointer (some a)) = some (.bool false) := rfl
theorem neNil_none : neNilP (.pointer none) = some (.bool false) := rfl
theorem neNil_some (a : Addr) : neNilP (.pointer (some a)) = some (.bool true) := rfl
theorem wrap64_id {a : Int} (h1 : -9223372036854775808 ≤ a) (h2 : a ≤ 9223372036854775807) : IntKind.i64.wrap a = a := by
  have e1 : (2 ^ IntKind.i64.bits : Int) = 18446744073709551616 := by decide
  have e2 : (2 ^ (IntKind.i64.bits - 1) : Int) = 9223372036854775808 := by decide
  simp only [IntKind.wrap, e1, e2, IntKind.signed, Bool.true_and, decide_eq_true_eq]
  split <;> omega
theorem ld1_blk {o : Nat} {v : Value} (h : Blk w b t l) (hv : l[o]? = some v) (k : K v w) : ld1 (.pointer (some ⟨b, o, none⟩)) K w := by
  simp only [ld1, h.cell, hv]; exact k
theorem ldN_blk {n o : Nat} (h : Blk w b t l) (hle : o + n ≤ l.length) (k : K (.agg ((l.drop o).take n).toArray) w) : ldN n (.pointer (some ⟨b, o, none⟩)) K w := by
  simp only [ldN, h.cellsAt n o 0 (by omega)]; exact k
theorem st1_blk {o : Nat} {v : Value} (h : Blk w b t l) (ho : o < l.length) (hv : scalar v = true) (k : ∀ w', Blk w' b t (l.set o v) → Ext [b] w w' → K undef w') :
    st1 (.pointer (some ⟨b, o, none⟩)) v K w := by
  refine ⟨hv, ?_, h.frozen o, k _ (h.setCell o v) (Ext.setCell w ⟨b, o, none⟩ v)⟩
  rw [h.cell, List.getElem?_eq_getElem ho]; rfl
/-- Cells laid into a list from a place on. -/
def lay (l : List Value) (o : Nat) (cs : List Value) : List Value := l.take o ++ cs ++ l.drop (o + cs.length)
theorem lay_nil (l : List Value) (o : Nat) : lay l o [] = l := by simp [lay]
theorem lay_cons {l : List Value} {o : Nat} {c : Value} {cs : List Value} (h : o < l.length) : lay (l.set o c) (o + 1) cs = lay l o (c :: cs) := by
  unfold lay
  have e1 : (l.set o c).take (o + 1) = l.take o ++ [c] := by
    rw [List.take_add_one, List.take_set_of_le (by omega)]; simp [h]
  have e2 : (l.set o c).drop (o + 1 + cs.length) = l.drop (o + (c :: cs).length) := by
    rw [List.drop_set_of_lt (by omega)]; congr 1; simp; omega
  rw [e1, e2]; simp
theorem stCells_blk {G : WP} : ∀ (cs : List Value) (o i : Nat) (w : World) (l : List Value), Blk w b t l → o + i + cs.length ≤ l.length → (∀ c ∈ cs, scalar c = true) →
    (∀ w', Blk w' b t (lay l (o + i) cs) → Ext [b] w w' → G w') → stCells ⟨b, o, none⟩ cs i G w
  | [], o, i, w, l, h, hle, hs, k => k w (by rw [lay_nil]; exact h) (Ext.refl _ _)
  | c :: cs, o, i, w, l, h, hle, hs, k => by
    simp only [List.length_cons] at hle
    have hlt : o + i < l.length := by omega
    refine ⟨hs c (List.mem_cons_self ..), ?_, ?_, ?_⟩
    · rw [add_mk, h.cell, List.getElem?_eq_getElem hlt]; rfl
    · rw [add_mk]; exact h.frozen _
    · rw [add_mk]
      refine stCells_blk cs o (i + 1) _ _ (h.setCell (o + i) c) (by simp; omega) (fun c' hc' => hs c' (List.mem_cons_of_mem _ hc')) fun w' hb he => ?_
      refine k w' ?_ ((Ext.setCell w ⟨b, o + i, none⟩ c).trans he)
      rw [← lay_cons hlt]; exact hb
theorem stN_blk {o n : Nat} {cs : Array Value} (h : Blk w b t l) (hn : cs.size = n) (hle : o + n ≤ l.length) (hs : ∀ c ∈ cs.toList, scalar c = true)
    (k : ∀ w', Blk w' b t (lay l o cs.toList) → Ext [b] w w' → K undef w') : stN n (.pointer (some ⟨b, o, none⟩)) (.agg cs) K w := by
  refine ⟨hn, stCells_blk cs.toList o 0 w l h (by simp; omega) hs fun w' hb he => k w' (by simpa using hb) he⟩
theorem bx_blk {v : Value} (k : ∀ w', Blk w' w.heap.size t v.cells.toList → Ext [] w w' → w'.heap.size = w.heap.size + 1 → K (.pointer (some ⟨w.heap.size, 0, none⟩)) w') : bx t v K w :=
  k _ (Blk.new w t v.cells) (Ext.alloc [] w _) (by simp)
theorem al_blk {P : Program} {z : Value} (hz : (P.info? t).bind (·.zero) = some z)
    (k : ∀ w', Blk w' w.heap.size t z.cells.toList → Ext [] w w' → w'.heap.size = w.heap.size + 1 → K (.pointer (some ⟨w.heap.size, 0, none⟩)) w') : al P t K w := by
  unfold al; rw [hz]; exact k _ (Blk.new w t z.cells) (Ext.alloc [] w _) (by simp)
theorem ret_k {R : ER} {K : VK} {v : Value} {w : World} : retK R K (.returned v) w = K v w := Eq.symm (Eq.symm rfl)
theorem cal_of {P : Program} {f : FuncId} {args : Array Value} {Q : ER} (h : Calls P f args w Q) (k : ∀ e w', Q e w' → retK R K e w') : cal P R f args K w := h.mono k
theorem ret_eq {R : ER} {v v' : Value} {w : World} (h : R (.returned v) w) (e : v = v') : R (.returned v') w := e ▸ h
end
end Go.Proofs.YthcekppbbanfeaaGreat.Den
