/- Slices that the run has laid itself, in chunks: append, make, literals. Conditions: none. -/
import Derived.Test.YthcekppbbanfeaaGreatHo
set_option linter.unusedVariables false
set_option linter.unusedSimpArgs false
set_option maxRecDepth 8000
namespace Go.Proofs.YthcekppbbanfeaaGreat.Den
open Go Go.RowKit
structure ElT (T el sz : Nat) (bts : Nat) (z : List Value) : Prop where
  under : Pg.underlying T = some (.slice el)
  info : (Pg.info? el).map (fun i => (i.size, i.bytes, i.zero.map (fun z => z.cells.toList))) = some (sz, bts, some z)
  len : z.length = sz
theorem ElT.parts {T el sz bts : Nat} {z : List Value} (h : ElT T el sz bts z) : ∃ i zv, Pg.info? el = some i ∧ i.size = sz ∧ i.bytes = bts ∧ i.zero = some zv ∧ zv.cells.toList = z := by
  have h1 := h.info
  cases hi : Pg.info? el with
  | none => simp [hi] at h1
  | some i =>
    simp only [hi, Option.map_some, Option.some.injEq, Prod.mk.injEq] at h1
    cases hz : i.zero with
    | none => simp [hz] at h1
    | some zv => simp only [hz, Option.map_some, Option.some.injEq] at h1; exact ⟨i, zv, rfl, h1.1, h1.2.1, hz, h1.2.2⟩
/-- s has n elements (of sz cells each), the cells xs; they begin the chunk cs (none where it has no room). -/
def Sl (el sz : Nat) (s : Value) (n : Nat) (xs : List Value) (cs : List Chunk) : Prop :=
  (cs = [] ∧ (∃ a, s = .slice a 0 0) ∧ n = 0 ∧ xs = []) ∨ ∃ b cap rest, cs = [⟨b, el, xs ++ rest⟩] ∧ s = .slice (some ⟨b, 0, none⟩) n cap ∧ xs.length = n * sz ∧ n ≤ cap ∧ rest.length = (cap - n) * sz
section
variable {w w' : World} {w0 : World} {T el sz bts n m : Nat} {z xs ys : List Value} {s src : Value} {cs F L : List Chunk} {K : VK} {R : ER}
theorem Sl.nil : Sl el sz (.slice none 0 0) 0 [] [] := .inl ⟨rfl, ⟨none, rfl⟩, rfl, rfl⟩
theorem Sl.length (h : Sl el sz s n xs cs) : xs.length = n * sz := by
  rcases h with ⟨_, _, rfl, rfl⟩ | ⟨b, cap, rest, rfl, rfl, h1, h2, h3⟩
  · simp
  · exact h1
theorem Sl.rdL (h : Sl el sz s n xs cs) (hL : ∀ c ∈ cs, c ∈ L) : RdL w0 L sz s n xs := by
  rcases h with ⟨_, ⟨a, rfl⟩, rfl, rfl⟩ | ⟨b, cap, rest, rfl, rfl, h1, h2, h3⟩
  · cases a with
    | none => exact .inl (.inl ⟨0, rfl, by simp, rfl⟩)
    | some a => exact .inl (.inr ⟨a, 0, rfl, Nat.le_refl _, by rw [Nat.zero_mul]; rfl⟩)
  · exact .inr ⟨b, 0, cap, el, xs ++ rest, rfl, h2, ⟨hL _ (by simp), rfl⟩, by simp; omega, by simp [← h1]⟩
theorem lenS_sl (h : Sl el sz s n xs cs) : lenS s = some (I n) := by
  rcases h with ⟨_, ⟨a, rfl⟩, rfl, rfl⟩ | ⟨b, cap, rest, rfl, rfl, h1, h2, h3⟩ <;> rfl
theorem grow_le (need : Nat) : ∀ (r c : Nat), c ≤ 2 * need + 1000 → Builtin.growBy need r c ≤ 2 * need + 1000
  | 0, c, h => h
  | r + 1, c, h => by
    unfold Builtin.growBy; split
    · exact h
    · exact grow_le need r _ (by omega)
theorem next_le {need cap : Nat} (h : cap < need) : Builtin.nextslicecap need cap ≤ 2 * need + 1000 := by
  unfold Builtin.nextslicecap; split
  · omega
  · split
    · omega
    · exact grow_le need 4 cap (by omega)
theorem run_typeInfo {P : Program} {t : Nat} {i : TypeInfo} (h : P.info? t = some i) : (typeInfo t).run P w = .ok i w := by
  simp [typeInfo, program, Sem.run, h, Sem.run_bind, Result.andThen]
theorem run_storeCells_blk {P : Program} {b : Nat} {el : Nat} : ∀ (cs : List Value) (o i : Nat) (w : World) (l : List Value), Blk w b el l → o + i + cs.length ≤ l.length → (∀ c ∈ cs, scalar c = true) →
    ∃ w', (storeCells ⟨b, o, none⟩ cs i).run P w = .ok () w' ∧ Blk w' b el (lay l (o + i) cs) ∧ Ext [b] w w' := by
  intro cs o i w l hb hle hs
  have : stCells ⟨b, o, none⟩ cs i (fun w' => Blk w' b el (lay l (o + i) cs) ∧ Ext [b] w w') w := stCells_blk cs o i w l hb hle hs fun w' h1 h2 => ⟨h1, h2⟩
  obtain ⟨w', h1, h2⟩ := run_stCells (P := P) cs i w this
  exact ⟨w', h1, h2⟩
theorem zeroCells_size (z : Array Value) (k : Nat) : (Builtin.zeroCells z k).size = k * z.size := by simp [Builtin.zeroCells]
theorem cellsAt_zero {w : World} {a : Addr} {i : Nat} : cellsAt w a i 0 = some [] := rfl
/-- append onto a slice of the run's own; a chunk stays one. -/
theorem append_h' (hT : ElT T el sz bts z) (H : Hp w0 w (cs ++ F)) (hs : Sl el sz s n xs cs) (hsrc : RdL w0 (cs ++ F) sz src m ys) (hsc : ∀ c ∈ ys, scalar c = true)
    (hsize : (2 * (n + m) + 1000) * bts ≤ 2 ^ 48) (hnm : n + m < 2 ^ 62) {ty : Nat} {cc : Array Bool}
    (k : ∀ w' s' cs', Hp w0 w' (cs' ++ F) → Sl el sz s' (n + m) (xs ++ ys) cs' → ((cs = [] ∧ m = 0) ∨ ∃ c, cs' = [c]) → K s' w') : blt Pg R .append ⟨[T, T]⟩ ty cc ⟨[s, src]⟩ K w := by
  suffices hh : ∃ s' w' cs', (Builtin.append_ #[T, T] ty #[s, src]).run Pg w = .ok s' w' ∧ Hp w0 w' (cs' ++ F) ∧ Sl el sz s' (n + m) (xs ++ ys) cs' ∧ ((cs = [] ∧ m = 0) ∨ ∃ c, cs' = [c]) by
    obtain ⟨s', w', cs', h1, h2, h3, h4⟩ := hh
    unfold blt semV
    have : (builtin .append ⟨[T, T]⟩ ty cc ⟨[s, src]⟩).run Pg w = .ok (.value s') w' := run_value h1
    rw [this]
    exact k w' s' cs' h2 h3 h4
  have hrd := hsrc.rd H
  obtain ⟨i, zv, hi, hi1, hi2, hi3, hi4⟩ := hT.parts
  have hsz : szO Pg el = some sz := by simp [szO, hi, hi1]
  have hz : (Pg.info? el).bind (·.zero) = some zv := by simp [hi, hi3]
  have hlen := hrd.length
  have hxl := hs.length
  obtain ⟨base, cap, hsv, hncap⟩ : ∃ base cap, s = .slice base n cap ∧ (n ≤ cap) := by
    rcases hs with ⟨_, ⟨a, rfl⟩, rfl, rfl⟩ | ⟨b, cap, rest, rfl, rfl, h1, h2, h3⟩
    · exact ⟨a, 0, rfl, Nat.le_refl _⟩
    · exact ⟨_, cap, rfl, h2⟩
  have hu := fun w => run_underlying' (P := Pg) (w := w) hT.under
  have hss := fun w => run_sizeOf' (P := Pg) (w := w) hsz
  have ht := fun w => run_typeInfo (w := w) (P := Pg) hi
  have hzv := fun w => run_zeroValue' (P := Pg) (w := w) hz
  have hfs := run_firstCells (P := Pg) hrd
  have hlo := run_lenOf (P := Pg) hrd
  by_cases hc : n + m ≤ cap
  · have hopen : (Builtin.append_ #[T, T] ty #[s, src]).run Pg w = (do
        if let some a := base then storeCells (a.add (n * sz)) ys
        pure (.slice base (n + m) cap) : Sem Value).run Pg w := by
      unfold Builtin.append_
      subst hsv
      simp [Sem.run_bind, hu, Result.andThen, hss, hlo, hc, hfs]
      cases base <;> rfl
    rw [hopen]
    rcases hs with ⟨rfl, ⟨a, h1⟩, rfl, rfl⟩ | ⟨b, cap', rest, rfl, h1, h3, h4, h5⟩
    · rw [hsv] at h1
      injection h1 with h1 h2 h3
      subst h1; subst h3
      obtain rfl : m = 0 := by omega
      have hy : ys = [] := by simpa using hlen
      subst hy
      refine ⟨.slice base 0 0, w, [], ?_, H, .inl ⟨rfl, ⟨base, rfl⟩, rfl, rfl⟩, .inl ⟨rfl, rfl⟩⟩
      cases base <;> rfl
    · rw [hsv] at h1
      injection h1 with h1 h6 h7
      subst h1; subst h7
      have h2 := (H.blk ⟨b, el, xs ++ rest⟩ (by simp)).2
      have hle : n * sz + 0 + ys.length ≤ (xs ++ rest).length := by
        rw [List.length_append, h3, h5, hlen, Nat.add_zero, ← Nat.add_mul, ← Nat.add_mul]
        exact Nat.mul_le_mul_right _ (by omega)
      obtain ⟨w', g1, g2, g3⟩ := run_storeCells_blk (P := Pg) ys (n * sz) 0 w (xs ++ rest) h2 hle hsc
      have hlay : lay (xs ++ rest) (n * sz + 0) ys = xs ++ ys ++ rest.drop ys.length := by
        unfold lay
        rw [Nat.add_zero, ← h3, List.take_left, List.drop_append]
        simp
      rw [hlay] at g2
      refine ⟨.slice (some ⟨b, 0, none⟩) (n + m) cap, w', [⟨b, el, xs ++ ys ++ rest.drop ys.length⟩], ?_, ?_, .inr ⟨b, cap, rest.drop ys.length, rfl, rfl, by rw [List.length_append, h3, hlen, Nat.add_mul], hc, ?_⟩, .inr ⟨_, rfl⟩⟩
      · simp only [add_mk, Nat.zero_add]
        rw [Sem.run_bind, g1]; rfl
      · exact Hp.upd (c := ⟨b, el, xs ++ rest⟩) H g2 g3
      · rw [List.length_drop, h5, hlen, ← Nat.sub_mul]; congr 1; omega
  · have hb2 : ¬ (2 ^ 48 < Builtin.nextslicecap (n + m) cap * bts) := by
      have := next_le (need := n + m) (cap := cap) (by omega)
      have h2 := Nat.mul_le_mul_right bts this
      omega
    have hbz : ¬ (9223372036854775807 < (n : Int) + (m : Int) ∧ bts = 0) := by omega
    have hold : ∀ w1 : World, w1.heap = w.heap → (Builtin.firstCells sz n (.slice base n cap)).run Pg w1 = .ok xs.toArray w1 := by
      intro w1 h1
      refine run_firstCells ?_
      rw [← hsv]
      have hr : Rd w sz s n xs := (hs.rdL (w0 := w0) (L := cs ++ F) (fun c hc => List.mem_append_left _ hc)).rd H
      rcases hr with h | ⟨a, c, h, hmc, h2⟩
      · exact .inl h
      · exact .inr ⟨a, c, h, hmc, by rw [cellsAt_congr (w := w) (by rw [h1])]; exact h2⟩
    have hnew : ∀ w1 : World, w1.heap = w.heap → (Builtin.firstCells sz m src).run Pg w1 = .ok ys.toArray w1 := by
      intro w1 h1
      refine run_firstCells ?_
      rcases hrd with h | ⟨a, c, h, hmc, h2⟩
      · exact .inl h
      · exact .inr ⟨a, c, h, hmc, by rw [cellsAt_congr (w := w) (by rw [h1])]; exact h2⟩
    obtain ⟨newCap, hcap, hch⟩ : ∃ newCap, n + m ≤ newCap ∧ (choose (.appendCap (n + m) cap el)).run Pg w = .ok newCap w.drew := by
      refine ⟨_, ?_, rfl⟩
      simp only [Question.cut]; omega
    have hask : ∀ k w1, (askRoom k).run Pg w1 = .ok () w1 := by
      intro k w1; unfold askRoom; split <;> rfl
    have hzs : zv.cells.size = sz := by have := hT.len; rw [← hi4] at this; simpa using this
    have hHn := (H.to (L' := F) (fun f => by simp only [List.map_append, List.sum_append]; omega)).drew.new el (xs.toArray ++ ys.toArray ++ Builtin.zeroCells zv.cells (newCap - (n + m)))
    refine ⟨.slice (some ⟨w.heap.size, 0, none⟩) (n + m) newCap, w.drew.alloc (.cells (xs.toArray ++ ys.toArray ++ Builtin.zeroCells zv.cells (newCap - (n + m))) el), [⟨w.heap.size, el, (xs ++ ys) ++ (Builtin.zeroCells zv.cells (newCap - (n + m))).toList⟩], ?_, by simpa using hHn, ?_, .inr ⟨_, rfl⟩⟩
    · unfold Builtin.append_
      subst hsv
      simp [Sem.run_bind, hu, Result.andThen, hss, hlo, hc, ht, hi2, hbz, hb2, hch, hask, hold w.drew rfl, hnew w.drew rfl, hzv, newRow, newObj, Sem.run, World.alloc]
      congr 2; apply Array.ext'; simp
    · exact .inr ⟨_, newCap, _, rfl, rfl, by rw [List.length_append, hxl, hlen, Nat.add_mul], hcap, by rw [Array.length_toList, zeroCells_size, hzs]⟩
theorem append_h (hT : ElT T el sz bts z) (H : Hp w0 w (cs ++ F)) (hs : Sl el sz s n xs cs) (hsrc : RdL w0 (cs ++ F) sz src m ys) (hsc : ∀ c ∈ ys, scalar c = true)
    (hsize : (2 * (n + m) + 1000) * bts ≤ 2 ^ 48) (hnm : n + m < 2 ^ 62) {ty : Nat} {cc : Array Bool}
    (k : ∀ w' s' cs', Hp w0 w' (cs' ++ F) → Sl el sz s' (n + m) (xs ++ ys) cs' → K s' w') : blt Pg R .append ⟨[T, T]⟩ ty cc ⟨[s, src]⟩ K w :=
  append_h' hT H hs hsrc hsc hsize hnm fun w' s' cs' h1 h2 _ => k w' s' cs' h1 h2
/-- A slice written out. -/
theorem build_k {parts : List (Nat × Value)} {len : Nat} {r : List Value} (hT : ElT T el sz bts z) (hle : len * sz ≤ 2 ^ 24) (h0 : len * sz ≠ 0)
    (hr : buildL ((List.range (len * sz)).map fun x => z[x % sz]!) (parts.map fun p => (p.1 * sz, sz, p.2)) = some r)
    (k : ∀ w', Blk w' w.heap.size el r → Ext [] w w' → w'.heap.size = w.heap.size + 1 → K (.slice (some ⟨w.heap.size, 0, none⟩) len len) w') :
    valV Pg R (Instr.buildSlice T len ⟨parts⟩) K w := by
  obtain ⟨i, zv, hi, hi1, hi2, hi3, hi4⟩ := hT.parts
  have hsz : szO Pg el = some sz := by simp [szO, hi, hi1]
  have hz : (Pg.info? el).bind (·.zero) = some zv := by simp [hi, hi3]
  have hu := fun w => run_underlying' (P := Pg) (w := w) hT.under
  have hss := fun w => run_sizeOf' (P := Pg) (w := w) hsz
  have hzv := fun w => run_zeroValue' (P := Pg) (w := w) hz
  have hzs : zv.cells.size = sz := by have := hT.len; rw [← hi4] at this; simpa using this
  have hrun : (Instr.buildSlice T len ⟨parts⟩).run Pg w = .ok (.slice (some ⟨w.heap.size, 0, none⟩) len len) (w.alloc (.cells ⟨r⟩ el)) := by
    unfold Instr.buildSlice
    rw [Sem.run_bind, hu]
    simp only [Result.andThen, Sem.run_bind, hss]
    rw [if_neg (by omega)]
    simp only [h0, if_false, Sem.run_bind, hzv, Sem.run_pure, Result.andThen]
    have := fill_eq (fun i => some (i * sz, sz)) parts ((Array.range (len * sz)).map (fun x => zv.cells[x % zv.cells.size]!)) (parts.map fun p => (p.1 * sz, sz, p.2)) r (by simp) (by
      rw [← hr]; congr 1
      rw [hzs, ← hi4]
      simp only [Array.toList_map, Array.toList_range]
      apply List.map_congr_left
      intro a _
      rw [getElem!_def, getElem!_def, Array.getElem?_toList])
    rw [this]
    simp only [newRow, Sem.run_bind, newObj, Sem.run, Result.andThen]
    rfl
  unfold valV
  rw [hrun]
  exact k _ (Blk.new w el ⟨r⟩) (Ext.alloc _ _ _) (by simp)
/-- A slice of one element, written out. -/
theorem build1_k {v : Value} (hT : ElT T el sz bts z) (hv : v.cells.size = sz) (hsz1 : sz ≤ 2 ^ 24)
    (k : ∀ w', Blk w' w.heap.size el v.cells.toList → Ext [] w w' → w'.heap.size = w.heap.size + 1 → K (.slice (some ⟨w.heap.size, 0, none⟩) 1 1) w') :
    valV Pg R (Instr.buildSlice T 1 ⟨[(0, v)]⟩) K w := by
  obtain ⟨i, zv, hi, hi1, hi2, hi3, hi4⟩ := hT.parts
  have hsz : szO Pg el = some sz := by simp [szO, hi, hi1]
  have hz : (Pg.info? el).bind (·.zero) = some zv := by simp [hi, hi3]
  have hu := fun w => run_underlying' (P := Pg) (w := w) hT.under
  have hss := fun w => run_sizeOf' (P := Pg) (w := w) hsz
  have hzv := fun w => run_zeroValue' (P := Pg) (w := w) hz
  have hzs : zv.cells.size = sz := by have := hT.len; rw [← hi4] at this; simpa using this
  have hrun : (Instr.buildSlice T 1 ⟨[(0, v)]⟩).run Pg w = .ok (.slice (some ⟨w.heap.size, 0, none⟩) 1 1) (w.alloc (.cells v.cells el)) := by
    have hfill : ∀ zc : Array Value, zc.size = sz → Instr.fill (fun i => some (i * sz, sz)) zc [(0, v)] = some v.cells := by
      intro zc hzc
      have := fill_eq (fun i => some (i * sz, sz)) [(0, v)] zc [(0, sz, v)] v.cells.toList (by simp) (by
        simp only [buildL]
        rw [if_neg (by simp [hv, hzc])]
        congr 1
        have : zc.toList.length = sz := by simpa using hzc
        simp [← this])
      simpa using this
    have hd : ∀ (zc : Array Value), ((Array.range (1 * sz)).map (fun x => zc[x % zc.size]!)).size = sz := by intro zc; simp
    unfold Instr.buildSlice
    rw [Sem.run_bind, hu]
    simp only [Result.andThen, Sem.run_bind, hss]
    rw [if_neg (by omega)]
    by_cases h0 : 1 * sz = 0
    · simp only [h0, if_true, Sem.run_bind, Sem.run_pure, Result.andThen]
      rw [hfill _ (by simp; omega)]
      simp only [newRow, Sem.run_bind, newObj, Sem.run, Result.andThen]
      rfl
    · simp only [h0, if_false, Sem.run_bind, hzv, Sem.run_pure, Result.andThen]
      rw [hfill _ (hd _)]
      simp only [newRow, Sem.run_bind, newObj, Sem.run, Result.andThen]
      rfl
  unfold valV
  rw [hrun]
  exact k _ (Blk.new w el v.cells) (Ext.alloc _ _ _) (by simp)
end
end Go.Proofs.YthcekppbbanfeaaGreat.Den
