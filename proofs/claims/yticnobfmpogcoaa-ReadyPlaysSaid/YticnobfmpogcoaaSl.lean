/- Slices that a call has made itself, and what append does to them. Conditions: none. -/
import Derived.Test.YticnobfmpogcoaaHp
set_option linter.unusedVariables false
set_option linter.unusedSimpArgs false
set_option maxRecDepth 8000
namespace Go.Proofs.Yticnobfmpogcoaa.Den
open Go Go.RowKit
/-- A slice type's tables: its elements' type, their cells and bytes, the zero value's cells. -/
structure ElT (T el sz : Nat) (bts : Nat) (z : List Value) : Prop where
  under : Pg.underlying T = some (.slice el)
  info : (Pg.info? el).map (fun i => (i.size, i.bytes, i.zero.map (fun z => z.cells.toList))) = some (sz, bts, some z)
  len : z.length = sz
theorem ElT.parts {T el sz bts : Nat} {z : List Value} (h : ElT T el sz bts z) : ∃ i zv, Pg.info? el = some i ∧ i.size = sz ∧ i.bytes = bts ∧ i.zero = some zv ∧ zv.cells.toList = z := by
  have h1 := h.info
  cases hi : Pg.info? el with
  | none => simp [hi] at h1
  | some i =>
    simp only [hi, Option.map_some, Option.some.injEq, Prod.mk.injEq] at h1
    cases hz : i.zero with
    | none => simp [hz] at h1
    | some zv => simp only [hz, Option.map_some, Option.some.injEq] at h1; exact ⟨i, zv, rfl, h1.1, h1.2.1, hz, h1.2.2⟩
/-- s has n elements (of sz cells each), the cells xs; they begin block ob, which is the call's own. -/
def SL (w : World) (el sz : Nat) (s : Value) (n : Nat) (xs : List Value) : Option Nat → Prop
  | none => s = .slice none 0 0 ∧ n = 0 ∧ xs = []
  | some b => ∃ cap rest, s = .slice (some ⟨b, 0, none⟩) n cap ∧ Blk w b el (xs ++ rest) ∧ xs.length = n * sz ∧ n ≤ cap ∧ rest.length = (cap - n) * sz
/-- src has m elements, the cells ys, wherever they lie. -/
def Src (w : World) (sz : Nat) (src : Value) (m : Nat) (ys : List Value) : Prop :=
  (∃ c, src = .slice none m c ∧ m * sz = 0 ∧ ys = []) ∨ ∃ b o c el l, src = .slice (some ⟨b, o, none⟩) m c ∧ Blk w b el l ∧ o + m * sz ≤ l.length ∧ ys = (l.drop o).take (m * sz)
section
variable {w w' : World} {T el sz bts n m : Nat} {z xs ys : List Value} {s src : Value} {ob : Option Nat} {K : VK} {R : ER}
theorem SL.nil : SL w el sz (.slice none 0 0) 0 [] none := ⟨rfl, rfl, rfl⟩
theorem SL.ext (h : SL w el sz s n xs ob) {S : List Nat} (he : Ext S w w') (hn : ∀ b, ob = some b → b ∉ S) : SL w' el sz s n xs ob := by
  cases ob with
  | none => exact h
  | some b =>
    obtain ⟨cap, rest, h1, h2, h3⟩ := h
    exact ⟨cap, rest, h1, h2.ext he (hn b rfl), h3⟩
theorem SL.lt {b : Nat} (h : SL w el sz s n xs (some b)) : b < w.heap.size := by obtain ⟨_, _, _, h2, _⟩ := h; exact h2.lt
theorem SL.length (h : SL w el sz s n xs ob) : xs.length = n * sz := by
  cases ob with
  | none => obtain ⟨_, rfl, rfl⟩ := h; simp
  | some b => obtain ⟨_, _, _, _, h3, _⟩ := h; exact h3
theorem SL.toSrc (h : SL w el sz s n xs ob) : Src w sz s n xs := by
  cases ob with
  | none => obtain ⟨rfl, rfl, rfl⟩ := h; exact .inl ⟨0, rfl, by simp, rfl⟩
  | some b =>
    obtain ⟨cap, rest, rfl, h2, h3, _⟩ := h
    exact .inr ⟨b, 0, cap, el, _, rfl, h2, by simp [h3], by simp [← h3]⟩
theorem grow_le (need : Nat) : ∀ (r c : Nat), c ≤ 2 * need + 1000 → Builtin.growBy need r c ≤ 2 * need + 1000
  | 0, c, h => h
  | r + 1, c, h => by
    unfold Builtin.growBy; split
    · exact h
    · exact grow_le need r _ (by omega)
theorem next_le {need cap : Nat} (h : cap < need) : Builtin.nextslicecap need cap ≤ 2 * need + 1000 := by
  unfold Builtin.nextslicecap; split
  · omega
  · split
    · omega
    · exact grow_le need 4 cap (by omega)
theorem run_loadCells_blk {P : Program} {b o k : Nat} {el : Nat} {l : List Value} (h : Blk w b el l) (hle : o + k ≤ l.length) :
    (loadCells ⟨b, o, none⟩ k).run P w = .ok ((l.drop o).take k).toArray w := by
  have := run_loadCells (P := P) (w := w) (a := ⟨b, o, none⟩) k 0 #[] _ (h.cellsAt k o 0 (by omega))
  simpa [loadCells] using this
theorem run_firstCells {P : Program} (h : Src w sz src m ys) : (Builtin.firstCells sz m src).run P w = .ok ys.toArray w := by
  rcases h with ⟨c, rfl, _, rfl⟩ | ⟨b, o, c, el, l, rfl, hb, hle, rfl⟩
  · rfl
  · exact run_loadCells_blk hb hle
theorem run_lenOf {P : Program} (h : Src w sz src m ys) : (Builtin.lenOf src).run P w = .ok m w := by
  rcases h with ⟨c, rfl, _, rfl⟩ | ⟨b, o, c, el, l, rfl, hb, hle, rfl⟩ <;> rfl
theorem Src.length (h : Src w sz src m ys) : ys.length = m * sz := by
  rcases h with ⟨c, rfl, h0, rfl⟩ | ⟨b, o, c, el, l, rfl, hb, hle, rfl⟩
  · simp [h0]
  · simp; omega
theorem run_typeInfo {P : Program} {t : Nat} {i : TypeInfo} (h : P.info? t = some i) : (typeInfo t).run P w = .ok i w := by
  simp [typeInfo, program, Sem.run, h, Sem.run_bind, Result.andThen]
theorem run_storeCells_blk {P : Program} {b : Nat} {el : Nat} : ∀ (cs : List Value) (o i : Nat) (w : World) (l : List Value), Blk w b el l → o + i + cs.length ≤ l.length → (∀ c ∈ cs, scalar c = true) →
    ∃ w', (storeCells ⟨b, o, none⟩ cs i).run P w = .ok () w' ∧ Blk w' b el (lay l (o + i) cs) ∧ Ext [b] w w' := by
  intro cs o i w l hb hle hs
  have : stCells ⟨b, o, none⟩ cs i (fun w' => Blk w' b el (lay l (o + i) cs) ∧ Ext [b] w w') w := stCells_blk cs o i w l hb hle hs fun w' h1 h2 => ⟨h1, h2⟩
  obtain ⟨w', h1, h2⟩ := run_stCells (P := P) cs i w this
  exact ⟨w', h1, h2⟩
theorem zeroCells_size (z : Array Value) (k : Nat) : (Builtin.zeroCells z k).size = k * z.size := by simp [Builtin.zeroCells]
/-- append onto a slice of the call's own. -/
theorem run_append (hT : ElT T el sz bts z) (hs : SL w el sz s n xs ob) (hsrc : Src w sz src m ys) (hsc : ∀ c ∈ ys, scalar c = true) (hsize : (2 * (n + m) + 1000) * bts ≤ 2 ^ 48) (hnm : n + m < 2 ^ 62) (ty : Nat) :
    ∃ s' w' ob', (Builtin.append_ #[T, T] ty #[s, src]).run Pg w = .ok s' w' ∧ SL w' el sz s' (n + m) (xs ++ ys) ob' ∧ Ext ob.toList w w' ∧ (ob' = ob ∨ ∃ b, ob' = some b ∧ w.heap.size ≤ b) := by
  obtain ⟨i, zv, hi, hi1, hi2, hi3, hi4⟩ := hT.parts
  have hsz : szO Pg el = some sz := by simp [szO, hi, hi1]
  have hz : (Pg.info? el).bind (·.zero) = some zv := by simp [hi, hi3]
  have hlen := hsrc.length
  have hxl := hs.length
  have hform : ∃ base cap, s = .slice base n cap ∧ (n ≤ cap) := by
    cases ob with
    | none => obtain ⟨rfl, rfl, rfl⟩ := hs; exact ⟨none, 0, rfl, Nat.le_refl _⟩
    | some b => obtain ⟨cap, rest, rfl, _, _, h4, _⟩ := hs; exact ⟨_, cap, rfl, h4⟩
  obtain ⟨base, cap, hsv, hncap⟩ := hform
  have hu := fun w => run_underlying' (P := Pg) (w := w) hT.under
  have hss := fun w => run_sizeOf' (P := Pg) (w := w) hsz
  have ht := fun w => run_typeInfo (w := w) (P := Pg) hi
  have hzv := fun w => run_zeroValue' (P := Pg) (w := w) hz
  have hfs := run_firstCells (P := Pg) hsrc
  have hlo := run_lenOf (P := Pg) hsrc
  by_cases hc : n + m ≤ cap
  · have hopen : (Builtin.append_ #[T, T] ty #[s, src]).run Pg w = (do
        if let some a := base then storeCells (a.add (n * sz)) ys
        pure (.slice base (n + m) cap) : Sem Value).run Pg w := by
      unfold Builtin.append_
      subst hsv
      simp [Sem.run_bind, hu, Result.andThen, hss, hlo, hc, hfs]
      cases base <;> rfl
    rw [hopen]
    cases ob with
    | none =>
      obtain ⟨h1, rfl, rfl⟩ := hs
      rw [hsv] at h1
      injection h1 with h1 h2 h3
      subst h1; subst h3
      obtain rfl : m = 0 := by omega
      refine ⟨_, w, none, rfl, ⟨rfl, rfl, ?_⟩, Ext.refl _ _, .inl rfl⟩
      simp at hlen; simp [hlen]
    | some b =>
      obtain ⟨cap', rest, h1, h2, h3, h4, h5⟩ := hs
      rw [hsv] at h1
      injection h1 with h1 h6 h7
      subst h1; subst h7
      have hle : n * sz + 0 + ys.length ≤ (xs ++ rest).length := by
        rw [List.length_append, h3, h5, hlen, Nat.add_zero, ← Nat.add_mul, ← Nat.add_mul]
        exact Nat.mul_le_mul_right _ (by omega)
      obtain ⟨w', g1, g2, g3⟩ := run_storeCells_blk (P := Pg) ys (n * sz) 0 w (xs ++ rest) h2 hle hsc
      refine ⟨_, w', some b, ?_, ⟨cap, rest.drop ys.length, rfl, ?_, by rw [List.length_append, h3, hlen, Nat.add_mul], hc, ?_⟩, g3, .inl rfl⟩
      · simp only [add_mk, Nat.zero_add]
        rw [Sem.run_bind, g1]; rfl
      · have : lay (xs ++ rest) (n * sz + 0) ys = xs ++ ys ++ rest.drop ys.length := by
          unfold lay
          rw [Nat.add_zero, ← h3, List.take_left, List.drop_append]
          simp
        rw [← this]; exact g2
      · rw [List.length_drop, h5, hlen, ← Nat.sub_mul]; congr 1; omega
  · have hb2 : ¬ (2 ^ 48 < Builtin.nextslicecap (n + m) cap * bts) := by
      have := next_le (need := n + m) (cap := cap) (by omega)
      have h2 := Nat.mul_le_mul_right bts this
      omega
    have hbz : ¬ (9223372036854775807 < (n : Int) + (m : Int) ∧ bts = 0) := by omega
    have hold : ∀ w1 : World, w1.heap = w.heap → (Builtin.firstCells sz n (.slice base n cap)).run Pg w1 = .ok xs.toArray w1 := by
      intro w1 h1
      refine run_firstCells ?_
      have : SL w1 el sz (.slice base n cap) n xs ob := by
        rw [← hsv]
        cases ob with
        | none => exact hs
        | some b => obtain ⟨c, r, g1, g2, g3⟩ := hs; exact ⟨c, r, g1, (by unfold Blk at *; rw [h1]; exact g2), g3⟩
      exact this.toSrc
    have hnew : ∀ w1 : World, w1.heap = w.heap → (Builtin.firstCells sz m src).run Pg w1 = .ok ys.toArray w1 := by
      intro w1 h1
      refine run_firstCells ?_
      rcases hsrc with ⟨c, rfl, h0, rfl⟩ | ⟨b, o, c, e', l, rfl, hb, hle, rfl⟩
      · exact .inl ⟨c, rfl, h0, rfl⟩
      · exact .inr ⟨b, o, c, e', l, rfl, (by unfold Blk at *; rw [h1]; exact hb), hle, rfl⟩
    obtain ⟨newCap, hcap, hch⟩ : ∃ newCap, n + m ≤ newCap ∧ (choose (.appendCap (n + m) cap el)).run Pg w = .ok newCap w.drew := by
      refine ⟨_, ?_, rfl⟩
      simp only [Question.cut]; omega
    have hask : ∀ k w1, (askRoom k).run Pg w1 = .ok () w1 := by
      intro k w1; unfold askRoom; split <;> rfl
    have hzs : zv.cells.size = sz := by have := hT.len; rw [← hi4] at this; simpa using this
    refine ⟨.slice (some ⟨w.heap.size, 0, none⟩) (n + m) newCap, w.drew.alloc (.cells (xs.toArray ++ ys.toArray ++ Builtin.zeroCells zv.cells (newCap - (n + m))) el), some w.heap.size, ?_, ?_, (Ext.drew _ _).trans (Ext.alloc _ _ _), .inr ⟨_, rfl, Nat.le_refl _⟩⟩
    · unfold Builtin.append_
      subst hsv
      simp [Sem.run_bind, hu, Result.andThen, hss, hlo, hc, ht, hi2, hbz, hb2, hch, hask, hold w.drew rfl, hnew w.drew rfl, hzv, newRow, newObj, Sem.run, World.alloc]
      congr 2; apply Array.ext'; simp
    · refine ⟨newCap, (Builtin.zeroCells zv.cells (newCap - (n + m))).toList, rfl, ?_, by rw [List.length_append, hxl, hlen, Nat.add_mul], hcap, ?_⟩
      · have := Blk.new w.drew el (xs.toArray ++ ys.toArray ++ Builtin.zeroCells zv.cells (newCap - (n + m)))
        simpa using this
      · rw [Array.length_toList, zeroCells_size, hzs]

theorem append_k (hT : ElT T el sz bts z) (hs : SL w el sz s n xs ob) (hsrc : Src w sz src m ys) (hsc : ∀ c ∈ ys, scalar c = true) (hsize : (2 * (n + m) + 1000) * bts ≤ 2 ^ 48) (hnm : n + m < 2 ^ 62) {ty : Nat} {cs : Array Bool}
    (k : ∀ s' w' ob', SL w' el sz s' (n + m) (xs ++ ys) ob' → Ext ob.toList w w' → (ob' = ob ∨ ∃ b, ob' = some b ∧ w.heap.size ≤ b) → K s' w') :
    blt Pg R .append ⟨[T, T]⟩ ty cs ⟨[s, src]⟩ K w := by
  obtain ⟨s', w', ob', h1, h2, h3, h4⟩ := run_append hT hs hsrc hsc hsize hnm ty
  unfold blt semV
  have : (builtin .append ⟨[T, T]⟩ ty cs ⟨[s, src]⟩).run Pg w = .ok (.value s') w' := run_value h1
  rw [this]
  exact k s' w' ob' h2 h3 h4
/-- A slice written out. -/
theorem build_k {parts : List (Nat × Value)} {len : Nat} {r : List Value} (hT : ElT T el sz bts z) (hle : len * sz ≤ 2 ^ 24) (h0 : len * sz ≠ 0)
    (hr : buildL ((List.range (len * sz)).map fun x => z[x % sz]!) (parts.map fun p => (p.1 * sz, sz, p.2)) = some r)
    (k : ∀ w', Blk w' w.heap.size el r → Ext [] w w' → w'.heap.size = w.heap.size + 1 → K (.slice (some ⟨w.heap.size, 0, none⟩) len len) w') :
    valV Pg R (Instr.buildSlice T len ⟨parts⟩) K w := by
  obtain ⟨i, zv, hi, hi1, hi2, hi3, hi4⟩ := hT.parts
  have hsz : szO Pg el = some sz := by simp [szO, hi, hi1]
  have hz : (Pg.info? el).bind (·.zero) = some zv := by simp [hi, hi3]
  have hu := fun w => run_underlying' (P := Pg) (w := w) hT.under
  have hss := fun w => run_sizeOf' (P := Pg) (w := w) hsz
  have hzv := fun w => run_zeroValue' (P := Pg) (w := w) hz
  have hzs : zv.cells.size = sz := by have := hT.len; rw [← hi4] at this; simpa using this
  have hrun : (Instr.buildSlice T len ⟨parts⟩).run Pg w = .ok (.slice (some ⟨w.heap.size, 0, none⟩) len len) (w.alloc (.cells ⟨r⟩ el)) := by
    unfold Instr.buildSlice
    rw [Sem.run_bind, hu]
    simp only [Result.andThen, Sem.run_bind, hss]
    rw [if_neg (by omega)]
    simp only [h0, if_false, Sem.run_bind, hzv, Sem.run_pure, Result.andThen]
    have := fill_eq (fun i => some (i * sz, sz)) parts ((Array.range (len * sz)).map (fun x => zv.cells[x % zv.cells.size]!)) (parts.map fun p => (p.1 * sz, sz, p.2)) r (by simp) (by
      rw [← hr]; congr 1
      rw [hzs, ← hi4]
      simp only [Array.toList_map, Array.toList_range]
      apply List.map_congr_left
      intro a _
      rw [getElem!_def, getElem!_def, Array.getElem?_toList])
    rw [this]
    simp only [newRow, Sem.run_bind, newObj, Sem.run, Result.andThen]
    rfl
  unfold valV
  rw [hrun]
  exact k _ (Blk.new w el ⟨r⟩) (Ext.alloc _ _ _) (by simp)
/-- A slice of one element, written out. -/
theorem build1_k {v : Value} (hT : ElT T el sz bts z) (hv : v.cells.size = sz) (hsz1 : sz ≤ 2 ^ 24)
    (k : ∀ w', Blk w' w.heap.size el v.cells.toList → Ext [] w w' → w'.heap.size = w.heap.size + 1 → K (.slice (some ⟨w.heap.size, 0, none⟩) 1 1) w') :
    valV Pg R (Instr.buildSlice T 1 ⟨[(0, v)]⟩) K w := by
  obtain ⟨i, zv, hi, hi1, hi2, hi3, hi4⟩ := hT.parts
  have hsz : szO Pg el = some sz := by simp [szO, hi, hi1]
  have hz : (Pg.info? el).bind (·.zero) = some zv := by simp [hi, hi3]
  have hu := fun w => run_underlying' (P := Pg) (w := w) hT.under
  have hss := fun w => run_sizeOf' (P := Pg) (w := w) hsz
  have hzv := fun w => run_zeroValue' (P := Pg) (w := w) hz
  have hzs : zv.cells.size = sz := by have := hT.len; rw [← hi4] at this; simpa using this
  have hrun : (Instr.buildSlice T 1 ⟨[(0, v)]⟩).run Pg w = .ok (.slice (some ⟨w.heap.size, 0, none⟩) 1 1) (w.alloc (.cells v.cells el)) := by
    have hfill : ∀ zc : Array Value, zc.size = sz → Instr.fill (fun i => some (i * sz, sz)) zc [(0, v)] = some v.cells := by
      intro zc hzc
      have := fill_eq (fun i => some (i * sz, sz)) [(0, v)] zc [(0, sz, v)] v.cells.toList (by simp) (by
        simp only [buildL]
        rw [if_neg (by simp [hv, hzc])]
        congr 1
        have : zc.toList.length = sz := by simpa using hzc
        simp [← this])
      simpa using this
    have hd : ∀ (zc : Array Value), ((Array.range (1 * sz)).map (fun x => zc[x % zc.size]!)).size = sz := by intro zc; simp
    unfold Instr.buildSlice
    rw [Sem.run_bind, hu]
    simp only [Result.andThen, Sem.run_bind, hss]
    rw [if_neg (by omega)]
    by_cases h0 : 1 * sz = 0
    · simp only [h0, if_true, Sem.run_bind, Sem.run_pure, Result.andThen]
      rw [hfill _ (by simp; omega)]
      simp only [newRow, Sem.run_bind, newObj, Sem.run, Result.andThen]
      rfl
    · simp only [h0, if_false, Sem.run_bind, hzv, Sem.run_pure, Result.andThen]
      rw [hfill _ (hd _)]
      simp only [newRow, Sem.run_bind, newObj, Sem.run, Result.andThen]
      rfl
  unfold valV
  rw [hrun]
  exact k _ (Blk.new w el v.cells) (Ext.alloc _ _ _) (by simp)
/-- append of one element, as the translation writes it. -/
theorem app1_k {v : Value} (hT : ElT T el sz bts z) (hs : SL w el sz s n xs ob) (hv : v.cells.size = sz) (hsc : ∀ c ∈ v.cells.toList, scalar c = true) (hsz1 : sz ≤ 2 ^ 24)
    (hsize : (2 * (n + 1) + 1000) * bts ≤ 2 ^ 48) (hnm : n + 1 < 2 ^ 62) {ty : Nat} {cs : Array Bool}
    (k : ∀ s' w' ob', SL w' el sz s' (n + 1) (xs ++ v.cells.toList) ob' → Ext ob.toList w w' → (ob' = ob ∨ ∃ b, ob' = some b ∧ w.heap.size ≤ b) → K s' w') :
    valV Pg R (Instr.buildSlice T 1 ⟨[(0, v)]⟩) (fun v1 => blt Pg R .append ⟨[T, T]⟩ ty cs ⟨[s, v1]⟩ K) w := by
  refine build1_k hT hv hsz1 fun w1 hb he hsz => ?_
  have hs1 := hs.ext he (fun b _ => by simp)
  have hlen : v.cells.toList.length = sz := by simpa using hv
  refine append_k hT hs1 (m := 1) (ys := v.cells.toList) (.inr ⟨w.heap.size, 0, 1, el, _, rfl, hb, by omega, by rw [List.drop_zero, Nat.one_mul, ← hlen, List.take_length]⟩) hsc hsize hnm fun s' w' ob' h1 h2 h3 => ?_
  refine k s' w' ob' h1 (he.then h2 (fun k hk _ => by cases hk) (fun k hk _ => hk)) ?_
  rcases h3 with h3 | ⟨b, h3, h4⟩
  · exact .inl h3
  · exact .inr ⟨b, h3, by omega⟩
end
end Go.Proofs.Yticnobfmpogcoaa.Den
