/- Literals of slices, make, and the loops' bookkeeping, in chunks. Conditions: none. -/
import Derived.Test.YthcekppbbanfeaaGreatOx
set_option linter.unusedVariables false
set_option linter.unusedSimpArgs false
set_option maxRecDepth 8000
namespace Go.Proofs.YthcekppbbanfeaaGreat.Den
open Go Go.RowKit
section
variable {w w' : World} {w0 : World} {T el sz bts n m : Nat} {z xs ys : List Value} {s src : Value} {cs F L : List Chunk} {K : VK} {R : ER}
theorem bxa_h {t : TypeId} {l : List Value} (H : Hp w0 w L) (k : ∀ w' b, Hp w0 w' (⟨b, t, l⟩ :: L) → K (.pointer (some ⟨b, 0, none⟩)) w') : bx t (.agg ⟨l⟩) K w := bx_h H k
theorem bxs_h {t : TypeId} {v : Value} (H : Hp w0 w L) (hv : v.cells = #[v]) (k : ∀ w' b, Hp w0 w' (⟨b, t, [v]⟩ :: L) → K (.pointer (some ⟨b, 0, none⟩)) w') : bx t v K w :=
  bx_h H fun w' b H' => k w' b (by rw [hv] at H'; exact H')
theorem rd1_t {G : WP} {b o : Nat} {v : Value} (h : w.cell? ⟨b, o, none⟩ = some v) : rd1 (.pointer (some ⟨b, o, none⟩)) v G w = G w := by
  unfold rd1; simp only [h, true_and]
theorem rdN_t {G : WP} {b o n : Nat} {l : List Value} (h : cellsAt w ⟨b, o, none⟩ 0 n = some l) : rdN n (.pointer (some ⟨b, o, none⟩)) (.agg ⟨l⟩) G w = G w := by
  unfold rdN; simp only [h, true_and]
theorem rdN_a {G : WP} {a : Addr} {n : Nat} {l : List Value} (h : cellsAt w a 0 n = some l) : rdN n (.pointer (some a)) (.agg ⟨l⟩) G w = G w := by
  unfold rdN; simp only [h, true_and]
theorem ldN_a {a : Addr} {n : Nat} {l : List Value} (h : cellsAt w a 0 n = some l) (k : K (.agg ⟨l⟩) w) : ldN n (.pointer (some a)) K w := by
  simp only [ldN, h]; exact k
theorem rdN_t' {G : WP} {b o n : Nat} {l : List Value} (h : cellsAt w ⟨b, o, none⟩ 0 n = some l) : rdN n (.pointer (some ⟨b, o, none⟩)) (.agg l.toArray) G w = G w := rdN_t h
theorem allW2 {a b : WP} (h1 : a w) (h2 : b w) : allW [a, b] w := ⟨h1, h2⟩
theorem allW3 {a b c : WP} (h1 : a w) (h2 : b w) (h3 : c w) : allW [a, b, c] w := ⟨h1, h2, h3⟩
theorem Hp.rot1 {n a : Chunk} {T : List Chunk} (H : Hp w0 w (n :: a :: T)) : Hp w0 w (a :: n :: T) := H.to (by intro f; simp only [tag_lit, I, U8, U64, ptr, List.set_cons_zero, List.set_cons_succ, List.eraseIdx_cons_zero, List.eraseIdx_cons_succ, List.map_append, List.map_cons, List.map_nil, List.sum_append, List.sum_cons, List.sum_nil]; omega)
theorem Hp.rot2 {n a b : Chunk} {T : List Chunk} (H : Hp w0 w (n :: a :: b :: T)) : Hp w0 w (a :: b :: n :: T) := H.to (by intro f; simp only [tag_lit, I, U8, U64, ptr, List.set_cons_zero, List.set_cons_succ, List.eraseIdx_cons_zero, List.eraseIdx_cons_succ, List.map_append, List.map_cons, List.map_nil, List.sum_append, List.sum_cons, List.sum_nil]; omega)
theorem Hp.rot3 {n a b c : Chunk} {T : List Chunk} (H : Hp w0 w (n :: a :: b :: c :: T)) : Hp w0 w (a :: b :: c :: n :: T) := H.to (by intro f; simp only [tag_lit, I, U8, U64, ptr, List.set_cons_zero, List.set_cons_succ, List.eraseIdx_cons_zero, List.eraseIdx_cons_succ, List.map_append, List.map_cons, List.map_nil, List.sum_append, List.sum_cons, List.sum_nil]; omega)
theorem Hp.rot4 {n a b c d : Chunk} {T : List Chunk} (H : Hp w0 w (n :: a :: b :: c :: d :: T)) : Hp w0 w (a :: b :: c :: d :: n :: T) := H.to (by intro f; simp only [tag_lit, I, U8, U64, ptr, List.set_cons_zero, List.set_cons_succ, List.eraseIdx_cons_zero, List.eraseIdx_cons_succ, List.map_append, List.map_cons, List.map_nil, List.sum_append, List.sum_cons, List.sum_nil]; omega)
/-- A slice of elements written out. -/
theorem lit_h {parts : List (Nat × Value)} {len : Nat} {r : List Value} (hT : ElT T el sz bts z) (H : Hp w0 w L) (hle : len * sz ≤ 2 ^ 24) (h0 : len * sz ≠ 0)
    (hr : buildL ((List.range (len * sz)).map fun x => z[x % sz]!) (parts.map fun p => (p.1 * sz, sz, p.2)) = some r)
    (k : ∀ w' b, Hp w0 w' (⟨b, el, r⟩ :: L) → K (.slice (some ⟨b, 0, none⟩) len len) w') : valV Pg R (Instr.buildSlice T len ⟨parts⟩) K w :=
  build_k hT hle h0 hr fun w' hb he _ => k w' _ (H.newExt hb he)
theorem lit1_h {v : Value} (hT : ElT T el sz bts z) (H : Hp w0 w L) (hv : v.cells.size = sz) (hsz1 : sz ≤ 2 ^ 24)
    (k : ∀ w' b, Hp w0 w' (⟨b, el, v.cells.toList⟩ :: L) → K (.slice (some ⟨b, 0, none⟩) 1 1) w') : valV Pg R (Instr.buildSlice T 1 ⟨[(0, v)]⟩) K w :=
  build1_k hT hv hsz1 fun w' hb he _ => k w' _ (H.newExt hb he)
theorem lit1s_h {v : Value} (hT : ElT T el 1 bts z) (H : Hp w0 w L) (hv : v.cells = #[v])
    (k : ∀ w' b, Hp w0 w' (⟨b, el, [v]⟩ :: L) → K (.slice (some ⟨b, 0, none⟩) 1 1) w') : valV Pg R (Instr.buildSlice T 1 ⟨[(0, v)]⟩) K w :=
  lit1_h hT H (by rw [hv]; rfl) (by omega) fun w' b H' => k w' b (by rw [hv] at H'; exact H')
theorem Sl.full {b : Nat} (h : xs.length = n * sz) : Sl el sz (.slice (some ⟨b, 0, none⟩) n n) n xs [⟨b, el, xs⟩] := .inr ⟨b, n, [], by simp, rfl, h, Nat.le_refl _, by simp⟩
theorem Sl.chunk (h : Sl el sz s n xs cs) (hn : 0 < n) : ∃ b cap rest, cs = [⟨b, el, xs ++ rest⟩] ∧ s = .slice (some ⟨b, 0, none⟩) n cap ∧ xs.length = n * sz ∧ n ≤ cap ∧ rest.length = (cap - n) * sz := by
  rcases h with ⟨_, _, rfl, _⟩ | h
  · omega
  · exact h
theorem lit0_h (hT : ElT T el sz bts z) (H : Hp w0 w L) (k : ∀ w' s, Hp w0 w' L → Sl el sz s 0 [] [] → K s w') : valV Pg R (Instr.buildSlice T 0 ⟨[]⟩) K w := by
  obtain ⟨i, zv, hi, hi1, hi2, hi3, hi4⟩ := hT.parts
  have hsz : szO Pg el = some sz := by simp [szO, hi, hi1]
  have hu := fun w => run_underlying' (P := Pg) (w := w) hT.under
  have hss := fun w => run_sizeOf' (P := Pg) (w := w) hsz
  have hrun : (Instr.buildSlice T 0 ⟨[]⟩).run Pg w = .ok (.slice (some ⟨w.heap.size, 0, none⟩) 0 0) (w.alloc (.cells ⟨[]⟩ el)) := by
    unfold Instr.buildSlice
    rw [Sem.run_bind, hu]
    simp only [Result.andThen, Sem.run_bind, hss, Nat.zero_mul]
    rw [if_neg (by omega)]
    simp only [if_true, Sem.run_bind, Sem.run_pure, Result.andThen]
    simp [Instr.fill, newRow, Sem.run_bind, newObj, Sem.run, Result.andThen]
    congr 2; apply Array.ext'; simp
  unfold valV
  rw [hrun]
  exact k _ _ (H.same (Ext.alloc _ _ _)) (.inl ⟨rfl, ⟨_, rfl⟩, rfl, rfl⟩)
/-- The same with its (empty) chunk. -/
theorem lit0c_h (hT : ElT T el sz bts z) (H : Hp w0 w L) (k : ∀ w' b, Hp w0 w' (⟨b, el, []⟩ :: L) → Sl el sz (.slice (some ⟨b, 0, none⟩) 0 0) 0 [] [⟨b, el, []⟩] → K (.slice (some ⟨b, 0, none⟩) 0 0) w') : valV Pg R (Instr.buildSlice T 0 ⟨[]⟩) K w := by
  obtain ⟨i, zv, hi, hi1, hi2, hi3, hi4⟩ := hT.parts
  have hsz : szO Pg el = some sz := by simp [szO, hi, hi1]
  have hu := fun w => run_underlying' (P := Pg) (w := w) hT.under
  have hss := fun w => run_sizeOf' (P := Pg) (w := w) hsz
  have hrun : (Instr.buildSlice T 0 ⟨[]⟩).run Pg w = .ok (.slice (some ⟨w.heap.size, 0, none⟩) 0 0) (w.alloc (.cells ⟨[]⟩ el)) := by
    unfold Instr.buildSlice
    rw [Sem.run_bind, hu]
    simp only [Result.andThen, Sem.run_bind, hss, Nat.zero_mul]
    rw [if_neg (by omega)]
    simp only [if_true, Sem.run_bind, Sem.run_pure, Result.andThen]
    simp [Instr.fill, newRow, Sem.run_bind, newObj, Sem.run, Result.andThen]
    congr 2; apply Array.ext'; simp
  unfold valV
  rw [hrun]
  exact k _ _ (H.new el ⟨[]⟩) (.inr ⟨_, 0, [], rfl, rfl, by simp, Nat.le_refl _, by simp⟩)
/-- make([]T, n): n zero values. -/
theorem make_h {N C : Int} (hT : ElT T el sz bts z) (H : Hp w0 w L) {n c : Nat} (hN : N = (n : Int)) (hC : C = (c : Int)) (hn : n ≤ c) (hsz : c * bts ≤ 2 ^ 48) (hc : c < 2 ^ 62)
    (k : ∀ w' b, Hp w0 w' (⟨b, el, (List.replicate c z).flatten⟩ :: L) → K (.slice (some ⟨b, 0, none⟩) n c) w') : valV Pg R (Instr.makeSlice T (I N) (I C)) K w := by
  subst hN hC
  obtain ⟨i, zv, hi, hi1, hi2, hi3, hi4⟩ := hT.parts
  have hszO : szO Pg el = some sz := by simp [szO, hi, hi1]
  have hz : (Pg.info? el).bind (·.zero) = some zv := by simp [hi, hi3]
  have hu := fun w => run_underlying' (P := Pg) (w := w) hT.under
  have hss := fun w => run_sizeOf' (P := Pg) (w := w) hszO
  have hzv := fun w => run_zeroValue' (P := Pg) (w := w) hz
  have hti := fun w => run_typeInfo (w := w) (P := Pg) hi
  have hzs : zv.cells.size = sz := by have := hT.len; rw [← hi4] at this; simpa using this
  have hask : ∀ k w1, (askRoom k).run Pg w1 = .ok () w1 := by
    intro k w1; unfold askRoom; split <;> rfl
  have w1 : IntKind.i64.wrap (n : Int) = n := wrap64_id (by omega) (by omega)
  have w2 : IntKind.i64.wrap (c : Int) = c := wrap64_id (by omega) (by omega)
  have hno : ¬ ((bts : Int) * (c : Int) > 2 ^ 48) := by
    have : (bts : Int) * (c : Int) = ((c * bts : Nat) : Int) := by rw [Int.natCast_mul, Int.mul_comm]
    rw [this]; omega
  have hai : ∀ (v : Int) (w : World), (asInt (I v)).run Pg w = .ok v w := fun _ _ => rfl
  have hcells : ∃ zc : Array Value, (Instr.makeSlice T (I n) (I c)).run Pg w = .ok (.slice (some ⟨w.heap.size, 0, none⟩) n c) (w.alloc (.cells ((Array.range (c * sz)).map (zc[· % zc.size]!)) el)) ∧ ((Array.range (c * sz)).map (zc[· % zc.size]!)).toList = (List.replicate c z).flatten := by
    by_cases h0 : c * sz = 0
    · refine ⟨#[], ?_, ?_⟩
      · unfold Instr.makeSlice
        rw [Sem.run_bind, hu]
        simp only [Result.andThen, Sem.run_bind, hai, Sem.run_pure, hti, w1, w2, hi2]
        rw [if_neg (by simp; omega)]
        simp only [Sem.run_pure, Sem.run_bind, Result.andThen, hask, hss, Int.toNat_natCast]
        rw [if_pos h0]
        simp [newRow, Sem.run_bind, newObj, Sem.run, Result.andThen]
      rw [h0]
      simp
      intro hc0
      rcases Nat.mul_eq_zero.1 h0 with h1 | h1
      · exact absurd h1 hc0
      · have := hT.len
        rw [h1] at this
        exact List.length_eq_zero_iff.1 this
    · refine ⟨zv.cells, ?_, ?_⟩
      · unfold Instr.makeSlice
        rw [Sem.run_bind, hu]
        simp only [Result.andThen, Sem.run_bind, hai, Sem.run_pure, hti, w1, w2, hi2]
        rw [if_neg (by simp; omega)]
        simp only [Sem.run_pure, Sem.run_bind, Result.andThen, hask, hss, Int.toNat_natCast]
        rw [if_neg h0]
        simp [newRow, Sem.run_bind, newObj, Sem.run, Result.andThen, hzv]
      rw [hzs]
      apply List.ext_getElem?
      intro j
      have hfl : ∀ c j, j < c * sz → (List.replicate c z).flatten[j]? = z[j % sz]? := by
        intro c
        induction c with
        | zero => intro j hj; simp at hj
        | succ c ih =>
          intro j hj
          rw [List.replicate_succ, List.flatten_cons]
          by_cases hjs : j < sz
          · rw [List.getElem?_append_left (by rw [hT.len]; exact hjs), Nat.mod_eq_of_lt hjs]
          · rw [List.getElem?_append_right (by rw [hT.len]; omega), hT.len, ih (j - sz) (by rw [Nat.add_mul] at hj; omega)]
            rw [Nat.mod_eq_sub_mod (by omega : j ≥ sz)]
      have hlen : (List.replicate c z).flatten.length = c * sz := by simp [hT.len]
      by_cases hj : j < c * sz
      · rw [hfl c j hj]
        simp only [Array.toList_map, List.getElem?_map, Array.toList_range, List.getElem?_range hj, Option.map_some]
        have hs0 : 0 < sz := Nat.pos_of_ne_zero fun h => h0 (by rw [h, Nat.mul_zero])
        have hm : j % sz < sz := Nat.mod_lt _ hs0
        rw [← hi4]
        have : j % sz < zv.cells.size := by rw [hzs]; exact hm
        simp [this]
      · rw [List.getElem?_eq_none (by simp; omega), List.getElem?_eq_none (by rw [hlen]; omega)]
  obtain ⟨zc, hrun, hz2⟩ := hcells
  unfold valV
  rw [hrun]
  have := H.new el ((Array.range (c * sz)).map (zc[· % zc.size]!))
  rw [hz2] at this
  exact k _ _ this
/-- copy into a slice of the run's own. -/
theorem copy_h' {b o n1 c1 : Nat} {l : List Value} (hT : ElT T el sz bts z) (H : Hp w0 w L) (i : Nat) (hi : L[i]? = some ⟨b, el, l⟩) (hle : o + n1 * sz ≤ l.length) (hsrc : RdL w0 L sz src m ys) (hsc : ∀ c ∈ ys.take (min m n1 * sz), scalar c = true) {ty : Nat} {cc : Array Bool}
    (k : ∀ w', Hp w0 w' (L.set i ⟨b, el, lay l o (ys.take (min m n1 * sz))⟩) → K (I ((min m n1 : Nat) : Int)) w') : blt Pg R .copy ⟨[T, T]⟩ ty cc ⟨[.slice (some ⟨b, o, none⟩) n1 c1, src]⟩ K w := by
  have hrd := hsrc.rd H
  obtain ⟨ti, zv, hti, hi1, hi2, hi3, hi4⟩ := hT.parts
  have hsz : szO Pg el = some sz := by simp [szO, hti, hi1]
  have hu := fun w => run_underlying' (P := Pg) (w := w) hT.under
  have hss := fun w => run_sizeOf' (P := Pg) (w := w) hsz
  have hlen := hrd.length
  have hlo := run_lenOf (P := Pg) hrd
  have hmn : min m n1 * sz ≤ m * sz := Nat.mul_le_mul_right _ (Nat.min_le_left _ _)
  have hmn2 : min m n1 * sz ≤ n1 * sz := Nat.mul_le_mul_right _ (Nat.min_le_right _ _)
  have hfs : (Builtin.firstCells sz (min m n1) src).run Pg w = .ok (ys.take (min m n1 * sz)).toArray w := by
    rcases hrd with ⟨c, rfl, h0, rfl⟩ | ⟨a, c, rfl, hmc, h⟩
    · have : min m n1 * sz = 0 := by omega
      simp only [Builtin.firstCells, List.take_nil]; rfl
    · obtain ⟨g1, g2⟩ := (cellsAt_spec _ _ _).1 h
      have h' : cellsAt w a 0 (min m n1 * sz) = some (ys.take (min m n1 * sz)) := (cellsAt_spec _ _ _).2 ⟨by simp; omega, fun j hj => by rw [g2 j (by omega)]; simp [hj]⟩
      have := run_loadCells (P := Pg) (w := w) (a := a) (min m n1 * sz) 0 #[] _ h'
      simpa [loadCells, Builtin.firstCells] using this
  obtain ⟨w', g1, g2, g3⟩ := run_storeCells_blk (P := Pg) (ys.take (min m n1 * sz)) o 0 w l (H.at hi) (by simp; omega) hsc
  have hrun : (Builtin.copy_ ⟨[T, T]⟩ ty ⟨[.slice (some ⟨b, o, none⟩) n1 c1, src]⟩).run Pg w = .ok (I ((min m n1 : Nat) : Int)) w' := by
    unfold Builtin.copy_
    simp [Sem.run_bind, hu, Result.andThen, hss, hlo, Nat.min_def]
    have hfs' := hfs
    simp only [Nat.min_def] at hfs' g1
    rw [hfs']
    simp only
    rw [g1]
    rfl
  unfold blt semV
  have : (builtin .copy ⟨[T, T]⟩ ty cc ⟨[.slice (some ⟨b, o, none⟩) n1 c1, src]⟩).run Pg w = .ok (.value (I ((min m n1 : Nat) : Int))) w' := run_value hrun
  rw [this]
  exact k w' (H.updi (t := .t el) (t' := .t el) hi (show Blk _ _ _ _ from by simpa using g2) g3)
theorem copy_h {b o n1 c1 : Nat} {l : List Value} (hT : ElT T el sz bts z) (H : Hp w0 w L) (i : Nat) (hi : L[i]? = some ⟨b, el, l⟩) (hle : o + n1 * sz ≤ l.length) (hsrc : RdL w0 L sz src m ys) (hsc : ∀ c ∈ ys, scalar c = true) {ty : Nat} {cc : Array Bool}
    (k : ∀ w', Hp w0 w' (L.set i ⟨b, el, lay l o (ys.take (min m n1 * sz))⟩) → K (I ((min m n1 : Nat) : Int)) w') : blt Pg R .copy ⟨[T, T]⟩ ty cc ⟨[.slice (some ⟨b, o, none⟩) n1 c1, src]⟩ K w :=
  copy_h' hT H i hi hle hsrc (fun c hc => hsc c (List.mem_of_mem_take hc)) k
end
end Go.Proofs.YthcekppbbanfeaaGreat.Den
