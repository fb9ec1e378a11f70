/- Message queue: slices.Delete, walked. Conditions: none. -/
import Derived.Test.YthcekppbbanfeaaGreatMqB
set_option linter.unusedVariables false
set_option linter.unusedSimpArgs false
set_option maxRecDepth 8000
set_option maxHeartbeats 2000000
namespace Go.Proofs.YthcekppbbanfeaaGreat.Den
open Go Go.RowKit
theorem slFrom {sz b o n c i : Nat} (hi : i ≤ n) (hn : n ≤ c) (hc : i < c) : slS sz (.slice (some ⟨b, o, none⟩) n c) (some (I (i : Int))) none = some (.slice (some ⟨b, o + i * sz, none⟩) (n - i) (c - i)) := by
  have e1 : (i : Int) ≤ (n : Int) := by omega
  have e2 : (n : Int) ≤ (c : Int) := by omega
  have e3 : c ≠ i := by omega
  simp [slS, boundO, e1, e2, e3, add_mk]
theorem slTo {sz b o n c i : Nat} (hc : i ≤ c) : slS sz (.slice (some ⟨b, o, none⟩) n c) none (some (I (i : Int))) = some (.slice (some ⟨b, o, none⟩) i c) := by
  have e1 : (i : Int) ≤ (c : Int) := by omega
  simp [slS, boundO, e1, add_mk]
theorem lay_len {l cs : List Value} {o : Nat} (h : o + cs.length ≤ l.length) : (lay l o cs).length = l.length := by
  unfold lay
  rw [List.length_append, List.length_append, List.length_take, List.length_drop, Nat.min_eq_left (by omega)]; omega
theorem filter_none {α : Type} {p : α → Bool} {l : List α} (h : ∀ x ∈ l, p x = false) : l.filter (fun x => !p x) = l := by
  rw [List.filter_eq_self]; intro a ha; simp [h a ha]
section
variable {w w' : World} {w0 : World} {T el sz bts n m : Nat} {z xs ys : List Value} {s src : Value} {cs F L : List Chunk} {K : VK} {R : ER}
/-- append where there is room. -/
theorem append_in {b cap : Nat} {l : List Value} {ty : Nat} {cc : Array Bool} (hT : ElT T el sz bts z) (H : Hp w0 w (⟨b, el, l⟩ :: F)) (hl : l.length = cap * sz) (hc : n + m ≤ cap) (hsrc : RdL w0 (⟨b, el, l⟩ :: F) sz src m ys) (hsc : ∀ c ∈ ys, scalar c = true)
    (k : ∀ w', Hp w0 w' (⟨b, el, lay l (n * sz) ys⟩ :: F) → K (.slice (some ⟨b, 0, none⟩) (n + m) cap) w') : blt Pg R .append ⟨[T, T]⟩ ty cc ⟨[.slice (some ⟨b, 0, none⟩) n cap, src]⟩ K w := by
  suffices hh : ∃ w', (Builtin.append_ #[T, T] ty #[.slice (some ⟨b, 0, none⟩) n cap, src]).run Pg w = .ok (.slice (some ⟨b, 0, none⟩) (n + m) cap) w' ∧ Hp w0 w' (⟨b, el, lay l (n * sz) ys⟩ :: F) by
    obtain ⟨w', h1, h2⟩ := hh
    unfold blt semV
    have : (builtin .append ⟨[T, T]⟩ ty cc ⟨[.slice (some ⟨b, 0, none⟩) n cap, src]⟩).run Pg w = .ok (.value (.slice (some ⟨b, 0, none⟩) (n + m) cap)) w' := run_value h1
    rw [this]
    exact k w' h2
  have hrd := hsrc.rd H
  obtain ⟨i, zv, hi, hi1, hi2, hi3, hi4⟩ := hT.parts
  have hsz : szO Pg el = some sz := by simp [szO, hi, hi1]
  have hlen := hrd.length
  have hu := fun w => run_underlying' (P := Pg) (w := w) hT.under
  have hss := fun w => run_sizeOf' (P := Pg) (w := w) hsz
  have hfs := run_firstCells (P := Pg) hrd
  have hlo := run_lenOf (P := Pg) hrd
  have h2 := (H.blk ⟨b, el, l⟩ (by simp)).2
  have hle : n * sz + 0 + ys.length ≤ l.length := by
    rw [hl, hlen, Nat.add_zero, ← Nat.add_mul]
    exact Nat.mul_le_mul_right _ hc
  obtain ⟨w', g1, g2, g3⟩ := run_storeCells_blk (P := Pg) ys (n * sz) 0 w l h2 hle hsc
  refine ⟨w', ?_, Hp.upd (c := ⟨b, el, l⟩) H g2 g3⟩
  unfold Builtin.append_
  simp [Sem.run_bind, hu, Result.andThen, hss, hlo, hc, hfs, add_mk, g1]
/-- What lies behind the end, cleared. -/
theorem clear_h {b o cap : Nat} {l : List Value} (hT : ElT T el sz bts z) (H : Hp w0 w (⟨b, el, l⟩ :: F)) (hn : 0 < n) (hle : o + n * sz ≤ l.length) (hz : ∀ c ∈ z, scalar c = true)
    (k : ∀ w' l', l'.length = l.length → l'.take o = l.take o → Hp w0 w' (⟨b, el, l'⟩ :: F) → K (.tuple #[]) w') : blt Pg R .clear ⟨[T]⟩ 0 ⟨[false]⟩ ⟨[.slice (some ⟨b, o, none⟩) n cap]⟩ K w := by
  obtain ⟨i, zv, hi, hi1, hi2, hi3, hi4⟩ := hT.parts
  have hu := fun w => run_underlying' (P := Pg) (w := w) hT.under
  have hz' : (Pg.info? el).bind (·.zero) = some zv := by simp [hi, hi3]
  have hzv := fun w => run_zeroValue' (P := Pg) (w := w) hz'
  have hzs : zv.cells.size = sz := by have := hT.len; rw [← hi4] at this; simpa using this
  have h2 := (H.blk ⟨b, el, l⟩ (by simp)).2
  have hcl : (Builtin.zeroCells zv.cells n).toList.length = n * sz := by rw [Array.length_toList, zeroCells_size, hzs]
  have hsc : ∀ c ∈ (Builtin.zeroCells zv.cells n).toList, scalar c = true := by
    intro c hc
    simp only [Builtin.zeroCells, Array.toList_map, List.mem_map, Array.toList_range, List.mem_range] at hc
    obtain ⟨i, hi, rfl⟩ := hc
    have hpos : 0 < zv.cells.size := by
      rcases Nat.eq_zero_or_pos zv.cells.size with h | h
      · rw [h] at hi; omega
      · exact h
    have hlt : i % zv.cells.size < zv.cells.size := Nat.mod_lt _ hpos
    rw [getElem!_pos zv.cells _ hlt]
    apply hz
    rw [← hi4]
    exact Array.getElem_mem_toList hlt
  obtain ⟨w', g1, g2, g3⟩ := run_storeCells_blk (P := Pg) (Builtin.zeroCells zv.cells n).toList o 0 w l h2 (by rw [hcl]; omega) hsc
  have hrun : (Builtin.clear_ #[T] 0 #[.slice (some ⟨b, o, none⟩) n cap]).run Pg w = .ok (.tuple #[]) w' := by
    unfold Builtin.clear_
    obtain ⟨n', rfl⟩ : ∃ n', n = n' + 1 := ⟨n - 1, by omega⟩
    simp [Sem.run_bind, hu, Result.andThen, hzv, g1]
  unfold blt semV
  have : (builtin .clear ⟨[T]⟩ 0 ⟨[false]⟩ ⟨[.slice (some ⟨b, o, none⟩) n cap]⟩).run Pg w = .ok (.value (.tuple #[])) w' := run_value hrun
  rw [this]
  refine k w' _ ?_ ?_ (Hp.upd (c := ⟨b, el, l⟩) H g2 g3)
  · unfold lay
    simp only [List.length_append, List.length_take, List.length_drop, hcl]; omega
  · unfold lay
    rw [Nat.add_zero, List.take_append_of_le_length (by simp; omega), List.take_append_of_le_length (by simp; omega), List.take_take, Nat.min_self]
/-- The check of Delete's bounds. -/
theorem slice3_h {a : Option Addr} {cap lo hi : Nat} (hT : ElT T el sz bts z) (h1 : lo ≤ hi) (h2 : hi ≤ n) (h3 : n ≤ cap) (k : ∀ v, K v w) : valV Pg R (Instr.sliceAt T (.slice a n cap) (some (I (lo : Int))) (some (I (hi : Int))) (some (I (n : Int)))) K w := by
  obtain ⟨i, zv, hi', hi1, hi2, hi3, hi4⟩ := hT.parts
  have hsz : szO Pg el = some sz := by simp [szO, hi', hi1]
  have hu := fun w => run_underlying' (P := Pg) (w := w) hT.under
  have hss := fun w => run_sizeOf' (P := Pg) (w := w) hsz
  have hb : ∀ {x y : Nat} {code : BoundsCode}, x ≤ y → (Instr.sliceBound (I (x : Int)) y code).run Pg w = .ok x w := by
    intro x y code h
    have : boundO (some (I (x : Int))) y 0 = some x := by simp only [boundO]; rw [if_pos (by omega)]; simp
    exact run_bound_some this
  have hbs : (Instr.sliceBounds true n cap (some (I (lo : Int))) (some (I (hi : Int))) (some (I (n : Int)))).run Pg w = .ok (lo, hi, n) w := by
    unfold Instr.sliceBounds
    simp [Sem.run_bind, Result.andThen, hb h3, hb h2, hb h1]
  have hr : ∃ v, (Instr.sliceAt T (.slice a n cap) (some (I (lo : Int))) (some (I (hi : Int))) (some (I (n : Int)))).run Pg w = .ok v w := by
    refine ⟨.slice (if n = lo then a else a.map (·.add (lo * sz))) (hi - lo) (n - lo), ?_⟩
    · unfold Instr.sliceAt Instr.slice
      simp only [Sem.run_bind, hu, Result.andThen, hbs, hss]
      rfl
  obtain ⟨v, hv⟩ := hr
  unfold valV
  rw [hv]
  exact k v
end
theorem slK_mid {b sz n c lo hi : Nat} (h1 : lo ≤ hi) (h2 : hi ≤ c) (h3 : lo < c) : slS sz (.slice (some ⟨b, 0, none⟩) n c) (some (I (lo : Int))) (some (I (hi : Int))) = some (.slice (some ⟨b, lo * sz, none⟩) (hi - lo) (c - lo)) := by
  simp only [slS, boundO]
  rw [if_pos (by omega)]
  simp only [Int.toNat_natCast]
  rw [if_pos (by omega)]
  simp only [Option.map_some, add_mk, Nat.zero_add]
  rw [if_neg (by omega)]
theorem slK_to {b sz n c hi : Nat} (h2 : hi ≤ c) : slS sz (.slice (some ⟨b, 0, none⟩) n c) none (some (I (hi : Int))) = some (.slice (some ⟨b, 0, none⟩) hi c) := by
  simp only [slS, boundO]
  rw [if_pos (by omega)]
  simp only [Int.toNat_natCast, Option.map_some, add_mk, Nat.zero_mul, Nat.sub_zero, Nat.zero_add]
  split <;> rfl
theorem slK_from {b sz n c lo : Nat} (h1 : lo ≤ n) (h2 : n ≤ c) : ∃ o, slS sz (.slice (some ⟨b, 0, none⟩) n c) (some (I (lo : Int))) none = some (.slice (some ⟨b, o, none⟩) (n - lo) (c - lo)) ∧ (lo < n → o = lo * sz) := by
  simp only [slS, boundO]
  rw [if_pos (by omega)]
  simp only [Int.toNat_natCast, Option.map_some, add_mk, Nat.zero_add]
  by_cases h : c = lo
  · rw [if_pos h]; exact ⟨0, rfl, fun h => by omega⟩
  · rw [if_neg h]; exact ⟨lo * sz, rfl, fun _ => rfl⟩
section
variable {w w' w0 : World} {L L' F cs cs2 cs3 : List Chunk} {s s2 : Value} {K : VK} {R : ER}
theorem sDelS_spec {xs : List Sw} {k : Nat} (h : TS cSw 113 s xs cs) (hk : k < xs.length) (hl : xs.length < 2 ^ 30) (H : Hp w0 w (cs ++ F)) :
    Calls Pg 80 ⟨[s, I (k : Int), I ((k + 1 : Nat) : Int)]⟩ w fun e w' => ∃ s' cs', e = .returned s' ∧ Hp w0 w' (cs' ++ F) ∧ TS cSw 113 s' (xs.eraseIdx k) cs' := by
  obtain ⟨b, cap, rest, rfl, rfl, hkc, hr⟩ := h.chunk (by omega)
  have H : Hp w0 w (⟨b, 113, cSw.all xs ++ rest⟩ :: F) := H
  have hfl : (cSw.all xs).length = xs.length * cSw.sz := all_len
  have hll : (cSw.all xs ++ rest).length = cap * cSw.sz := by rw [List.length_append, hfl, hr, ← Nat.add_mul]; congr 1; omega
  apply F80_calls
  unfold F80
  repeat (first | simp only [W0] | refine lss_a ?_ | refine lss_b ?_ | refine gtr_a ?_ | refine gtr_b ?_ | refine geq_a ?_ | refine geq_b ?_ | refine leq_a ?_ | refine leq_b ?_ | refine eql_a ?_ | refine eql_b ?_ | refine neq_a ?_ | refine neq_b ?_ | refine add_a ?_ | refine sub_a ?_ | refine ld_a ?_ | refine ldA_a ?_ | refine ldS_a ?_ | refine ldNS_a ?_ | refine rdA_s ?_ | refine rd1_s ?_ | refine drew_a fun w1 H1 => ?_ | refine st_a fun w1 H1 => ?_ | refine stA_a fun w1 H1 => ?_ | refine lenT_a ?_ | refine lenO_a ?_ | refine ixT_a ?_ | refine ixO_a ?_ | refine bld_a ?_ | refine min_a ?_ | refine max_a ?_ | fail)
  refine slice3_h (lo := k) (hi := k + 1) elSw (by omega) (by omega) hkc fun v => ?_
  refine eql_n (by omega) ?_
  simp only [W0]
  unfold F80_j1
  repeat (first | simp only [W0] | refine lss_a ?_ | refine lss_b ?_ | refine gtr_a ?_ | refine gtr_b ?_ | refine geq_a ?_ | refine geq_b ?_ | refine leq_a ?_ | refine leq_b ?_ | refine eql_a ?_ | refine eql_b ?_ | refine neq_a ?_ | refine neq_b ?_ | refine add_a ?_ | refine sub_a ?_ | refine ld_a ?_ | refine ldA_a ?_ | refine ldS_a ?_ | refine ldNS_a ?_ | refine rdA_s ?_ | refine rd1_s ?_ | refine drew_a fun w1 H1 => ?_ | refine st_a fun w1 H1 => ?_ | refine stA_a fun w1 H1 => ?_ | refine lenT_a ?_ | refine lenO_a ?_ | refine ixT_a ?_ | refine ixO_a ?_ | refine bld_a ?_ | refine min_a ?_ | refine max_a ?_ | fail)
  obtain ⟨o, eo, ho⟩ := slK_from (b := b) (sz := cSw.sz) (n := xs.length) (c := cap) (lo := k + 1) (by omega) hkc
  refine pv_of (slK_to (sz := cSw.sz) (hi := k) (by omega)) ?_
  refine pv_of eo ?_
  have hys : RdL w0 (⟨b, 113, cSw.all xs ++ rest⟩ :: F) cSw.sz (.slice (some ⟨b, o, none⟩) (xs.length - (k + 1)) (cap - (k + 1))) (xs.length - (k + 1)) (cSw.all (xs.drop (k + 1))) := by
    by_cases h : k + 1 < xs.length
    · refine .inr ⟨b, o, cap - (k + 1), .t 113, cSw.all xs ++ rest, rfl, by omega, ⟨List.mem_cons_self .., rfl⟩, ?_, ?_⟩
      · rw [ho h, hll, ← Nat.add_mul]; exact Nat.mul_le_mul_right _ (by omega)
      · rw [ho h, List.drop_append_of_le_length (by rw [hfl]; exact Nat.mul_le_mul_right _ (by omega)), all_drop, List.take_append_of_le_length (by rw [all_len, List.length_drop]; exact Nat.le_refl _), List.take_of_length_le (by rw [all_len, List.length_drop]; exact Nat.le_refl _)]
    · have h0 : xs.length - (k + 1) = 0 := by omega
      rw [h0, List.drop_eq_nil_of_le (by omega)]
      exact .inl (.inr ⟨_, _, rfl, by omega, by rw [Nat.zero_mul]; rfl⟩)
  refine append_in (n := k) elSw (by assumption) hll (by omega) hys all_sc fun w1 H1 => ?_
  have en : k + (xs.length - (k + 1)) = xs.length - 1 := by omega
  rw [en]
  repeat (first | simp only [W0] | refine lss_a ?_ | refine lss_b ?_ | refine gtr_a ?_ | refine gtr_b ?_ | refine geq_a ?_ | refine geq_b ?_ | refine leq_a ?_ | refine leq_b ?_ | refine eql_a ?_ | refine eql_b ?_ | refine neq_a ?_ | refine neq_b ?_ | refine add_a ?_ | refine sub_a ?_ | refine ld_a ?_ | refine ldA_a ?_ | refine ldS_a ?_ | refine ldNS_a ?_ | refine rdA_s ?_ | refine rd1_s ?_ | refine drew_a fun w1 H1 => ?_ | refine st_a fun w1 H1 => ?_ | refine stA_a fun w1 H1 => ?_ | refine lenT_a ?_ | refine lenO_a ?_ | refine ixT_a ?_ | refine ixO_a ?_ | refine bld_a ?_ | refine min_a ?_ | refine max_a ?_ | fail)
  refine pv_of (slK_mid (sz := cSw.sz) (lo := xs.length - 1) (hi := xs.length) (by omega) hkc (by omega)) ?_
  have hdl : (cSw.all (xs.drop (k + 1))).length = (xs.length - (k + 1)) * cSw.sz := by rw [all_len, List.length_drop]
  have hlay : (lay (cSw.all xs ++ rest) (k * cSw.sz) (cSw.all (xs.drop (k + 1)))).length = cap * cSw.sz := by
    rw [lay_len (by rw [hll, hdl, ← Nat.add_mul]; exact Nat.mul_le_mul_right _ (by omega)), hll]
  refine clear_h (el := 113) elSw H1 (by omega) (by rw [hlay, ← Nat.add_mul]; exact Nat.mul_le_mul_right _ (by omega)) (by intro c hc; simp at hc; rcases hc with rfl | rfl | rfl | rfl <;> rfl) fun w2 l' hl1 hl2 H2 => ?_
  have hel : (cSw.all (xs.eraseIdx k)).length = (xs.length - 1) * cSw.sz := by rw [all_len, List.length_eraseIdx_of_lt hk]
  have hkl : (xs.take k).length = k := by rw [List.length_take]; omega
  have hpre : (lay (cSw.all xs ++ rest) (k * cSw.sz) (cSw.all (xs.drop (k + 1)))).take ((xs.length - 1) * cSw.sz) = cSw.all (xs.eraseIdx k) := by
    unfold lay
    rw [List.take_append_of_le_length (l₁ := cSw.all xs) (by rw [hfl]; exact Nat.mul_le_mul_right _ (by omega)), all_take, ← all_app, ← List.eraseIdx_eq_take_drop_succ, ← hel, List.take_left]
  have hl3 : l' = cSw.all (xs.eraseIdx k) ++ l'.drop ((xs.length - 1) * cSw.sz) := by
    conv => lhs; rw [← List.take_append_drop ((xs.length - 1) * cSw.sz) l', hl2, hpre]
  rw [hl3] at H2
  refine ⟨_, _, rfl, H2, TS.mk (by rw [List.length_eraseIdx_of_lt hk]) (by omega) ?_⟩
  rw [List.length_drop, hl1, hlay, ← Nat.sub_mul]
end
section
variable {w w' w0 : World} {L L' F cs cs2 cs3 : List Chunk} {s s2 : Value} {K : VK} {R : ER}
theorem sDelR_spec {xs : List Rw} {k : Nat} (h : TS cRw 115 s xs cs) (hk : k < xs.length) (hl : xs.length < 2 ^ 30) (H : Hp w0 w (cs ++ F)) :
    Calls Pg 101 ⟨[s, I (k : Int), I ((k + 1 : Nat) : Int)]⟩ w fun e w' => ∃ s' cs', e = .returned s' ∧ Hp w0 w' (cs' ++ F) ∧ TS cRw 115 s' (xs.eraseIdx k) cs' := by
  obtain ⟨b, cap, rest, rfl, rfl, hkc, hr⟩ := h.chunk (by omega)
  have H : Hp w0 w (⟨b, 115, cRw.all xs ++ rest⟩ :: F) := H
  have hfl : (cRw.all xs).length = xs.length * cRw.sz := all_len
  have hll : (cRw.all xs ++ rest).length = cap * cRw.sz := by rw [List.length_append, hfl, hr, ← Nat.add_mul]; congr 1; omega
  apply F101_calls
  unfold F101
  repeat (first | simp only [W0] | refine lss_a ?_ | refine lss_b ?_ | refine gtr_a ?_ | refine gtr_b ?_ | refine geq_a ?_ | refine geq_b ?_ | refine leq_a ?_ | refine leq_b ?_ | refine eql_a ?_ | refine eql_b ?_ | refine neq_a ?_ | refine neq_b ?_ | refine add_a ?_ | refine sub_a ?_ | refine ld_a ?_ | refine ldA_a ?_ | refine ldS_a ?_ | refine ldNS_a ?_ | refine rdA_s ?_ | refine rd1_s ?_ | refine drew_a fun w1 H1 => ?_ | refine st_a fun w1 H1 => ?_ | refine stA_a fun w1 H1 => ?_ | refine lenT_a ?_ | refine lenO_a ?_ | refine ixT_a ?_ | refine ixO_a ?_ | refine bld_a ?_ | refine min_a ?_ | refine max_a ?_ | fail)
  refine slice3_h (lo := k) (hi := k + 1) elRw (by omega) (by omega) hkc fun v => ?_
  refine eql_n (by omega) ?_
  simp only [W0]
  unfold F101_j1
  repeat (first | simp only [W0] | refine lss_a ?_ | refine lss_b ?_ | refine gtr_a ?_ | refine gtr_b ?_ | refine geq_a ?_ | refine geq_b ?_ | refine leq_a ?_ | refine leq_b ?_ | refine eql_a ?_ | refine eql_b ?_ | refine neq_a ?_ | refine neq_b ?_ | refine add_a ?_ | refine sub_a ?_ | refine ld_a ?_ | refine ldA_a ?_ | refine ldS_a ?_ | refine ldNS_a ?_ | refine rdA_s ?_ | refine rd1_s ?_ | refine drew_a fun w1 H1 => ?_ | refine st_a fun w1 H1 => ?_ | refine stA_a fun w1 H1 => ?_ | refine lenT_a ?_ | refine lenO_a ?_ | refine ixT_a ?_ | refine ixO_a ?_ | refine bld_a ?_ | refine min_a ?_ | refine max_a ?_ | fail)
  obtain ⟨o, eo, ho⟩ := slK_from (b := b) (sz := cRw.sz) (n := xs.length) (c := cap) (lo := k + 1) (by omega) hkc
  refine pv_of (slK_to (sz := cRw.sz) (hi := k) (by omega)) ?_
  refine pv_of eo ?_
  have hys : RdL w0 (⟨b, 115, cRw.all xs ++ rest⟩ :: F) cRw.sz (.slice (some ⟨b, o, none⟩) (xs.length - (k + 1)) (cap - (k + 1))) (xs.length - (k + 1)) (cRw.all (xs.drop (k + 1))) := by
    by_cases h : k + 1 < xs.length
    · refine .inr ⟨b, o, cap - (k + 1), .t 115, cRw.all xs ++ rest, rfl, by omega, ⟨List.mem_cons_self .., rfl⟩, ?_, ?_⟩
      · rw [ho h, hll, ← Nat.add_mul]; exact Nat.mul_le_mul_right _ (by omega)
      · rw [ho h, List.drop_append_of_le_length (by rw [hfl]; exact Nat.mul_le_mul_right _ (by omega)), all_drop, List.take_append_of_le_length (by rw [all_len, List.length_drop]; exact Nat.le_refl _), List.take_of_length_le (by rw [all_len, List.length_drop]; exact Nat.le_refl _)]
    · have h0 : xs.length - (k + 1) = 0 := by omega
      rw [h0, List.drop_eq_nil_of_le (by omega)]
      exact .inl (.inr ⟨_, _, rfl, by omega, by rw [Nat.zero_mul]; rfl⟩)
  refine append_in (n := k) elRw (by assumption) hll (by omega) hys all_sc fun w1 H1 => ?_
  have en : k + (xs.length - (k + 1)) = xs.length - 1 := by omega
  rw [en]
  repeat (first | simp only [W0] | refine lss_a ?_ | refine lss_b ?_ | refine gtr_a ?_ | refine gtr_b ?_ | refine geq_a ?_ | refine geq_b ?_ | refine leq_a ?_ | refine leq_b ?_ | refine eql_a ?_ | refine eql_b ?_ | refine neq_a ?_ | refine neq_b ?_ | refine add_a ?_ | refine sub_a ?_ | refine ld_a ?_ | refine ldA_a ?_ | refine ldS_a ?_ | refine ldNS_a ?_ | refine rdA_s ?_ | refine rd1_s ?_ | refine drew_a fun w1 H1 => ?_ | refine st_a fun w1 H1 => ?_ | refine stA_a fun w1 H1 => ?_ | refine lenT_a ?_ | refine lenO_a ?_ | refine ixT_a ?_ | refine ixO_a ?_ | refine bld_a ?_ | refine min_a ?_ | refine max_a ?_ | fail)
  refine pv_of (slK_mid (sz := cRw.sz) (lo := xs.length - 1) (hi := xs.length) (by omega) hkc (by omega)) ?_
  have hdl : (cRw.all (xs.drop (k + 1))).length = (xs.length - (k + 1)) * cRw.sz := by rw [all_len, List.length_drop]
  have hlay : (lay (cRw.all xs ++ rest) (k * cRw.sz) (cRw.all (xs.drop (k + 1)))).length = cap * cRw.sz := by
    rw [lay_len (by rw [hll, hdl, ← Nat.add_mul]; exact Nat.mul_le_mul_right _ (by omega)), hll]
  refine clear_h (el := 115) elRw H1 (by omega) (by rw [hlay, ← Nat.add_mul]; exact Nat.mul_le_mul_right _ (by omega)) (by intro c hc; simp at hc; rcases hc with rfl | rfl <;> rfl) fun w2 l' hl1 hl2 H2 => ?_
  have hel : (cRw.all (xs.eraseIdx k)).length = (xs.length - 1) * cRw.sz := by rw [all_len, List.length_eraseIdx_of_lt hk]
  have hkl : (xs.take k).length = k := by rw [List.length_take]; omega
  have hpre : (lay (cRw.all xs ++ rest) (k * cRw.sz) (cRw.all (xs.drop (k + 1)))).take ((xs.length - 1) * cRw.sz) = cRw.all (xs.eraseIdx k) := by
    unfold lay
    rw [List.take_append_of_le_length (l₁ := cRw.all xs) (by rw [hfl]; exact Nat.mul_le_mul_right _ (by omega)), all_take, ← all_app, ← List.eraseIdx_eq_take_drop_succ, ← hel, List.take_left]
  have hl3 : l' = cRw.all (xs.eraseIdx k) ++ l'.drop ((xs.length - 1) * cRw.sz) := by
    conv => lhs; rw [← List.take_append_drop ((xs.length - 1) * cRw.sz) l', hl2, hpre]
  rw [hl3] at H2
  refine ⟨_, _, rfl, H2, TS.mk (by rw [List.length_eraseIdx_of_lt hk]) (by omega) ?_⟩
  rw [List.length_drop, hl1, hlay, ← Nat.sub_mul]
end
end Go.Proofs.YthcekppbbanfeaaGreat.Den
