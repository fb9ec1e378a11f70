/- Links: parts of slices taken out in place; what acknowledge does. Conditions: none. -/
import Derived.Test.YtmnpndgmfmjfhaaLkI
set_option linter.unusedVariables false
set_option linter.unusedSimpArgs false
set_option maxRecDepth 8000
namespace Go.Proofs.Ytmnpndgmfmjfhaa.Den
open Go Go.RowKit
section
variable {w w' : World} {w0 : Base} {T el sz bts n m : Nat} {z xs ys : List Value} {s src : Value} {cs F L : List Chunk} {K : VK} {R : ER}
/-- append where there is room. -/
theorem append_in {b cap : Nat} {l : List Value} {ty : Nat} {cc : Array Bool} (hT : ElT T el sz bts z) (H : Hp w0 w (⟨b, el, l⟩ :: F)) (hl : l.length = cap * sz) (hc : n + m ≤ cap) (hsrc : RdL w0 (⟨b, el, l⟩ :: F) sz src m ys) (hsc : ∀ c ∈ ys, scalar c = true)
    (k : ∀ w', Hp w0 w' (⟨b, el, lay l (n * sz) ys⟩ :: F) → K (.slice (some ⟨b, 0, none⟩) (n + m) cap) w') : blt Pg R .append ⟨[T, T]⟩ ty cc ⟨[.slice (some ⟨b, 0, none⟩) n cap, src]⟩ K w := by
  suffices hh : ∃ w', (Builtin.append_ #[T, T] ty #[.slice (some ⟨b, 0, none⟩) n cap, src]).run Pg w = .ok (.slice (some ⟨b, 0, none⟩) (n + m) cap) w' ∧ Hp w0 w' (⟨b, el, lay l (n * sz) ys⟩ :: F) by
    obtain ⟨w', h1, h2⟩ := hh
    unfold blt semV
    have : (builtin .append ⟨[T, T]⟩ ty cc ⟨[.slice (some ⟨b, 0, none⟩) n cap, src]⟩).run Pg w = .ok (.value (.slice (some ⟨b, 0, none⟩) (n + m) cap)) w' := run_value h1
    rw [this]
    exact k w' h2
  have hrd := hsrc.rd H
  obtain ⟨i, zv, hi, hi1, hi2, hi3, hi4⟩ := hT.parts
  have hsz : szO Pg el = some sz := by simp [szO, hi, hi1]
  have hlen := hrd.length
  have hu := fun w => run_underlying' (P := Pg) (w := w) hT.under
  have hss := fun w => run_sizeOf' (P := Pg) (w := w) hsz
  have hfs := run_firstCells (P := Pg) hrd
  have hlo := run_lenOf (P := Pg) hrd
  have h2 := (H.blk ⟨b, el, l⟩ (by simp)).2
  have hle : n * sz + 0 + ys.length ≤ l.length := by
    rw [hl, hlen, Nat.add_zero, ← Nat.add_mul]
    exact Nat.mul_le_mul_right _ hc
  obtain ⟨w', g1, g2, g3⟩ := run_storeCells_blk (P := Pg) ys (n * sz) 0 w l h2 hle hsc
  refine ⟨w', ?_, Hp.upd (c := ⟨b, el, l⟩) H g2 g3⟩
  unfold Builtin.append_
  simp [Sem.run_bind, hu, Result.andThen, hss, hlo, hc, hfs, add_mk, g1]
/-- What lies behind the end, cleared. -/
theorem clear_h {b o cap : Nat} {l : List Value} (hT : ElT T el sz bts z) (H : Hp w0 w (⟨b, el, l⟩ :: F)) (hn : 0 < n) (hle : o + n * sz ≤ l.length) (hz : ∀ c ∈ z, scalar c = true)
    (k : ∀ w' l', l'.length = l.length → l'.take o = l.take o → Hp w0 w' (⟨b, el, l'⟩ :: F) → K (.tuple #[]) w') : blt Pg R .clear ⟨[T]⟩ 0 ⟨[false]⟩ ⟨[.slice (some ⟨b, o, none⟩) n cap]⟩ K w := by
  obtain ⟨i, zv, hi, hi1, hi2, hi3, hi4⟩ := hT.parts
  have hu := fun w => run_underlying' (P := Pg) (w := w) hT.under
  have hz' : (Pg.info? el).bind (·.zero) = some zv := by simp [hi, hi3]
  have hzv := fun w => run_zeroValue' (P := Pg) (w := w) hz'
  have hzs : zv.cells.size = sz := by have := hT.len; rw [← hi4] at this; simpa using this
  have h2 := (H.blk ⟨b, el, l⟩ (by simp)).2
  have hcl : (Builtin.zeroCells zv.cells n).toList.length = n * sz := by rw [Array.length_toList, zeroCells_size, hzs]
  have hsc : ∀ c ∈ (Builtin.zeroCells zv.cells n).toList, scalar c = true := by
    intro c hc
    simp only [Builtin.zeroCells, Array.toList_map, List.mem_map, Array.toList_range, List.mem_range] at hc
    obtain ⟨i, hi, rfl⟩ := hc
    have hpos : 0 < zv.cells.size := by
      rcases Nat.eq_zero_or_pos zv.cells.size with h | h
      · rw [h] at hi; omega
      · exact h
    have hlt : i % zv.cells.size < zv.cells.size := Nat.mod_lt _ hpos
    rw [getElem!_pos zv.cells _ hlt]
    apply hz
    rw [← hi4]
    exact Array.getElem_mem_toList hlt
  obtain ⟨w', g1, g2, g3⟩ := run_storeCells_blk (P := Pg) (Builtin.zeroCells zv.cells n).toList o 0 w l h2 (by rw [hcl]; omega) hsc
  have hrun : (Builtin.clear_ #[T] 0 #[.slice (some ⟨b, o, none⟩) n cap]).run Pg w = .ok (.tuple #[]) w' := by
    unfold Builtin.clear_
    obtain ⟨n', rfl⟩ : ∃ n', n = n' + 1 := ⟨n - 1, by omega⟩
    simp [Sem.run_bind, hu, Result.andThen, hzv, g1]
  unfold blt semV
  have : (builtin .clear ⟨[T]⟩ 0 ⟨[false]⟩ ⟨[.slice (some ⟨b, o, none⟩) n cap]⟩).run Pg w = .ok (.value (.tuple #[])) w' := run_value hrun
  rw [this]
  refine k w' _ ?_ ?_ (Hp.upd (c := ⟨b, el, l⟩) H g2 g3)
  · unfold lay
    simp only [List.length_append, List.length_take, List.length_drop, hcl]; omega
  · unfold lay
    rw [Nat.add_zero, List.take_append_of_le_length (by simp; omega), List.take_append_of_le_length (by simp; omega), List.take_take, Nat.min_self]
/-- The check of Delete's bounds. -/
theorem slice3_h {a : Option Addr} {cap lo hi : Nat} (hT : ElT T el sz bts z) (h1 : lo ≤ hi) (h2 : hi ≤ n) (h3 : n ≤ cap) (k : ∀ v, K v w) : valV Pg R (Instr.sliceAt T (.slice a n cap) (some (I (lo : Int))) (some (I (hi : Int))) (some (I (n : Int)))) K w := by
  obtain ⟨i, zv, hi', hi1, hi2, hi3, hi4⟩ := hT.parts
  have hsz : szO Pg el = some sz := by simp [szO, hi', hi1]
  have hu := fun w => run_underlying' (P := Pg) (w := w) hT.under
  have hss := fun w => run_sizeOf' (P := Pg) (w := w) hsz
  have hb : ∀ {x y : Nat} {code : BoundsCode}, x ≤ y → (Instr.sliceBound (I (x : Int)) y code).run Pg w = .ok x w := by
    intro x y code h
    have : boundO (some (I (x : Int))) y 0 = some x := by simp only [boundO]; rw [if_pos (by omega)]; simp
    exact run_bound_some this
  have hbs : (Instr.sliceBounds true n cap (some (I (lo : Int))) (some (I (hi : Int))) (some (I (n : Int)))).run Pg w = .ok (lo, hi, n) w := by
    unfold Instr.sliceBounds
    simp [Sem.run_bind, Result.andThen, hb h3, hb h2, hb h1]
  have hr : ∃ v, (Instr.sliceAt T (.slice a n cap) (some (I (lo : Int))) (some (I (hi : Int))) (some (I (n : Int)))).run Pg w = .ok v w := by
    refine ⟨.slice (if n = lo then a else a.map (·.add (lo * sz))) (hi - lo) (n - lo), ?_⟩
    · unfold Instr.sliceAt Instr.slice
      simp only [Sem.run_bind, hu, Result.andThen, hbs, hss]
      rfl
  obtain ⟨v, hv⟩ := hr
  unfold valV
  rw [hv]
  exact k v
/-! ### Delete, of units -/
theorem slK_mid {b sz n c lo hi : Nat} (h1 : lo ≤ hi) (h2 : hi ≤ c) (h3 : lo < c) : slS sz (.slice (some ⟨b, 0, none⟩) n c) (some (I (lo : Int))) (some (I (hi : Int))) = some (.slice (some ⟨b, lo * sz, none⟩) (hi - lo) (c - lo)) := by
  simp only [slS, boundO]
  rw [if_pos (by omega)]
  simp only [Int.toNat_natCast]
  rw [if_pos (by omega)]
  simp only [Option.map_some, add_mk, Nat.zero_add]
  rw [if_neg (by omega)]
theorem slK_to {b sz n c hi : Nat} (h2 : hi ≤ c) : slS sz (.slice (some ⟨b, 0, none⟩) n c) none (some (I (hi : Int))) = some (.slice (some ⟨b, 0, none⟩) hi c) := by
  simp only [slS, boundO]
  rw [if_pos (by omega)]
  simp only [Int.toNat_natCast, Option.map_some, add_mk, Nat.zero_mul, Nat.sub_zero, Nat.zero_add]
  split <;> rfl
theorem slK_from {b sz n c lo : Nat} (h1 : lo ≤ n) (h2 : n ≤ c) : ∃ o, slS sz (.slice (some ⟨b, 0, none⟩) n c) (some (I (lo : Int))) none = some (.slice (some ⟨b, o, none⟩) (n - lo) (c - lo)) ∧ (lo < n → o = lo * sz) := by
  simp only [slS, boundO]
  rw [if_pos (by omega)]
  simp only [Int.toNat_natCast, Option.map_some, add_mk, Nat.zero_add]
  by_cases h : c = lo
  · rw [if_pos h]; exact ⟨0, rfl, fun h => by omega⟩
  · rw [if_neg h]; exact ⟨lo * sz, rfl, fun _ => rfl⟩
theorem flat_drop {α : Type} {sz : Nat} : ∀ {L : List (List α)}, (∀ l ∈ L, l.length = sz) → ∀ j, (L.drop j).flatten = L.flatten.drop (j * sz)
  | [], _, j => by simp
  | a :: L, h, 0 => by simp
  | a :: L, h, j + 1 => by
    have ha := h a (by simp)
    rw [List.drop_succ_cons, flat_drop (fun l hl => h l (by simp [hl])) j, List.flatten_cons, Nat.add_mul, Nat.one_mul, Nat.add_comm, ← List.drop_drop, List.drop_left' ha]
theorem ucells_drop (us : List UM) (sv : List Value) (j : Nat) : ucells (us.drop j) (sv.drop j) = (ucells us sv).drop (j * 6) := by
  unfold ucells
  rw [← flat_drop (zip_len us sv), List.drop_zipWith]
theorem ucells_scalar : ∀ {us : List UM} {sv : List Value}, (∀ s ∈ sv, scalar s = true) → ∀ c ∈ ucells us sv, scalar c = true
  | [], sv, _, c, h => by simp [ucells] at h
  | _ :: _, [], _, c, h => by simp [ucells] at h
  | u :: us, s :: sv, hs, c, h => by
    unfold ucells at h
    rw [List.zipWith_cons_cons, List.flatten_cons, List.mem_append] at h
    rcases h with h | h
    · simp [ucell] at h
      rcases h with rfl | rfl | rfl | rfl | rfl | rfl
      · rfl
      · rfl
      · rfl
      · rfl
      · exact hs _ (by simp)
      · rfl
    · exact ucells_scalar (us := us) (sv := sv) (fun s h => hs s (by simp [h])) c (by unfold ucells; exact h)
theorem Delete_spec {bu k cap i : Nat} {us : List UM} {sv rest : List Value} (H : Hp w0 w (⟨bu, 101, ucells us sv ++ rest⟩ :: F)) (hsv : sv.length = us.length) (hss : ∀ s ∈ sv, scalar s = true) (hk : k = us.length) (hkc : k ≤ cap) (hr : rest.length = (cap - k) * 6) (hi : i < k) :
    Calls Pg 64 ⟨[.slice (some ⟨bu, 0, none⟩) k cap, I 0, I ((i + 1 : Nat) : Int)]⟩ w fun e w' => ∃ rest', e = .returned (.slice (some ⟨bu, 0, none⟩) (k - (i + 1)) cap) ∧ rest'.length = (cap - (k - (i + 1))) * 6 ∧
      Hp w0 w' (⟨bu, 101, ucells (us.drop (i + 1)) (sv.drop (i + 1)) ++ rest'⟩ :: F) := by
  subst hk
  have hul := ucells_len hsv
  have hll : (ucells us sv ++ rest).length = cap * 6 := by rw [List.length_append, hul, hr, ← Nat.add_mul]; congr 1; omega
  apply slices_Delete_64_calls
  unfold slices_Delete_64
  simp only [pv_some, nilO_ptr, faO_mk, gd_yes, gd_no, gd_yes', gd_no', cnd_true, cnd_false, pick_true, pick_false, not_bool, bin_add, bin_sub, bin_mul, bin_eql, bin_neq, bin_lss, bin_leq, bin_gtr, bin_geq, ext0, ext1, ext2, lenS_mk, eqNil_none, eqNil_some, neNil_none, neNil_some, ret_k, mem, Nat.zero_add, Nat.add_zero, Nat.mul_one, drewV, Bool.not_true, Bool.not_false]
  refine slice3_h (lo := 0) (hi := i + 1) elT93 (by omega) (by omega) hkc fun v => ?_
  simp only [decide_eq_false (show ¬ ((0 : Int) = ((i + 1 : Nat) : Int)) from by omega), pv_some, nilO_ptr, faO_mk, gd_yes, gd_no, gd_yes', gd_no', cnd_true, cnd_false, pick_true, pick_false, not_bool, bin_add, bin_sub, bin_mul, bin_eql, bin_neq, bin_lss, bin_leq, bin_gtr, bin_geq, ext0, ext1, ext2, lenS_mk, eqNil_none, eqNil_some, neNil_none, neNil_some, ret_k, mem, Nat.zero_add, Nat.add_zero, Nat.mul_one, drewV, Bool.not_true, Bool.not_false]
  unfold slices_Delete_64_j1
  obtain ⟨o, eo, ho⟩ := slK_from (b := bu) (sz := 6) (n := us.length) (c := cap) (lo := i + 1) (by omega) hkc
  have e0 : slS 6 (.slice (some ⟨bu, 0, none⟩) us.length cap) none (some (.int .i64 0)) = some (.slice (some ⟨bu, 0, none⟩) 0 cap) := slK_to (hi := 0) (by omega)
  simp only [eo, e0, pv_some, nilO_ptr, faO_mk, gd_yes, gd_no, gd_yes', gd_no', cnd_true, cnd_false, pick_true, pick_false, not_bool, bin_add, bin_sub, bin_mul, bin_eql, bin_neq, bin_lss, bin_leq, bin_gtr, bin_geq, ext0, ext1, ext2, lenS_mk, eqNil_none, eqNil_some, neNil_none, neNil_some, ret_k, mem, Nat.zero_add, Nat.add_zero, Nat.mul_one, drewV, Bool.not_true, Bool.not_false]
  have hys : RdL w0 (⟨bu, 101, ucells us sv ++ rest⟩ :: F) 6 (.slice (some ⟨bu, o, none⟩) (us.length - (i + 1)) (cap - (i + 1))) (us.length - (i + 1)) (ucells (us.drop (i + 1)) (sv.drop (i + 1))) := by
    by_cases h : i + 1 < us.length
    · refine .inr ⟨bu, o, cap - (i + 1), 101, ucells us sv ++ rest, rfl, by omega, by simp, ?_, ?_⟩
      · rw [ho h, hll, ← Nat.add_mul]; exact Nat.mul_le_mul_right _ (by omega)
      · rw [ho h, ucells_drop, List.drop_append_of_le_length (by rw [hul]; exact Nat.mul_le_mul_right _ (by omega)), List.take_append_of_le_length (by rw [List.length_drop, hul, ← Nat.sub_mul]; omega), List.take_of_length_le (by rw [List.length_drop, hul, ← Nat.sub_mul]; omega)]
    · have h0 : us.length - (i + 1) = 0 := by omega
      rw [h0, List.drop_eq_nil_of_le (by omega)]
      exact .inl (.inr ⟨_, _, rfl, by omega, by rw [Nat.zero_mul]; rfl⟩)
  refine append_in (n := 0) elT93 H.drew hll (by omega) hys ?_ fun w1 H1 => ?_
  · exact ucells_scalar fun s h => hss s (List.mem_of_mem_drop h)
  have e2 : slS 6 (.slice (some ⟨bu, 0, none⟩) (us.length - (i + 1)) cap) (some (.int .i64 ((us.length - (i + 1) : Nat) : Int))) (some (.int .i64 (us.length : Int))) = some (.slice (some ⟨bu, (us.length - (i + 1)) * 6, none⟩) (us.length - (us.length - (i + 1))) (cap - (us.length - (i + 1)))) := slK_mid (by omega) hkc (by omega)
  simp only [e2, pv_some, nilO_ptr, faO_mk, gd_yes, gd_no, gd_yes', gd_no', cnd_true, cnd_false, pick_true, pick_false, not_bool, bin_add, bin_sub, bin_mul, bin_eql, bin_neq, bin_lss, bin_leq, bin_gtr, bin_geq, ext0, ext1, ext2, lenS_mk, eqNil_none, eqNil_some, neNil_none, neNil_some, ret_k, mem, Nat.zero_add, Nat.add_zero, Nat.mul_one, drewV, Bool.not_true, Bool.not_false]
  have hyl : (ucells (us.drop (i + 1)) (sv.drop (i + 1))).length = (us.length - (i + 1)) * 6 := by rw [ucells_len (by simp [hsv])]; simp
  have hlay : (lay (ucells us sv ++ rest) 0 (ucells (us.drop (i + 1)) (sv.drop (i + 1)))).length = cap * 6 := by
    unfold lay
    have : (us.length - (i + 1)) * 6 ≤ cap * 6 := Nat.mul_le_mul_right _ (by omega)
    simp only [List.length_append, List.length_take, List.length_drop, hyl]
    rw [List.length_append] at hll; omega
  rw [Nat.zero_mul] at H1
  refine clear_h (el := 101) elT93 H1 (by omega) ?_ (by intro c hc; simp at hc; rcases hc with rfl | rfl | rfl | rfl | rfl | rfl <;> rfl) fun w2 l' hl1 hl2 H2 => ?_
  · rw [hlay, ← Nat.add_mul]; exact Nat.mul_le_mul_right _ (by omega)
  have hl3 : l' = ucells (us.drop (i + 1)) (sv.drop (i + 1)) ++ l'.drop ((us.length - (i + 1)) * 6) := by
    conv => lhs; rw [← List.take_append_drop ((us.length - (i + 1)) * 6) l', hl2]
    congr 1
    unfold lay
    rw [List.take_zero, List.nil_append, List.take_append_of_le_length (by rw [hyl]; exact Nat.le_refl _), List.take_of_length_le (by rw [hyl]; exact Nat.le_refl _)]
  refine ⟨l'.drop ((us.length - (i + 1)) * 6), by trivial, ?_, ?_⟩
  · rw [List.length_drop, hl1, hlay, ← Nat.sub_mul]
  · rw [← hl3]; exact H2
end
end Go.Proofs.Ytmnpndgmfmjfhaa.Den
