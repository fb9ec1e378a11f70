/- Links: New, the error of a time, the usable wires, the wires of a unit, walked. Conditions: none. -/
import Derived.Test.YtmnpndgmfmjfhaaQ8
section
set_option linter.unusedVariables false
set_option linter.unusedSimpArgs false
set_option maxRecDepth 8000
namespace Go.Proofs.Ytmnpndgmfmjfhaa.Den
open Go Go.RowKit
theorem cellsI (k : IntKind) (n : Int) : (Value.int k n).cells = #[.int k n] := rfl
theorem cellsB (b : Bool) : (Value.bool b).cells = #[.bool b] := rfl
theorem cellsA (cs : Array Value) : (Value.agg cs).cells = cs := rfl
section
variable {w : World} {w0 : Base} {F L : List Chunk} {R : ER}
theorem newbld {s : Value} {size q t : Int} (h : s.cells = #[s]) (wires : Nat) :
    bldO [.slice none 0 0, I 0, I 0, I 0, I 0, .slice none 0 0, I 0, I 0, I 0, I 0, .bool false, I 0, .bool false, I 0, I 0, .slice none 0 0, .slice none 0 0, .slice none 0 0]
      [(0, 1, s), (1, 1, I size), (2, 1, I q), (3, 1, I t), (11, 5, .agg ⟨[I 2, .bool false, I 1, I 0, .slice none 0 0]⟩)] = some (.agg ⟨lkc (newM wires size q t) s (.slice none 0 0) (.slice none 0 0) (.slice none 0 0)⟩) := by
  simp [bldO, buildL, h, cellsI, cellsB, cellsA, lkc, newM]
theorem bldE : bldO [I 0, .bool false, I 0, I 0, .slice none 0 0] [(0, 1, I 2), (2, 1, I 1)] = some (.agg ⟨[I 2, .bool false, I 1, I 0, .slice none 0 0]⟩) := rfl
/-- What New hands back. -/
def NewPost (w0 : Base) (F : List Chunk) (Lkx : Base → Nat → LM → List Chunk → Prop) (wires size quality timeout : Int) : ER := fun e w' =>
  (newE wires size quality timeout ≠ 0 → e = .returned (.tuple ⟨[.pointer none, I (newE wires size quality timeout)]⟩) ∧ Hp w0 w' F) ∧
  (newE wires size quality timeout = 0 → ∃ b L, e = .returned (.tuple ⟨[ptr b 0, I 0]⟩) ∧ Hp w0 w' (L ++ F) ∧ Lkx w0 b (newM wires.toNat size quality timeout) L)
theorem New_spec {wires size quality timeout : Int} (H : Hp w0 w F) : Calls Pg 29 ⟨[I wires, I size, I quality, I timeout]⟩ w (NewPost w0 F Lk wires size quality timeout) := by
  apply F29_calls
  unfold F29 F29_j3
  have bad : (wires < 1 ∨ 8 < wires ∨ size < 32 ∨ 4096 < size ∨ timeout < 1 ∨ 1099511627776 < timeout) → NewPost w0 F Lk wires size quality timeout (.returned (.tuple ⟨[.pointer none, I 34]⟩)) w := by
    intro h
    have e : newE wires size quality timeout = 34 := by unfold newE; rw [if_pos h]
    refine ⟨fun _ => by rw [e]; exact ⟨rfl, H⟩, fun h' => ?_⟩
    rw [e] at h'; exact absurd h' (by decide)
  simp only [pv_some, nilO_ptr, faO_mk, gd_yes, gd_no, gd_yes', gd_no', cnd_true, cnd_false, pick_true, pick_false, not_bool, bin_add, bin_sub, bin_mul, bin_eql, bin_neq, bin_lss, bin_leq, bin_gtr, bin_geq, ext0, ext1, ext2, lenS_mk, eqNil_none, eqNil_some, neNil_none, neNil_some, ret_k, mem, Nat.zero_add, Nat.add_zero, Nat.mul_one, drewV, Bool.not_true, Bool.not_false]
  by_cases h1 : wires < 1
  · simp only [decide_eq_true h1, pv_some, nilO_ptr, faO_mk, gd_yes, gd_no, gd_yes', gd_no', cnd_true, cnd_false, pick_true, pick_false, not_bool, bin_add, bin_sub, bin_mul, bin_eql, bin_neq, bin_lss, bin_leq, bin_gtr, bin_geq, ext0, ext1, ext2, lenS_mk, eqNil_none, eqNil_some, neNil_none, neNil_some, ret_k, mem, Nat.zero_add, Nat.add_zero, Nat.mul_one, drewV, Bool.not_true, Bool.not_false]; exact bad (by omega)
  simp only [decide_eq_false h1, pv_some, nilO_ptr, faO_mk, gd_yes, gd_no, gd_yes', gd_no', cnd_true, cnd_false, pick_true, pick_false, not_bool, bin_add, bin_sub, bin_mul, bin_eql, bin_neq, bin_lss, bin_leq, bin_gtr, bin_geq, ext0, ext1, ext2, lenS_mk, eqNil_none, eqNil_some, neNil_none, neNil_some, ret_k, mem, Nat.zero_add, Nat.add_zero, Nat.mul_one, drewV, Bool.not_true, Bool.not_false]
  by_cases h2 : 8 < wires
  · simp only [decide_eq_true h2, pv_some, nilO_ptr, faO_mk, gd_yes, gd_no, gd_yes', gd_no', cnd_true, cnd_false, pick_true, pick_false, not_bool, bin_add, bin_sub, bin_mul, bin_eql, bin_neq, bin_lss, bin_leq, bin_gtr, bin_geq, ext0, ext1, ext2, lenS_mk, eqNil_none, eqNil_some, neNil_none, neNil_some, ret_k, mem, Nat.zero_add, Nat.add_zero, Nat.mul_one, drewV, Bool.not_true, Bool.not_false]; exact bad (by omega)
  simp only [decide_eq_false h2, pv_some, nilO_ptr, faO_mk, gd_yes, gd_no, gd_yes', gd_no', cnd_true, cnd_false, pick_true, pick_false, not_bool, bin_add, bin_sub, bin_mul, bin_eql, bin_neq, bin_lss, bin_leq, bin_gtr, bin_geq, ext0, ext1, ext2, lenS_mk, eqNil_none, eqNil_some, neNil_none, neNil_some, ret_k, mem, Nat.zero_add, Nat.add_zero, Nat.mul_one, drewV, Bool.not_true, Bool.not_false]
  by_cases h3 : size < 32
  · simp only [decide_eq_true h3, pv_some, nilO_ptr, faO_mk, gd_yes, gd_no, gd_yes', gd_no', cnd_true, cnd_false, pick_true, pick_false, not_bool, bin_add, bin_sub, bin_mul, bin_eql, bin_neq, bin_lss, bin_leq, bin_gtr, bin_geq, ext0, ext1, ext2, lenS_mk, eqNil_none, eqNil_some, neNil_none, neNil_some, ret_k, mem, Nat.zero_add, Nat.add_zero, Nat.mul_one, drewV, Bool.not_true, Bool.not_false]; exact bad (by omega)
  simp only [decide_eq_false h3, pv_some, nilO_ptr, faO_mk, gd_yes, gd_no, gd_yes', gd_no', cnd_true, cnd_false, pick_true, pick_false, not_bool, bin_add, bin_sub, bin_mul, bin_eql, bin_neq, bin_lss, bin_leq, bin_gtr, bin_geq, ext0, ext1, ext2, lenS_mk, eqNil_none, eqNil_some, neNil_none, neNil_some, ret_k, mem, Nat.zero_add, Nat.add_zero, Nat.mul_one, drewV, Bool.not_true, Bool.not_false]
  by_cases h4 : 4096 < size
  · simp only [decide_eq_true h4, pv_some, nilO_ptr, faO_mk, gd_yes, gd_no, gd_yes', gd_no', cnd_true, cnd_false, pick_true, pick_false, not_bool, bin_add, bin_sub, bin_mul, bin_eql, bin_neq, bin_lss, bin_leq, bin_gtr, bin_geq, ext0, ext1, ext2, lenS_mk, eqNil_none, eqNil_some, neNil_none, neNil_some, ret_k, mem, Nat.zero_add, Nat.add_zero, Nat.mul_one, drewV, Bool.not_true, Bool.not_false]; exact bad (by omega)
  simp only [decide_eq_false h4, pv_some, nilO_ptr, faO_mk, gd_yes, gd_no, gd_yes', gd_no', cnd_true, cnd_false, pick_true, pick_false, not_bool, bin_add, bin_sub, bin_mul, bin_eql, bin_neq, bin_lss, bin_leq, bin_gtr, bin_geq, ext0, ext1, ext2, lenS_mk, eqNil_none, eqNil_some, neNil_none, neNil_some, ret_k, mem, Nat.zero_add, Nat.add_zero, Nat.mul_one, drewV, Bool.not_true, Bool.not_false]
  by_cases h5 : timeout < 1
  · simp only [decide_eq_true h5, pv_some, nilO_ptr, faO_mk, gd_yes, gd_no, gd_yes', gd_no', cnd_true, cnd_false, pick_true, pick_false, not_bool, bin_add, bin_sub, bin_mul, bin_eql, bin_neq, bin_lss, bin_leq, bin_gtr, bin_geq, ext0, ext1, ext2, lenS_mk, eqNil_none, eqNil_some, neNil_none, neNil_some, ret_k, mem, Nat.zero_add, Nat.add_zero, Nat.mul_one, drewV, Bool.not_true, Bool.not_false]; exact bad (by omega)
  simp only [decide_eq_false h5, pv_some, nilO_ptr, faO_mk, gd_yes, gd_no, gd_yes', gd_no', cnd_true, cnd_false, pick_true, pick_false, not_bool, bin_add, bin_sub, bin_mul, bin_eql, bin_neq, bin_lss, bin_leq, bin_gtr, bin_geq, ext0, ext1, ext2, lenS_mk, eqNil_none, eqNil_some, neNil_none, neNil_some, ret_k, mem, Nat.zero_add, Nat.add_zero, Nat.mul_one, drewV, Bool.not_true, Bool.not_false]
  by_cases h6 : 1099511627776 < timeout
  · simp only [decide_eq_true h6, pv_some, nilO_ptr, faO_mk, gd_yes, gd_no, gd_yes', gd_no', cnd_true, cnd_false, pick_true, pick_false, not_bool, bin_add, bin_sub, bin_mul, bin_eql, bin_neq, bin_lss, bin_leq, bin_gtr, bin_geq, ext0, ext1, ext2, lenS_mk, eqNil_none, eqNil_some, neNil_none, neNil_some, ret_k, mem, Nat.zero_add, Nat.add_zero, Nat.mul_one, drewV, Bool.not_true, Bool.not_false]; exact bad (by omega)
  simp only [decide_eq_false h6, pv_some, nilO_ptr, faO_mk, gd_yes, gd_no, gd_yes', gd_no', cnd_true, cnd_false, pick_true, pick_false, not_bool, bin_add, bin_sub, bin_mul, bin_eql, bin_neq, bin_lss, bin_leq, bin_gtr, bin_geq, ext0, ext1, ext2, lenS_mk, eqNil_none, eqNil_some, neNil_none, neNil_some, ret_k, mem, Nat.zero_add, Nat.add_zero, Nat.mul_one, drewV, Bool.not_true, Bool.not_false]
  have hne : ¬ (wires < 1 ∨ 8 < wires ∨ size < 32 ∨ 4096 < size ∨ timeout < 1 ∨ 1099511627776 < timeout) := by omega
  unfold F29_j1
  simp only [pv_some, nilO_ptr, faO_mk, gd_yes, gd_no, gd_yes', gd_no', cnd_true, cnd_false, pick_true, pick_false, not_bool, bin_add, bin_sub, bin_mul, bin_eql, bin_neq, bin_lss, bin_leq, bin_gtr, bin_geq, ext0, ext1, ext2, lenS_mk, eqNil_none, eqNil_some, neNil_none, neNil_some, ret_k, mem, Nat.zero_add, Nat.add_zero, Nat.mul_one, drewV, Bool.not_true, Bool.not_false]
  have bad2 : (quality < 0 ∨ 2 < quality) → NewPost w0 F Lk wires size quality timeout (.returned (.tuple ⟨[.pointer none, I 17]⟩)) w := by
    intro h
    have e : newE wires size quality timeout = 17 := by unfold newE; rw [if_neg hne, if_pos h]
    refine ⟨fun _ => by rw [e]; exact ⟨rfl, H⟩, fun h' => ?_⟩
    rw [e] at h'; exact absurd h' (by decide)
  by_cases h7 : quality < 0
  · simp only [decide_eq_true h7, pv_some, nilO_ptr, faO_mk, gd_yes, gd_no, gd_yes', gd_no', cnd_true, cnd_false, pick_true, pick_false, not_bool, bin_add, bin_sub, bin_mul, bin_eql, bin_neq, bin_lss, bin_leq, bin_gtr, bin_geq, ext0, ext1, ext2, lenS_mk, eqNil_none, eqNil_some, neNil_none, neNil_some, ret_k, mem, Nat.zero_add, Nat.add_zero, Nat.mul_one, drewV, Bool.not_true, Bool.not_false]; exact bad2 (by omega)
  simp only [decide_eq_false h7, pv_some, nilO_ptr, faO_mk, gd_yes, gd_no, gd_yes', gd_no', cnd_true, cnd_false, pick_true, pick_false, not_bool, bin_add, bin_sub, bin_mul, bin_eql, bin_neq, bin_lss, bin_leq, bin_gtr, bin_geq, ext0, ext1, ext2, lenS_mk, eqNil_none, eqNil_some, neNil_none, neNil_some, ret_k, mem, Nat.zero_add, Nat.add_zero, Nat.mul_one, drewV, Bool.not_true, Bool.not_false]
  by_cases h8 : 2 < quality
  · simp only [decide_eq_true h8, pv_some, nilO_ptr, faO_mk, gd_yes, gd_no, gd_yes', gd_no', cnd_true, cnd_false, pick_true, pick_false, not_bool, bin_add, bin_sub, bin_mul, bin_eql, bin_neq, bin_lss, bin_leq, bin_gtr, bin_geq, ext0, ext1, ext2, lenS_mk, eqNil_none, eqNil_some, neNil_none, neNil_some, ret_k, mem, Nat.zero_add, Nat.add_zero, Nat.mul_one, drewV, Bool.not_true, Bool.not_false]; exact bad2 (by omega)
  simp only [decide_eq_false h8, pv_some, nilO_ptr, faO_mk, gd_yes, gd_no, gd_yes', gd_no', cnd_true, cnd_false, pick_true, pick_false, not_bool, bin_add, bin_sub, bin_mul, bin_eql, bin_neq, bin_lss, bin_leq, bin_gtr, bin_geq, ext0, ext1, ext2, lenS_mk, eqNil_none, eqNil_some, neNil_none, neNil_some, ret_k, mem, Nat.zero_add, Nat.add_zero, Nat.mul_one, drewV, Bool.not_true, Bool.not_false]
  have e0 : newE wires size quality timeout = 0 := by unfold newE; rw [if_neg hne, if_neg (by omega)]
  obtain ⟨n, rfl⟩ : ∃ n : Nat, wires = (n : Int) := ⟨wires.toNat, by omega⟩
  unfold F29_j2
  refine lit1s_h elT92 H rfl fun w1 b1 H1 => ?_
  refine cal_h (Repeat_spec (n := n) (by omega) (by omega) H1) ?_
  rintro e w2 ⟨nb, rfl, H2⟩
  simp only [pv_some, nilO_ptr, faO_mk, gd_yes, gd_no, gd_yes', gd_no', cnd_true, cnd_false, pick_true, pick_false, not_bool, bin_add, bin_sub, bin_mul, bin_eql, bin_neq, bin_lss, bin_leq, bin_gtr, bin_geq, ext0, ext1, ext2, lenS_mk, eqNil_none, eqNil_some, neNil_none, neNil_some, ret_k, mem, Nat.zero_add, Nat.add_zero, Nat.mul_one, drewV, Bool.not_true, Bool.not_false]
  rw [bldE]
  simp only [pv_some, nilO_ptr, faO_mk, gd_yes, gd_no, gd_yes', gd_no', cnd_true, cnd_false, pick_true, pick_false, not_bool, bin_add, bin_sub, bin_mul, bin_eql, bin_neq, bin_lss, bin_leq, bin_gtr, bin_geq, ext0, ext1, ext2, lenS_mk, eqNil_none, eqNil_some, neNil_none, neNil_some, ret_k, mem, Nat.zero_add, Nat.add_zero, Nat.mul_one, drewV, Bool.not_true, Bool.not_false]
  rw [newbld rfl n]
  simp only [pv_some, nilO_ptr, faO_mk, gd_yes, gd_no, gd_yes', gd_no', cnd_true, cnd_false, pick_true, pick_false, not_bool, bin_add, bin_sub, bin_mul, bin_eql, bin_neq, bin_lss, bin_leq, bin_gtr, bin_geq, ext0, ext1, ext2, lenS_mk, eqNil_none, eqNil_some, neNil_none, neNil_some, ret_k, mem, Nat.zero_add, Nat.add_zero, Nat.mul_one, drewV, Bool.not_true, Bool.not_false]
  refine bxa_h H2 fun w3 b H3 => ?_
  refine ⟨fun h => absurd e0 h, fun _ => ⟨b, _, rfl, H3.to (L' := (⟨b, 96, lkc (newM n size quality timeout) (.slice (some ⟨nb, 0, none⟩) n n) (.slice none 0 0) (.slice none 0 0) (.slice none 0 0)⟩ :: ([⟨nb, 4, List.replicate n (.bool true)⟩] ++ ([] ++ ([] ++ ([] ++ []))))) ++ F) (by intro f; simp only [I, U8, U64, ptr, List.set_cons_zero, List.set_cons_succ, List.eraseIdx_cons_zero, List.eraseIdx_cons_succ, List.map_append, List.map_cons, List.map_nil, List.sum_append, List.sum_cons, List.sum_nil]; omega), ?_⟩⟩
  refine ⟨_, _, _, _, _, _, _, _, _, [], ⟨?_, Sl.nil, rfl, ?_, Sl.nil, Sl.nil⟩, rfl⟩
  · have : (newM n size quality timeout).up = List.replicate n true := rfl
    simp only [Int.toNat_natCast, this, List.length_replicate, List.map_replicate]
    exact Sl.full (by simp)
  · intro i u s h; simp [newM] at h
/-! ### the error of a time -/
def timeE (M : LM) (now : Int) : Int := if now < 0 ∨ 1099511627776 < now then 34 else if now < M.clock then 30 else if M.broken then 4 else 0
theorem time_spec {b : Nat} {M : LM} {now : Int} {su sus sp sa : Value} {tb : Nat} (H : Hp w0 w (⟨b, tb, lkc M su sus sp sa⟩ :: F)) :
    Calls Pg 34 ⟨[ptr b 0, I now]⟩ w fun e w' => e = .returned (I (timeE M now)) ∧ w' = w := by
  apply F34_calls
  unfold F34
  simp only [pv_some, nilO_ptr, faO_mk, gd_yes, gd_no, gd_yes', gd_no', cnd_true, cnd_false, pick_true, pick_false, not_bool, bin_add, bin_sub, bin_mul, bin_eql, bin_neq, bin_lss, bin_leq, bin_gtr, bin_geq, ext0, ext1, ext2, lenS_mk, eqNil_none, eqNil_some, neNil_none, neNil_some, ret_k, mem, Nat.zero_add, Nat.add_zero, Nat.mul_one, drewV, Bool.not_true, Bool.not_false]
  have bad : (now < 0 ∨ 1099511627776 < now) → (Ending.returned (Value.int .i64 34) = .returned (I (timeE M now)) ∧ True) := by
    intro h; unfold timeE; rw [if_pos h]; exact ⟨rfl, trivial⟩
  by_cases h1 : now < 0
  · simp only [decide_eq_true h1, pv_some, nilO_ptr, faO_mk, gd_yes, gd_no, gd_yes', gd_no', cnd_true, cnd_false, pick_true, pick_false, not_bool, bin_add, bin_sub, bin_mul, bin_eql, bin_neq, bin_lss, bin_leq, bin_gtr, bin_geq, ext0, ext1, ext2, lenS_mk, eqNil_none, eqNil_some, neNil_none, neNil_some, ret_k, mem, Nat.zero_add, Nat.add_zero, Nat.mul_one, drewV, Bool.not_true, Bool.not_false]; exact bad (.inl h1)
  simp only [decide_eq_false h1, pv_some, nilO_ptr, faO_mk, gd_yes, gd_no, gd_yes', gd_no', cnd_true, cnd_false, pick_true, pick_false, not_bool, bin_add, bin_sub, bin_mul, bin_eql, bin_neq, bin_lss, bin_leq, bin_gtr, bin_geq, ext0, ext1, ext2, lenS_mk, eqNil_none, eqNil_some, neNil_none, neNil_some, ret_k, mem, Nat.zero_add, Nat.add_zero, Nat.mul_one, drewV, Bool.not_true, Bool.not_false]
  by_cases h2 : 1099511627776 < now
  · simp only [decide_eq_true h2, pv_some, nilO_ptr, faO_mk, gd_yes, gd_no, gd_yes', gd_no', cnd_true, cnd_false, pick_true, pick_false, not_bool, bin_add, bin_sub, bin_mul, bin_eql, bin_neq, bin_lss, bin_leq, bin_gtr, bin_geq, ext0, ext1, ext2, lenS_mk, eqNil_none, eqNil_some, neNil_none, neNil_some, ret_k, mem, Nat.zero_add, Nat.add_zero, Nat.mul_one, drewV, Bool.not_true, Bool.not_false]; exact bad (.inr h2)
  simp only [decide_eq_false h2, pv_some, nilO_ptr, faO_mk, gd_yes, gd_no, gd_yes', gd_no', cnd_true, cnd_false, pick_true, pick_false, not_bool, bin_add, bin_sub, bin_mul, bin_eql, bin_neq, bin_lss, bin_leq, bin_gtr, bin_geq, ext0, ext1, ext2, lenS_mk, eqNil_none, eqNil_some, neNil_none, neNil_some, ret_k, mem, Nat.zero_add, Nat.add_zero, Nat.mul_one, drewV, Bool.not_true, Bool.not_false]
  have hn : ¬ (now < 0 ∨ 1099511627776 < now) := by omega
  refine ld_h H 0 rfl rfl ?_
  refine cnd_decide (fun h3 => ?_) (fun h3 => ?_)
  · unfold timeE; rw [if_neg hn, if_pos h3]; exact ⟨rfl, rfl⟩
  · refine ld_h H 0 rfl rfl ?_
    have e : timeE M now = if M.broken then 4 else 0 := by unfold timeE; rw [if_neg hn, if_neg h3]
    rw [e]
    cases hb : M.broken with
    | true => simp only [pv_some, nilO_ptr, faO_mk, gd_yes, gd_no, gd_yes', gd_no', cnd_true, cnd_false, pick_true, pick_false, not_bool, bin_add, bin_sub, bin_mul, bin_eql, bin_neq, bin_lss, bin_leq, bin_gtr, bin_geq, ext0, ext1, ext2, lenS_mk, eqNil_none, eqNil_some, neNil_none, neNil_some, ret_k, mem, Nat.zero_add, Nat.add_zero, Nat.mul_one, drewV, Bool.not_true, Bool.not_false]; exact ⟨by trivial, trivial⟩
    | false => simp only [pv_some, nilO_ptr, faO_mk, gd_yes, gd_no, gd_yes', gd_no', cnd_true, cnd_false, pick_true, pick_false, not_bool, bin_add, bin_sub, bin_mul, bin_eql, bin_neq, bin_lss, bin_leq, bin_gtr, bin_geq, ext0, ext1, ext2, lenS_mk, eqNil_none, eqNil_some, neNil_none, neNil_some, ret_k, mem, Nat.zero_add, Nat.add_zero, Nat.mul_one, drewV, Bool.not_true, Bool.not_false]; exact ⟨by trivial, trivial⟩
/-! ### the usable wires -/
def useI : Nat → List Bool → List Int
  | _, [] => []
  | i, b :: r => if b then (i : Int) :: useI (i + 1) r else useI (i + 1) r
def iv (xs : List Int) : List Value := xs.map I
theorem iv_length (xs : List Int) : (iv xs).length = xs.length := by simp [iv]
theorem useI_le : ∀ (l : List Bool) (i : Nat), (useI i l).length ≤ l.length
  | [], _ => Nat.le_refl _
  | b :: r, i => by
    simp only [useI, List.length_cons]
    have := useI_le r (i + 1)
    split
    · simp; omega
    · omega
theorem use_l {b : Nat} {up : List Bool} {su : Value} {cu : List Chunk} (hup : Sl 4 1 su up.length (up.map .bool) cu) (hcu : ∀ c ∈ cu, c ∈ F) (h8 : up.length < 2 ^ 20)
    (hq : ∀ w' s' cs', Hp w0 w' (cs' ++ F) → Sl 3 1 s' (useI 0 up).length (iv (useI 0 up)) cs' → R (.returned s') w') :
    ∀ (d i : Nat) (w : World) (acc : List Int) (s : Value) (cs : List Chunk), i + d = up.length → acc ++ useI i (up.drop i) = useI 0 up → acc.length ≤ i → Hp w0 w (cs ++ F) → Sl 3 1 s acc.length (iv acc) cs →
      F38_l1 R (d + 1) s su (I (up.length : Int)) (I (i : Int)) w := by
  intro d
  induction d with
  | zero =>
    intro i w acc s cs hi ha hl H hs
    rw [F38_l1_succ]
    unfold F38_b1 F38_j1
    simp only [pv_some, nilO_ptr, faO_mk, gd_yes, gd_no, gd_yes', gd_no', cnd_true, cnd_false, pick_true, pick_false, not_bool, bin_add, bin_sub, bin_mul, bin_eql, bin_neq, bin_lss, bin_leq, bin_gtr, bin_geq, ext0, ext1, ext2, lenS_mk, eqNil_none, eqNil_some, neNil_none, neNil_some, ret_k, mem, Nat.zero_add, Nat.add_zero, Nat.mul_one, drewV, Bool.not_true, Bool.not_false, show decide ((i : Int) < (up.length : Int)) = false from decide_eq_false (by omega)]
    rw [List.drop_eq_nil_of_le (by omega)] at ha
    simp only [useI, List.append_nil] at ha
    subst ha
    exact hq w s cs H hs
  | succ d ih =>
    intro i w acc s cs hi ha hl H hs
    rw [F38_l1_succ]
    unfold F38_b1 F38_j4 F38_j5
    have hlt : i < up.length := by omega
    have hrd := (hup.rdL (w0 := w0) (L := cs ++ F) (fun c hc => by simp [hcu c hc])).rd H
    simp only [pv_some, nilO_ptr, faO_mk, gd_yes, gd_no, gd_yes', gd_no', cnd_true, cnd_false, pick_true, pick_false, not_bool, bin_add, bin_sub, bin_mul, bin_eql, bin_neq, bin_lss, bin_leq, bin_gtr, bin_geq, ext0, ext1, ext2, lenS_mk, eqNil_none, eqNil_some, neNil_none, neNil_some, ret_k, mem, Nat.zero_add, Nat.add_zero, Nat.mul_one, drewV, Bool.not_true, Bool.not_false, show decide ((i : Int) < (up.length : Int)) = true from decide_eq_true (by omega)]
    refine ix1_rd (v := .bool up[i]) hrd (by simp [hlt]) ?_
    rw [List.drop_eq_getElem_cons hlt] at ha
    cases hb : up[i] with
    | true =>
      rw [hb, useI] at ha
      simp only [pv_some, nilO_ptr, faO_mk, gd_yes, gd_no, gd_yes', gd_no', cnd_true, cnd_false, pick_true, pick_false, not_bool, bin_add, bin_sub, bin_mul, bin_eql, bin_neq, bin_lss, bin_leq, bin_gtr, bin_geq, ext0, ext1, ext2, lenS_mk, eqNil_none, eqNil_some, neNil_none, neNil_some, ret_k, mem, Nat.zero_add, Nat.add_zero, Nat.mul_one, drewV, Bool.not_true, Bool.not_false]
      refine lit1s_h elT104 H rfl fun w1 nb H1 => ?_
      have H2 : Hp w0 w1 (cs ++ (⟨nb, 3, [I (i : Int)]⟩ :: F)) := H1.to (by intro f; simp only [I, U8, U64, ptr, List.set_cons_zero, List.set_cons_succ, List.eraseIdx_cons_zero, List.eraseIdx_cons_succ, List.map_append, List.map_cons, List.map_nil, List.sum_append, List.sum_cons, List.sum_nil]; omega)
      refine append_h elT104 H2 hs (m := 1) (ys := iv [(i : Int)]) (.inr ⟨nb, 0, 1, 3, [I (i : Int)], rfl, by omega, by simp, by simp, rfl⟩) (by simp [iv, scalar]) (by omega) (by omega) fun w3 s3 cs3 H3 hs3 => ?_
      rw [wrap64_id (by omega) (by omega), show (i : Int) + 1 = ((i + 1 : Nat) : Int) from by omega]
      refine ih (i + 1) w3 (acc ++ [(i : Int)]) s3 cs3 (by omega) (by rw [← ha]; simp) (by simp; omega) (H3.to (by intro f; simp only [I, U8, U64, ptr, List.set_cons_zero, List.set_cons_succ, List.eraseIdx_cons_zero, List.eraseIdx_cons_succ, List.map_append, List.map_cons, List.map_nil, List.sum_append, List.sum_cons, List.sum_nil]; omega)) ?_
      have : iv acc ++ iv [(i : Int)] = iv (acc ++ [(i : Int)]) := by simp [iv]
      rw [this] at hs3
      simpa using hs3
    | false =>
      rw [hb, useI] at ha
      simp only [pv_some, nilO_ptr, faO_mk, gd_yes, gd_no, gd_yes', gd_no', cnd_true, cnd_false, pick_true, pick_false, not_bool, bin_add, bin_sub, bin_mul, bin_eql, bin_neq, bin_lss, bin_leq, bin_gtr, bin_geq, ext0, ext1, ext2, lenS_mk, eqNil_none, eqNil_some, neNil_none, neNil_some, ret_k, mem, Nat.zero_add, Nat.add_zero, Nat.mul_one, drewV, Bool.not_true, Bool.not_false]
      rw [wrap64_id (by omega) (by omega), show (i : Int) + 1 = ((i + 1 : Nat) : Int) from by omega]
      exact ih (i + 1) w acc s cs (by omega) (by simpa using ha) (by omega) H hs
theorem usable_spec {b : Nat} {M : LM} {su sus sp sa : Value} {cu : List Chunk} {tb : Nat} (H : Hp w0 w (⟨b, tb, lkc M su sus sp sa⟩ :: F)) (hup : Sl 4 1 su M.up.length (M.up.map .bool) cu) (hcu : ∀ c ∈ cu, c ∈ F) (h8 : M.up.length < 2 ^ 20) :
    Calls Pg 38 ⟨[ptr b 0]⟩ w fun e w' => ∃ s' cs', e = .returned s' ∧ Hp w0 w' (cs' ++ (⟨b, tb, lkc M su sus sp sa⟩ :: F)) ∧ Sl 3 1 s' (useI 0 M.up).length (iv (useI 0 M.up)) cs' := by
  apply F38_calls
  unfold F38 F38_j2
  simp only [pv_some, nilO_ptr, faO_mk, gd_yes, gd_no, gd_yes', gd_no', cnd_true, cnd_false, pick_true, pick_false, not_bool, bin_add, bin_sub, bin_mul, bin_eql, bin_neq, bin_lss, bin_leq, bin_gtr, bin_geq, ext0, ext1, ext2, lenS_mk, eqNil_none, eqNil_some, neNil_none, neNil_some, ret_k, mem, Nat.zero_add, Nat.add_zero, Nat.mul_one, drewV, Bool.not_true, Bool.not_false]
  refine ld_h H 0 rfl rfl ?_
  simp only [lenS_sl hup, pv_some, nilO_ptr, faO_mk, gd_yes, gd_no, gd_yes', gd_no', cnd_true, cnd_false, pick_true, pick_false, not_bool, bin_add, bin_sub, bin_mul, bin_eql, bin_neq, bin_lss, bin_leq, bin_gtr, bin_geq, ext0, ext1, ext2, lenS_mk, eqNil_none, eqNil_some, neNil_none, neNil_some, ret_k, mem, Nat.zero_add, Nat.add_zero, Nat.mul_one, drewV, Bool.not_true, Bool.not_false]
  unfold F38_j3
  exact ⟨M.up.length + 1, use_l (b := b) (F := ⟨b, tb, lkc M su sus sp sa⟩ :: F) hup (fun c hc => by simp [hcu c hc]) h8 (fun w' s' cs' H' hs' => ⟨s', cs', rfl, H', hs'⟩) M.up.length 0 w [] (.slice none 0 0) [] (by omega) (by simp) (by simp) H Sl.nil⟩
/-! ### the wires of a unit -/
def overI (q turn : Int) (ws : List Int) : List Int := if q = 0 then ws.take 1 else if q = 1 then (ws.drop (turn.tmod (ws.length : Int)).toNat).take 1 else ws
def overT (q turn : Int) : Int := if q = 0 then turn else if q = 1 then turn + 1 else turn
/-- A part of a slice of elements of one cell. -/
theorem slS1 {s : Value} {n lo hi : Nat} {xs : List Value} {el : Nat} {cs : List Chunk} (hs : Sl el 1 s n xs cs) (hcs : ∀ c ∈ cs, c ∈ L) (hne : 0 < n) (h1 : lo ≤ hi) (h2 : hi ≤ n) (hlo : lo < n) :
    ∃ s', slS 1 s (some (I (lo : Int))) (some (I (hi : Int))) = some s' ∧ RdL w0 L 1 s' (hi - lo) ((xs.drop lo).take (hi - lo)) := by
  obtain ⟨b, cap, rest, rfl, rfl, g1, g2, g3⟩ := hs.chunk hne
  refine ⟨.slice (some ⟨b, lo, none⟩) (hi - lo) (cap - lo), ?_, ?_⟩
  · simp only [slS, boundO]
    rw [if_pos (by omega)]
    simp only []
    rw [if_pos (by omega)]
    simp only [Int.toNat_natCast, Option.map_some, add_mk, Nat.mul_one, Nat.zero_add]
    rw [if_neg (by omega)]
  · refine .inr ⟨b, lo, cap - lo, el, xs ++ rest, rfl, by omega, hcs _ (by simp), by simp; omega, ?_⟩
    rw [Nat.mul_one, List.drop_append_of_le_length (by omega), List.take_append_of_le_length (by simp; omega)]
theorem over_spec {b : Nat} {M : LM} {su sus sp sa s : Value} {ws : List Int} {cw : List Chunk} {tb : Nat} (H : Hp w0 w (⟨b, tb, lkc M su sus sp sa⟩ :: F)) (hws : Sl 3 1 s ws.length (iv ws) cw) (hcw : ∀ c ∈ cw, c ∈ F)
    (hne : 0 < ws.length) (hw : ws.length < 2 ^ 20) (ht0 : 0 ≤ M.turn) (ht : M.turn < 2 ^ 60) :
    Calls Pg 39 ⟨[ptr b 0, s]⟩ w fun e w' => ∃ s', e = .returned s' ∧ Hp w0 w' (⟨b, tb, lkc { M with turn := overT M.quality M.turn } su sus sp sa⟩ :: F) ∧ RdL w0 cw 1 s' (overI M.quality M.turn ws).length (iv (overI M.quality M.turn ws)) := by
  apply F39_calls
  unfold F39
  simp only [pv_some, nilO_ptr, faO_mk, gd_yes, gd_no, gd_yes', gd_no', cnd_true, cnd_false, pick_true, pick_false, not_bool, bin_add, bin_sub, bin_mul, bin_eql, bin_neq, bin_lss, bin_leq, bin_gtr, bin_geq, ext0, ext1, ext2, lenS_mk, eqNil_none, eqNil_some, neNil_none, neNil_some, ret_k, mem, Nat.zero_add, Nat.add_zero, Nat.mul_one, drewV, Bool.not_true, Bool.not_false]
  refine ld_h H 0 rfl rfl ?_
  simp only [pv_some, nilO_ptr, faO_mk, gd_yes, gd_no, gd_yes', gd_no', cnd_true, cnd_false, pick_true, pick_false, not_bool, bin_add, bin_sub, bin_mul, bin_eql, bin_neq, bin_lss, bin_leq, bin_gtr, bin_geq, ext0, ext1, ext2, lenS_mk, eqNil_none, eqNil_some, neNil_none, neNil_some, ret_k, mem, Nat.zero_add, Nat.add_zero, Nat.mul_one, drewV, Bool.not_true, Bool.not_false]
  refine cnd_decide (fun h0 => ?_) (fun h0 => ?_)
  · obtain ⟨s', e1, r1⟩ := slS1 (w0 := w0) (L := cw) (lo := 0) (hi := 1) hws (fun c hc => hc) hne (by omega) (by omega) hne
    have e2 : slS 1 s none (some (I 1)) = some s' := by
      rw [← e1]
      obtain ⟨b', cap, rest, _, rfl, g1, g2, g3⟩ := hws.chunk hne
      simp only [slS, boundO]; rfl
    simp only [e2, pv_some, nilO_ptr, faO_mk, gd_yes, gd_no, gd_yes', gd_no', cnd_true, cnd_false, pick_true, pick_false, not_bool, bin_add, bin_sub, bin_mul, bin_eql, bin_neq, bin_lss, bin_leq, bin_gtr, bin_geq, ext0, ext1, ext2, lenS_mk, eqNil_none, eqNil_some, neNil_none, neNil_some, ret_k, mem, Nat.zero_add, Nat.add_zero, Nat.mul_one, drewV, Bool.not_true, Bool.not_false]
    refine ⟨s', rfl, ?_, ?_⟩
    · unfold overT; rw [if_pos h0]; exact H
    · unfold overI; rw [if_pos h0]
      have : (ws.take 1).length = 1 := by rw [List.length_take]; omega
      rw [this]
      simpa [iv, List.map_take] using r1
  · refine cnd_decide (fun h1 => ?_) (fun h1 => ?_)
    · refine ld_h H 0 rfl rfl ?_
      simp only [lenS_sl hws, pv_some, nilO_ptr, faO_mk, gd_yes, gd_no, gd_yes', gd_no', cnd_true, cnd_false, pick_true, pick_false, not_bool, bin_add, bin_sub, bin_mul, bin_eql, bin_neq, bin_lss, bin_leq, bin_gtr, bin_geq, ext0, ext1, ext2, lenS_mk, eqNil_none, eqNil_some, neNil_none, neNil_some, ret_k, mem, Nat.zero_add, Nat.add_zero, Nat.mul_one, drewV, Bool.not_true, Bool.not_false]
      rw [bin_rem (by omega)]
      simp only [pv_some, nilO_ptr, faO_mk, gd_yes, gd_no, gd_yes', gd_no', cnd_true, cnd_false, pick_true, pick_false, not_bool, bin_add, bin_sub, bin_mul, bin_eql, bin_neq, bin_lss, bin_leq, bin_gtr, bin_geq, ext0, ext1, ext2, lenS_mk, eqNil_none, eqNil_some, neNil_none, neNil_some, ret_k, mem, Nat.zero_add, Nat.add_zero, Nat.mul_one, drewV, Bool.not_true, Bool.not_false]
      refine ld_h H 0 rfl rfl ?_
      simp only [pv_some, nilO_ptr, faO_mk, gd_yes, gd_no, gd_yes', gd_no', cnd_true, cnd_false, pick_true, pick_false, not_bool, bin_add, bin_sub, bin_mul, bin_eql, bin_neq, bin_lss, bin_leq, bin_gtr, bin_geq, ext0, ext1, ext2, lenS_mk, eqNil_none, eqNil_some, neNil_none, neNil_some, ret_k, mem, Nat.zero_add, Nat.add_zero, Nat.mul_one, drewV, Bool.not_true, Bool.not_false]
      refine st_h H 0 rfl (by simp [lkc]) rfl fun w2 H2 => ?_
      obtain ⟨k, hk⟩ : ∃ k : Nat, M.turn.tmod (ws.length : Int) = (k : Int) := ⟨(M.turn.tmod (ws.length : Int)).toNat, by have := Int.tmod_nonneg (ws.length : Int) ht0; omega⟩
      have hkl : k < ws.length := by
        have := Int.tmod_lt_of_pos M.turn (show (0 : Int) < (ws.length : Int) from by omega); omega
      obtain ⟨s', e1, r1⟩ := slS1 (w0 := w0) (L := cw) (lo := k) (hi := k + 1) hws (fun c hc => hc) hne (by omega) (by omega) hkl
      rw [hk]
      rw [wrap64_id (a := (k : Int) + 1) (by omega) (by omega), show (k : Int) + 1 = ((k + 1 : Nat) : Int) from by omega, e1]
      simp only [pv_some, nilO_ptr, faO_mk, gd_yes, gd_no, gd_yes', gd_no', cnd_true, cnd_false, pick_true, pick_false, not_bool, bin_add, bin_sub, bin_mul, bin_eql, bin_neq, bin_lss, bin_leq, bin_gtr, bin_geq, ext0, ext1, ext2, lenS_mk, eqNil_none, eqNil_some, neNil_none, neNil_some, ret_k, mem, Nat.zero_add, Nat.add_zero, Nat.mul_one, drewV, Bool.not_true, Bool.not_false]
      refine ⟨s', rfl, ?_, ?_⟩
      · have e : overT M.quality M.turn = IntKind.i64.wrap (M.turn + 1) := by
          unfold overT; rw [if_neg h0, if_pos h1, wrap64_id (by omega) (by omega)]
        rw [e]; exact H2
      · unfold overI; rw [if_neg h0, if_pos h1, hk, Int.toNat_natCast]
        have : ((ws.drop k).take 1).length = 1 := by rw [List.length_take, List.length_drop]; omega
        rw [this]
        rw [show k + 1 - k = 1 from by omega] at r1
        simpa [iv, List.map_take, List.map_drop] using r1
    · refine ⟨s, rfl, ?_, ?_⟩
      · unfold overT; rw [if_neg h0, if_neg h1]; exact H
      · unfold overI; rw [if_neg h0, if_neg h1]
        exact hws.rdL (fun c hc => hc)
end
end Go.Proofs.Ytmnpndgmfmjfhaa.Den
end

section
set_option linter.unusedVariables false
set_option linter.unusedSimpArgs false
set_option maxRecDepth 8000
namespace Go.Proofs.Ytmnpndgmfmjfhaa.Den
open Go Go.RowKit
/-- The pieces of a message. -/
def pcs : Nat → Nat → List Int → List (List Int)
  | 0, _, _ => []
  | n + 1, sz, d => if d.length ≤ sz then [d] else d.take sz :: pcs n sz (d.drop sz)
def addU (sent : Int) : Nat → List (List Int) → List UM
  | _, [] => []
  | k, p :: ps => ⟨false, sent, (k : Int), p, -1⟩ :: addU sent (k + 1) ps
def setLast (l : List UM) : List UM := match l[l.length - 1]? with
  | some u => l.set (l.length - 1) { u with last := true }
  | none => l
def sendE (M : LM) (d : List Int) (now : Int) : Int := if 4096 < d.length then 20 else if timeE M now ≠ 0 then timeE M now else if 64 ≤ M.sent - M.done then 2 else if 1099511627776 ≤ M.sent then 18 else 0
def sendM (M : LM) (d : List Int) (now : Int) : LM :=
  if sendE M d now = 0 then { M with clock := now, sent := M.sent + 1, us := setLast (M.us ++ addU (M.sent + 1) 0 (pcs (d.length + 1) (M.size - 24).toNat d)) } else M
section
variable {w w' : World} {w0 : Base} {F L : List Chunk} {R : ER}
theorem Ext.putObj (w : World) (k : Nat) (o : Obj) : Ext [k] w (w.putObj k o) :=
  ⟨rfl, rfl, rfl, by simp, fun j hj hn => World.putObj_heap_other (by simpa using hn), Nat.le_refl _⟩
/-- A pinned block is changed. -/
theorem Hp.repin {b : Nat} {o o' : Obj} (H : Hp { w0 with pins := (b, o) :: w0.pins } w L) (hn : ∀ p ∈ w0.pins, p.1 ≠ b) : Hp { w0 with pins := (b, o') :: w0.pins } (w.putObj b o') L := by
  obtain ⟨H1, h2, h3, h4⟩ := H.pinOff
  have he := Ext.putObj w b o'
  have hlt := (Array.getElem?_eq_some_iff.1 h2).1
  have Hn : Hp w0 (w.putObj b o') L := by
    refine ⟨⟨H1.ext.os, H1.ext.tape, H1.ext.output, by have := H1.ext.size; simpa using this, fun k hk _ => ?_, H1.ext.drawn⟩, fun c hc => ⟨(H1.blk c hc).1, (H1.blk c hc).2.ext he (by simpa using h3 c hc)⟩, H1.nd, fun p hp => ⟨(H1.pin p hp).1, ?_, (H1.pin p hp).2.2⟩⟩
    · rw [World.putObj_heap_other (by omega)]; exact H1.ext.block k hk (by simp)
    · rw [World.putObj_heap_other (hn p hp)]; exact (H1.pin p hp).2.1
  exact Hn.pinOn h4 (World.putObj_heap_same hlt) h3
theorem min2I_nat (a b : Nat) : min2I (I (a : Int)) (I (b : Int)) = some (I ((min a b : Nat) : Int)) := by
  simp only [min2I]; congr 2; split <;> omega
theorem rd_cells {s : Value} {n : Nat} {ys : List Value} (h : RdL w0 L 1 s n ys) : s.cells = #[s] ∧ scalar s = true := by
  rcases h with (⟨c, rfl, h0, rfl⟩ | ⟨a, c, rfl, hm, h⟩) | ⟨b, o, c, el, l, rfl, _⟩ <;> exact ⟨rfl, rfl⟩
theorem pieces_spec {s : Value} {n : Nat} {d : List Int} {size : Int} (H : Hp w0 w F) (hs : RdL w0 F 1 s n (bv d)) :
    Calls Pg 35 ⟨[s, I size]⟩ w fun e w' => ∃ db zb, e = .returned (.func (.func 61) ⟨[]⟩ ⟨[ptr zb 0, ptr db 0]⟩) ∧ Hp w0 w' (⟨zb, 3, [I size]⟩ :: ⟨db, 24, [s]⟩ :: F) := by
  apply F35_calls
  unfold F35
  refine bxs_h H (rd_cells hs).1 fun w1 db H1 => ?_
  refine bxs_h H1 rfl fun w2 zb H2 => ?_
  exact ⟨db, zb, rfl, H2⟩
theorem slS_pre {s : Value} {n k : Nat} {xs : List Int} (hs : RdL w0 F 1 s n (bv xs)) (hk : k ≤ n) : ∃ s', slS 1 s none (some (I (k : Int))) = some s' ∧ RdL w0 F 1 s' k (bv (xs.take k)) := by
  by_cases hn : 0 < n
  · obtain ⟨s', h1, h2, _⟩ := slS_to hs rfl hn hk; exact ⟨s', h1, h2⟩
  · have hk0 : k = 0 := by omega
    have hn0 : n = 0 := by omega
    subst hk0; subst hn0
    have hl := hs.length
    rw [bv_length] at hl
    have hx : xs = [] := by cases xs with | nil => rfl | cons a b => simp at hl
    subst hx
    refine ⟨s, ?_, by simpa [bv] using hs⟩
    rcases hs with (⟨c, rfl, h0, _⟩ | ⟨a, c, rfl, hm, h⟩) | ⟨b, o, c, el, l, rfl, _⟩
    · simp only [slS, boundO]; simp
    · simp only [slS, boundO]; simp [Addr.add]
    · simp only [slS, boundO]; simp [add_mk]
theorem slS_suf {s : Value} {n k : Nat} {xs : List Int} (hs : RdL w0 F 1 s n (bv xs)) (hn : 0 < n) (hk : k ≤ n) : ∃ s', slS 1 s (some (I (k : Int))) none = some s' ∧ RdL w0 F 1 s' (n - k) (bv (xs.drop k)) := by
  obtain ⟨s', h1, h2, _⟩ := slS_from hs rfl hn hk; exact ⟨s', h1, h2⟩
/-- The link's chunks behind its block, with the units ahead. -/
theorem bldU {m f : Int} {s : Value} (h : s.cells = #[s]) : bldO [I 0, .bool false, I 0, I 0, .slice none 0 0] [(0, 1, I 1), (2, 1, I m), (3, 1, I f), (4, 1, s)] = some (.agg ⟨frm 1 false m f s⟩) := by
  simp [bldO, buildL, h, cellsI, cellsB, cellsA, frm]
theorem bldU2 {m f : Int} {s : Value} : bldO [I 0, .bool false, I 0, I 0, .slice none 0 0, I 0] [(0, 5, .agg ⟨frm 1 false m f s⟩), (5, 1, I (-1))] = some (.agg ⟨ucell ⟨false, m, f, [], -1⟩ s⟩) := by
  simp [bldO, buildL, cellsI, cellsB, cellsA, frm, ucell]
/-- One round of Send. -/
theorem send_b1 {lb b k : Nat} {M : LM} {su sus sp sa p : Value} {cu cus cp ca D : List Chunk} {sv : List Value} {d : List Int} {N Bk Rt : WP} (hlk : LkP 101 107 w0 M su sus sp sa cu cus cp ca D sv)
    (H : Hp w0 w (⟨lb, 31, [ptr b 0]⟩ :: ⟨b, 96, lkc M su sus sp sa⟩ :: (cus ++ (cu ++ (cp ++ (ca ++ (D ++ F))))))) (hp : RdL w0 F 1 p d.length (bv d)) (hd : d.length < 2 ^ 30) (hus : M.us.length < 2 ^ 30)
    (hN : ∀ w' sus' cus' D' sv', LkP 101 107 w0 { M with us := M.us ++ [⟨false, M.sent, (k : Int), d, -1⟩] } su sus' sp sa cu cus' cp ca D' sv' →
      Hp w0 w' (⟨lb, 31, [ptr b 0]⟩ :: ⟨b, 96, lkc { M with us := M.us ++ [⟨false, M.sent, (k : Int), d, -1⟩] } su sus' sp sa⟩ :: (cus' ++ (cu ++ (cp ++ (ca ++ (D' ++ F)))))) → N w') :
    F12_b1 noR N Bk Rt (ptr lb 0) (I (k : Int)) p w := by
  unfold F12_b1
  have H0 := H.drew
  simp only [pv_some, nilO_ptr, faO_mk, gd_yes, gd_no, gd_yes', gd_no', cnd_true, cnd_false, pick_true, pick_false, not_bool, bin_add, bin_sub, bin_mul, bin_eql, bin_neq, bin_lss, bin_leq, bin_gtr, bin_geq, ext0, ext1, ext2, lenS_mk, eqNil_none, eqNil_some, neNil_none, neNil_some, ret_k, mem, Nat.zero_add, Nat.add_zero, Nat.mul_one, drewV, Bool.not_true, Bool.not_false]
  refine ld_h H0 0 rfl rfl ?_
  refine ld_h H0 0 rfl rfl ?_
  simp only [pv_some, nilO_ptr, faO_mk, gd_yes, gd_no, gd_yes', gd_no', cnd_true, cnd_false, pick_true, pick_false, not_bool, bin_add, bin_sub, bin_mul, bin_eql, bin_neq, bin_lss, bin_leq, bin_gtr, bin_geq, ext0, ext1, ext2, lenS_mk, eqNil_none, eqNil_some, neNil_none, neNil_some, ret_k, mem, Nat.zero_add, Nat.add_zero, Nat.mul_one, drewV, Bool.not_true, Bool.not_false]
  refine ld_h H0 1 rfl rfl ?_
  refine ld_h H0 0 rfl rfl ?_
  simp only [pv_some, nilO_ptr, faO_mk, gd_yes, gd_no, gd_yes', gd_no', cnd_true, cnd_false, pick_true, pick_false, not_bool, bin_add, bin_sub, bin_mul, bin_eql, bin_neq, bin_lss, bin_leq, bin_gtr, bin_geq, ext0, ext1, ext2, lenS_mk, eqNil_none, eqNil_some, neNil_none, neNil_some, ret_k, mem, Nat.zero_add, Nat.add_zero, Nat.mul_one, drewV, Bool.not_true, Bool.not_false]
  refine ld_h H0 1 rfl rfl ?_
  refine cal_h (Clone_spec (hp.mono (fun c hc => by simp [hc])) (by omega) H0) ?_
  rintro e w1 ⟨s', cs', rfl, H1, hs'⟩
  have H1' : Hp w0 w1 (⟨lb, 31, [ptr b 0]⟩ :: ⟨b, 96, lkc M su sus sp sa⟩ :: (cus ++ (cu ++ (cp ++ (ca ++ ((cs' ++ D) ++ F)))))) := H1.to (by intro f; simp only [I, U8, U64, ptr, List.set_cons_zero, List.set_cons_succ, List.eraseIdx_cons_zero, List.eraseIdx_cons_succ, List.map_append, List.map_cons, List.map_nil, List.sum_append, List.sum_cons, List.sum_nil]; omega)
  simp only [ret_k]
  simp only [rd1_t (H1'.cell 0 (o := 0) rfl rfl), rd1_t (H1'.cell 1 (o := 5) rfl rfl), rd1_t (H1'.cell 1 (o := 6) rfl rfl), bldU (sl_cells hs'), bldU2, pv_some, nilO_ptr, faO_mk, gd_yes, gd_no, gd_yes', gd_no', cnd_true, cnd_false, pick_true, pick_false, not_bool, bin_add, bin_sub, bin_mul, bin_eql, bin_neq, bin_lss, bin_leq, bin_gtr, bin_geq, ext0, ext1, ext2, lenS_mk, eqNil_none, eqNil_some, neNil_none, neNil_some, ret_k, mem, Nat.zero_add, Nat.add_zero, Nat.mul_one, drewV, Bool.not_true, Bool.not_false]
  refine lit1_h (v := .agg ⟨ucell ⟨false, M.sent, (k : Int), [], -1⟩ s'⟩) elT93 H1' rfl (by omega) fun w2 nb H2 => ?_
  have H2' : Hp w0 w2 (⟨lb, 31, [ptr b 0]⟩ :: ⟨b, 96, lkc M su sus sp sa⟩ :: (⟨nb, 101, ucell ⟨false, M.sent, (k : Int), [], -1⟩ s'⟩ :: (cus ++ (cu ++ (cp ++ (ca ++ ((cs' ++ D) ++ F))))))) := H2.rot2
  simp only [rd1_t (H2'.cell 0 (o := 0) rfl rfl), rd1_t (H2'.cell 1 (o := 5) rfl rfl), pv_some, nilO_ptr, faO_mk, gd_yes, gd_no, gd_yes', gd_no', cnd_true, cnd_false, pick_true, pick_false, not_bool, bin_add, bin_sub, bin_mul, bin_eql, bin_neq, bin_lss, bin_leq, bin_gtr, bin_geq, ext0, ext1, ext2, lenS_mk, eqNil_none, eqNil_some, neNil_none, neNil_some, ret_k, mem, Nat.zero_add, Nat.add_zero, Nat.mul_one, drewV, Bool.not_true, Bool.not_false]
  have H2c : Hp w0 w2 (cus ++ (⟨lb, 31, [ptr b 0]⟩ :: ⟨b, 96, lkc M su sus sp sa⟩ :: (⟨nb, 101, ucell ⟨false, M.sent, (k : Int), [], -1⟩ s'⟩ :: (cu ++ (cp ++ (ca ++ ((cs' ++ D) ++ F))))))) := H2'.to (by intro f; simp only [I, U8, U64, ptr, List.set_cons_zero, List.set_cons_succ, List.eraseIdx_cons_zero, List.eraseIdx_cons_succ, List.map_append, List.map_cons, List.map_nil, List.sum_append, List.sum_cons, List.sum_nil]; omega)
  refine append_h elT93 H2c hlk.us (m := 1) (ys := ucell ⟨false, M.sent, (k : Int), [], -1⟩ s') (.inr ⟨nb, 0, 1, 101, ucell ⟨false, M.sent, (k : Int), [], -1⟩ s', rfl, by omega, by simp, by simp [ucell], rfl⟩)
    (by intro c hc; simp only [ucell, List.mem_cons, List.not_mem_nil, or_false] at hc; rcases hc with rfl | rfl | rfl | rfl | rfl | rfl <;> first | rfl | exact sl_scalar hs') (by omega) (by omega) fun w3 s3 cs3 H3 h3 => ?_
  have H3' : Hp w0 w3 (⟨lb, 31, [ptr b 0]⟩ :: ⟨b, 96, lkc M su sus sp sa⟩ :: (cs3 ++ (cu ++ (cp ++ (ca ++ ((cs' ++ D) ++ F)))))) := H3.to (by intro f; simp only [I, U8, U64, ptr, List.set_cons_zero, List.set_cons_succ, List.eraseIdx_cons_zero, List.eraseIdx_cons_succ, List.map_append, List.map_cons, List.map_nil, List.sum_append, List.sum_cons, List.sum_nil]; omega)
  simp only [rd1_t (H3'.cell 0 (o := 0) rfl rfl), pv_some, nilO_ptr, faO_mk, gd_yes, gd_no, gd_yes', gd_no', cnd_true, cnd_false, pick_true, pick_false, not_bool, bin_add, bin_sub, bin_mul, bin_eql, bin_neq, bin_lss, bin_leq, bin_gtr, bin_geq, ext0, ext1, ext2, lenS_mk, eqNil_none, eqNil_some, neNil_none, neNil_some, ret_k, mem, Nat.zero_add, Nat.add_zero, Nat.mul_one, drewV, Bool.not_true, Bool.not_false]
  refine st_h H3' 1 rfl (by simp [lkc]) (sl_scalar h3) fun w4 H4 => ?_
  refine hN w4 s3 cs3 (cs' ++ D) (sv ++ [s']) ⟨hlk.up, ?_, by simp [hlk.svl], ?_, hlk.part, hlk.acks⟩ H4
  · rw [ucells_append hlk.svl]
    have e : ucells [⟨false, M.sent, (k : Int), d, -1⟩] [s'] = ucell ⟨false, M.sent, (k : Int), [], -1⟩ s' := by simp [ucells, ucell]
    rw [e, List.length_append]
    exact h3
  · intro i u s hu hs
    by_cases hi : i < M.us.length
    · rw [List.getElem?_append_left hi] at hu
      rw [List.getElem?_append_left (by rw [hlk.svl]; exact hi)] at hs
      obtain ⟨g1, g2, g3⟩ := hlk.dat i u s hu hs
      exact ⟨g1.mono (fun c hc => by simp [hc]), g2, g3⟩
    · rw [List.getElem?_append_right (by omega)] at hu
      rw [List.getElem?_append_right (by rw [hlk.svl]; omega), hlk.svl] at hs
      have hi0 : i - M.us.length = 0 := by
        have := (List.getElem?_eq_some_iff.1 hu).1
        simp at this; omega
      rw [hi0] at hu hs
      simp only [List.getElem?_cons_zero, Option.some.injEq] at hu hs
      subst hu; subst hs
      exact ⟨hs'.rdL (fun c hc => by simp [hc]), sl_cells hs', sl_scalar hs'⟩
theorem addU_length (sent : Int) : ∀ (k : Nat) (ps : List (List Int)), (addU sent k ps).length = ps.length
  | _, [] => rfl
  | k, p :: ps => by simp [addU, addU_length sent (k + 1) ps]
theorem pcs_length : ∀ (n sz : Nat) (d : List Int), (pcs n sz d).length ≤ n
  | 0, _, _ => Nat.le_refl _
  | n + 1, sz, d => by
    unfold pcs; split
    · simp
    · have := pcs_length n sz (d.drop sz); simp; omega
/-- The iterator and its rounds. -/
theorem send_loop {l lb b zb db sz : Nat} {rc : Loop} {su sp sa x6 x7 x54 : Value} {cu cp ca : List Chunk} {M0 : LM} {US : List UM} (hsz : 1 ≤ sz) (hpn : ∀ p ∈ w0.pins, p.1 ≠ l)
    (hy : YieldIs Pg l rc 0 fun B N Bk Rt ys => rbm2 (links_Link_Send_rb (ptr lb 0) x6 x7 x54 B N Bk Rt) ys) (hUS : US.length < 2 ^ 30)
    (hq : ∀ w' s' sus' cus' D' sv', LkP 101 107 w0 { M0 with us := US } su sus' sp sa cu cus' cp ca D' sv' →
      Hp { w0 with pins := (l, .loop rc) :: w0.pins } w' (⟨zb, 3, [I (sz : Int)]⟩ :: ⟨db, 24, [s']⟩ :: ⟨lb, 31, [ptr b 0]⟩ :: ⟨b, 96, lkc { M0 with us := US } su sus' sp sa⟩ :: (cus' ++ (cu ++ (cp ++ (ca ++ (D' ++ F)))))) → R (.returned (.tuple ⟨[]⟩)) w') :
    ∀ (fuel k : Nat) (rest : List Int) (s : Value) (us : List UM) (w : World) (sus : Value) (cus D : List Chunk) (sv : List Value), rest.length < fuel → rest.length < 2 ^ 30 → k + rest.length < 2 ^ 31 →
      us ++ addU M0.sent k (pcs fuel sz rest) = US → LkP 101 107 w0 { M0 with us := us } su sus sp sa cu cus cp ca D sv → RdL w0 F 1 s rest.length (bv rest) →
      Hp { w0 with pins := (l, .loop rc) :: w0.pins } w (⟨zb, 3, [I (sz : Int)]⟩ :: ⟨db, 24, [s]⟩ :: ⟨lb, 31, [ptr b 0]⟩ :: ⟨b, 96, lkc { M0 with us := us } su sus sp sa⟩ :: (cus ++ (cu ++ (cp ++ (ca ++ (D ++ F)))))) →
      F61_l1 R fuel (yv l) (ptr zb 0) (ptr db 0) (I (k : Int)) w
  | 0, k, rest, s, us, w, sus, cus, D, sv, hf, _, _, _, _, _, _ => by omega
  | fuel + 1, k, rest, s, us, w, sus, cus, D, sv, hf, hr, hk, hU, hlk, hs, H => by
    rw [F61_l1_succ]
    unfold F61_b1
    refine ld_h H 0 rfl rfl ?_
    refine ld_h H 1 rfl rfl ?_
    simp only [lenS_rdL hs, min2I_nat, pv_some, nilO_ptr, faO_mk, gd_yes, gd_no, gd_yes', gd_no', cnd_true, cnd_false, pick_true, pick_false, not_bool, bin_add, bin_sub, bin_mul, bin_eql, bin_neq, bin_lss, bin_leq, bin_gtr, bin_geq, ext0, ext1, ext2, lenS_mk, eqNil_none, eqNil_some, neNil_none, neNil_some, ret_k, mem, Nat.zero_add, Nat.add_zero, Nat.mul_one, drewV, Bool.not_true, Bool.not_false]
    refine ld_h H 1 rfl rfl ?_
    obtain ⟨p, e1, g1⟩ := slS_pre hs (Nat.min_le_right sz rest.length)
    simp only [e1, pv_some, nilO_ptr, faO_mk, gd_yes, gd_no, gd_yes', gd_no', cnd_true, cnd_false, pick_true, pick_false, not_bool, bin_add, bin_sub, bin_mul, bin_eql, bin_neq, bin_lss, bin_leq, bin_gtr, bin_geq, ext0, ext1, ext2, lenS_mk, eqNil_none, eqNil_some, neNil_none, neNil_some, ret_k, mem, Nat.zero_add, Nat.add_zero, Nat.mul_one, drewV, Bool.not_true, Bool.not_false]
    have hl := H.pinOff.2.1
    refine hy _ _ _ _ hl ?_
    have hpl : (rest.take (min sz rest.length)).length = min sz rest.length := by rw [List.length_take]; omega
    have husl : us.length < 2 ^ 30 := by rw [← hU] at hUS; simp at hUS; omega
    refine ⟨hl, ?_⟩
    have HB := H.repin (o' := busyRec rc) hpn
    have HB2 : Hp { w0 with pins := (l, busyRec rc) :: w0.pins } (w.putObj l (busyRec rc)) (⟨lb, 31, [ptr b 0]⟩ :: ⟨b, 96, lkc { M0 with us := us } su sus sp sa⟩ :: (cus ++ (cu ++ (cp ++ (ca ++ (D ++ (⟨zb, 3, [I (sz : Int)]⟩ :: ⟨db, 24, [s]⟩ :: F))))))) := HB.to (by intro f; simp only [I, U8, U64, ptr, List.set_cons_zero, List.set_cons_succ, List.eraseIdx_cons_zero, List.eraseIdx_cons_succ, List.map_append, List.map_cons, List.map_nil, List.sum_append, List.sum_cons, List.sum_nil]; omega)
    refine send_b1 (w0 := { w0 with pins := (l, busyRec rc) :: w0.pins }) (d := rest.take (min sz rest.length)) (M := { M0 with us := us }) (F := ⟨zb, 3, [I (sz : Int)]⟩ :: ⟨db, 24, [s]⟩ :: F) ⟨hlk.up, hlk.us, hlk.svl, hlk.dat, hlk.part, hlk.acks⟩ HB2
      (by rw [hpl]; exact RdL.mono (w0 := { w0 with pins := (l, busyRec rc) :: w0.pins }) g1 (fun c hc => by simp [hc])) (by omega) husl fun w2 sus2 cus2 D2 sv2 hlk2 H2 => ?_
    refine ⟨H2.pinOff.2.1, ?_⟩
    have H3 := H2.repin (o' := .loop rc) hpn
    have H3' : Hp { w0 with pins := (l, .loop rc) :: w0.pins } (w2.putObj l (.loop rc)) (⟨zb, 3, [I (sz : Int)]⟩ :: ⟨db, 24, [s]⟩ :: ⟨lb, 31, [ptr b 0]⟩ :: ⟨b, 96, lkc { M0 with us := us ++ [⟨false, M0.sent, (k : Int), rest.take (min sz rest.length), -1⟩] } su sus2 sp sa⟩ :: (cus2 ++ (cu ++ (cp ++ (ca ++ (D2 ++ F)))))) := H3.to (by intro f; simp only [I, U8, U64, ptr, List.set_cons_zero, List.set_cons_succ, List.eraseIdx_cons_zero, List.eraseIdx_cons_succ, List.map_append, List.map_cons, List.map_nil, List.sum_append, List.sum_cons, List.sum_nil]; omega)
    have hlk3 : LkP 101 107 w0 { M0 with us := us ++ [⟨false, M0.sent, (k : Int), rest.take (min sz rest.length), -1⟩] } su sus2 sp sa cu cus2 cp ca D2 sv2 := ⟨hlk2.up, hlk2.us, hlk2.svl, hlk2.dat, hlk2.part, hlk2.acks⟩
    simp only [pv_some, nilO_ptr, faO_mk, gd_yes, gd_no, gd_yes', gd_no', cnd_true, cnd_false, pick_true, pick_false, not_bool, bin_add, bin_sub, bin_mul, bin_eql, bin_neq, bin_lss, bin_leq, bin_gtr, bin_geq, ext0, ext1, ext2, lenS_mk, eqNil_none, eqNil_some, neNil_none, neNil_some, ret_k, mem, Nat.zero_add, Nat.add_zero, Nat.mul_one, drewV, Bool.not_true, Bool.not_false]
    refine ld_h H3' 1 rfl rfl ?_
    simp only [lenS_rdL hs, pv_some, nilO_ptr, faO_mk, gd_yes, gd_no, gd_yes', gd_no', cnd_true, cnd_false, pick_true, pick_false, not_bool, bin_add, bin_sub, bin_mul, bin_eql, bin_neq, bin_lss, bin_leq, bin_gtr, bin_geq, ext0, ext1, ext2, lenS_mk, eqNil_none, eqNil_some, neNil_none, neNil_some, ret_k, mem, Nat.zero_add, Nat.add_zero, Nat.mul_one, drewV, Bool.not_true, Bool.not_false]
    refine cnd_decide (fun h => ?_) (fun h => ?_)
    · have hle : rest.length ≤ sz := by omega
      rw [pcs, if_pos hle] at hU
      have ht : rest.take (min sz rest.length) = rest := List.take_of_length_le (by omega)
      rw [ht] at H3' hlk3
      simp only [addU] at hU
      rw [hU] at H3' hlk3
      exact hq _ _ _ _ _ _ hlk3 H3'
    · have hlt : sz < rest.length := by omega
      have hmin : min sz rest.length = sz := Nat.min_eq_left (by omega)
      rw [pcs, if_neg (by omega)] at hU
      simp only [hmin] at *
      refine ld_h H3' 1 rfl rfl ?_
      obtain ⟨s2, e2, g2⟩ := slS_suf hs (k := sz) (by omega) (by omega)
      simp only [e2, pv_some, nilO_ptr, faO_mk, gd_yes, gd_no, gd_yes', gd_no', cnd_true, cnd_false, pick_true, pick_false, not_bool, bin_add, bin_sub, bin_mul, bin_eql, bin_neq, bin_lss, bin_leq, bin_gtr, bin_geq, ext0, ext1, ext2, lenS_mk, eqNil_none, eqNil_some, neNil_none, neNil_some, ret_k, mem, Nat.zero_add, Nat.add_zero, Nat.mul_one, drewV, Bool.not_true, Bool.not_false]
      refine st_h H3' 1 rfl (by simp) (rd_cells g2).2 fun w4 H4 => ?_
      rw [wrap64_id (by omega) (by omega), show (k : Int) + 1 = ((k + 1 : Nat) : Int) from by omega]
      have hdl : (rest.drop sz).length = rest.length - sz := by rw [List.length_drop]
      refine send_loop hsz hpn hy hUS hq fuel (k + 1) (rest.drop sz) s2 (us ++ [⟨false, M0.sent, (k : Int), rest.take sz, -1⟩]) w4 sus2 cus2 D2 sv2 (by omega) (by omega) (by omega) ?_ hlk3 (by rw [hdl]; exact g2) H4
      rw [← hU]; simp [addU]
/-- Behind the loop: the last unit's mark. -/
theorem send_af {lb b : Nat} {M : LM} {su sus sp sa x6 x7 x54 : Value} {cu cus cp ca D : List Chunk} {sv : List Value} {R : ER} (hlk : LkP 101 107 w0 M su sus sp sa cu cus cp ca D sv) (hne : 0 < M.us.length) (hus : M.us.length < 2 ^ 30)
    (H : Hp w0 w (⟨lb, 31, [ptr b 0]⟩ :: ⟨b, 96, lkc M su sus sp sa⟩ :: (cus ++ (cu ++ (cp ++ (ca ++ (D ++ F)))))))
    (hq : ∀ w' cus', LkP 101 107 w0 { M with us := setLast M.us } su sus sp sa cu cus' cp ca D sv → Hp w0 w' (⟨lb, 31, [ptr b 0]⟩ :: ⟨b, 96, lkc { M with us := setLast M.us } su sus sp sa⟩ :: (cus' ++ (cu ++ (cp ++ (ca ++ (D ++ F)))))) →
      R (.returned (.tuple ⟨[I M.sent, I 0]⟩)) w') : links_Link_Send_af R (ptr lb 0) x6 x7 x54 w := by
  unfold links_Link_Send_af
  have H0 := H.drew
  obtain ⟨bu, cap, rest, rfl, rfl, g1, g2, g3⟩ := hlk.us.chunk hne
  simp only [pv_some, nilO_ptr, faO_mk, gd_yes, gd_no, gd_yes', gd_no', cnd_true, cnd_false, pick_true, pick_false, not_bool, bin_add, bin_sub, bin_mul, bin_eql, bin_neq, bin_lss, bin_leq, bin_gtr, bin_geq, ext0, ext1, ext2, lenS_mk, eqNil_none, eqNil_some, neNil_none, neNil_some, ret_k, mem, Nat.zero_add, Nat.add_zero, Nat.mul_one, drewV, Bool.not_true, Bool.not_false]
  refine ld_h H0 0 rfl rfl ?_
  simp only [pv_some, nilO_ptr, faO_mk, gd_yes, gd_no, gd_yes', gd_no', cnd_true, cnd_false, pick_true, pick_false, not_bool, bin_add, bin_sub, bin_mul, bin_eql, bin_neq, bin_lss, bin_leq, bin_gtr, bin_geq, ext0, ext1, ext2, lenS_mk, eqNil_none, eqNil_some, neNil_none, neNil_some, ret_k, mem, Nat.zero_add, Nat.add_zero, Nat.mul_one, drewV, Bool.not_true, Bool.not_false]
  refine ld_h H0 1 rfl rfl ?_
  refine ld_h H0 0 rfl rfl ?_
  simp only [pv_some, nilO_ptr, faO_mk, gd_yes, gd_no, gd_yes', gd_no', cnd_true, cnd_false, pick_true, pick_false, not_bool, bin_add, bin_sub, bin_mul, bin_eql, bin_neq, bin_lss, bin_leq, bin_gtr, bin_geq, ext0, ext1, ext2, lenS_mk, eqNil_none, eqNil_some, neNil_none, neNil_some, ret_k, mem, Nat.zero_add, Nat.add_zero, Nat.mul_one, drewV, Bool.not_true, Bool.not_false]
  refine ld_h H0 1 rfl rfl ?_
  simp only [pv_some, nilO_ptr, faO_mk, gd_yes, gd_no, gd_yes', gd_no', cnd_true, cnd_false, pick_true, pick_false, not_bool, bin_add, bin_sub, bin_mul, bin_eql, bin_neq, bin_lss, bin_leq, bin_gtr, bin_geq, ext0, ext1, ext2, lenS_mk, eqNil_none, eqNil_some, neNil_none, neNil_some, ret_k, mem, Nat.zero_add, Nat.add_zero, Nat.mul_one, drewV, Bool.not_true, Bool.not_false]
  rw [wrap64_id (by omega) (by omega), show ((M.us.length : Nat) : Int) - 1 = ((M.us.length - 1 : Nat) : Int) from by omega, ixS_mk (by omega)]
  simp only [pv_some, nilO_ptr, faO_mk, gd_yes, gd_no, gd_yes', gd_no', cnd_true, cnd_false, pick_true, pick_false, not_bool, bin_add, bin_sub, bin_mul, bin_eql, bin_neq, bin_lss, bin_leq, bin_gtr, bin_geq, ext0, ext1, ext2, lenS_mk, eqNil_none, eqNil_some, neNil_none, neNil_some, ret_k, mem, Nat.zero_add, Nat.add_zero, Nat.mul_one, drewV, Bool.not_true, Bool.not_false]
  obtain ⟨u, hu⟩ : ∃ u, M.us[M.us.length - 1]? = some u := ⟨_, List.getElem?_eq_getElem (by omega)⟩
  obtain ⟨s, hs⟩ : ∃ s, sv[M.us.length - 1]? = some s := ⟨_, List.getElem?_eq_getElem (by rw [hlk.svl]; omega)⟩
  have hlen := ucells_len hlk.svl
  refine st_h H0 2 rfl (by rw [List.length_append, hlen]; omega) rfl fun w1 H1 => ?_
  have e : (ucells M.us sv ++ rest).set ((M.us.length - 1) * 6 + 1) (.bool true) = ucells (setLast M.us) sv ++ rest := by
    rw [set_left (by rw [hlen]; omega), ucells_last hu hs]
    unfold setLast; rw [hu]
  have hsl : (setLast M.us).length = M.us.length := by unfold setLast; rw [hu]; simp
  have H2 : Hp w0 w1 (⟨lb, 31, [ptr b 0]⟩ :: ⟨b, 96, lkc { M with us := setLast M.us } su (.slice (some ⟨bu, 0, none⟩) M.us.length cap) sp sa⟩ :: ([⟨bu, 101, ucells (setLast M.us) sv ++ rest⟩] ++ (cu ++ (cp ++ (ca ++ (D ++ F)))))) := by
    rw [← e]; exact H1
  refine ld_h H2 0 rfl rfl ?_
  simp only [pv_some, nilO_ptr, faO_mk, gd_yes, gd_no, gd_yes', gd_no', cnd_true, cnd_false, pick_true, pick_false, not_bool, bin_add, bin_sub, bin_mul, bin_eql, bin_neq, bin_lss, bin_leq, bin_gtr, bin_geq, ext0, ext1, ext2, lenS_mk, eqNil_none, eqNil_some, neNil_none, neNil_some, ret_k, mem, Nat.zero_add, Nat.add_zero, Nat.mul_one, drewV, Bool.not_true, Bool.not_false]
  refine ld_h H2 1 rfl rfl ?_
  refine hq w1 _ ⟨hlk.up, .inr ⟨bu, cap, rest, rfl, by simp [hsl], ?_, by simp [hsl]; exact g2, by simp [hsl]; exact g3⟩, by simp [hsl, hlk.svl], ?_, hlk.part, hlk.acks⟩ H2
  · rw [ucells_len (by simp [hsl, hlk.svl])]
  · intro i u' s' hu' hs'
    have hu2 : (setLast M.us)[i]? = some u' := hu'
    unfold setLast at hu2
    rw [hu] at hu2
    simp only [List.getElem?_set] at hu2
    split at hu2
    · rename_i hi
      subst hi
      rw [if_pos (by omega)] at hu2
      injection hu2 with hu2; subst hu2
      exact hlk.dat _ u s' hu hs'
    · exact hlk.dat i u' s' hu2 hs'
theorem putObj_free {k : Nat} {o o' : Obj} (H : Hp { w0 with pins := (k, o) :: w0.pins } w L) (hn : ∀ p ∈ w0.pins, p.1 ≠ k) : Hp w0 (w.putObj k o') L := (H.repin (o' := o') hn).pinOff.1
theorem enter61 : enterOk Pg 61 = true := by kernel_rfl
/-- Send's answer. -/
def SendPost (w0 : Base) (F : List Chunk) (Lkx : Base → Nat → LM → List Chunk → Prop) (b : Nat) (M : LM) (d : List Int) (now : Int) : ER := fun e w' =>
  ∃ L', e = .returned (.tuple ⟨[I (if sendE M d now = 0 then M.sent + 1 else 0), I (sendE M d now)]⟩) ∧ Hp w0 w' (L' ++ F) ∧ Lkx w0 b (sendM M d now) L'
theorem setLast_eq (l : List UM) : (setLast l).length = l.length := by
  unfold setLast; split <;> simp
set_option maxHeartbeats 800000 in
theorem Send_spec {b : Nat} {M : LM} {s : Value} {d : List Int} {now : Int} (H : Hp w0 w (L ++ F)) (hL : Lk w0 b M L) (hs : RdL w0 F 1 s d.length (bv d)) (hd : d.length < 2 ^ 30)
    (hsz : 32 ≤ M.size ∧ M.size ≤ 4096) (hus : M.us.length < 2 ^ 29) (hsent : 0 ≤ M.sent ∧ M.sent < 2 ^ 50 ∧ 0 ≤ M.done ∧ M.done < 2 ^ 50) : Calls Pg 12 ⟨[ptr b 0, s, I now]⟩ w (SendPost w0 F Lk b M d now) := by
  obtain ⟨su, sus, sp, sa, cu, cus, cp, ca, D, sv, hlk, rfl⟩ := hL
  have H0 : Hp w0 w (⟨b, 96, lkc M su sus sp sa⟩ :: (cus ++ (cu ++ (cp ++ (ca ++ (D ++ F)))))) := H.to (by intro f; simp only [I, U8, U64, ptr, List.set_cons_zero, List.set_cons_succ, List.eraseIdx_cons_zero, List.eraseIdx_cons_succ, List.map_append, List.map_cons, List.map_nil, List.sum_append, List.sum_cons, List.sum_nil]; omega)
  apply F12_calls
  unfold F12
  refine bxs_h H0 rfl fun w1 lb H1 => ?_
  have fail : ∀ {w' : World} (er : Int), er ≠ 0 → sendE M d now = er → Hp w0 w' (⟨lb, 31, [ptr b 0]⟩ :: ⟨b, 96, lkc M su sus sp sa⟩ :: (cus ++ (cu ++ (cp ++ (ca ++ (D ++ F)))))) → SendPost w0 F Lk b M d now (.returned (.tuple ⟨[I 0, I er]⟩)) w' := by
    intro w' er hne he H'
    have hne' : sendE M d now ≠ 0 := by rw [he]; exact hne
    refine ⟨⟨b, 96, lkc M su sus sp sa⟩ :: (cu ++ (cus ++ (cp ++ (ca ++ D)))), by rw [if_neg hne', he], H'.to (by intro f; simp only [I, U8, U64, ptr, List.set_cons_zero, List.set_cons_succ, List.eraseIdx_cons_zero, List.eraseIdx_cons_succ, List.map_append, List.map_cons, List.map_nil, List.sum_append, List.sum_cons, List.sum_nil]; omega), ?_⟩
    unfold sendM; rw [if_neg hne']
    exact ⟨_, _, _, _, _, _, _, _, _, _, hlk, rfl⟩
  refine ld_h H1 0 rfl rfl ?_
  simp only [lenS_rdL hs, pv_some, nilO_ptr, faO_mk, gd_yes, gd_no, gd_yes', gd_no', cnd_true, cnd_false, pick_true, pick_false, not_bool, bin_add, bin_sub, bin_mul, bin_eql, bin_neq, bin_lss, bin_leq, bin_gtr, bin_geq, ext0, ext1, ext2, lenS_mk, eqNil_none, eqNil_some, neNil_none, neNil_some, ret_k, mem, Nat.zero_add, Nat.add_zero, Nat.mul_one, drewV, Bool.not_true, Bool.not_false]
  refine cnd_decide (fun h1 => ?_) (fun h1 => ?_)
  · exact fail 20 (by decide) (by unfold sendE; rw [if_pos (by omega)]) H1
  refine ld_h H1 0 rfl rfl ?_
  refine cal_h (time_spec (now := now) H1.rot1) ?_
  rintro e w2 ⟨rfl, rfl⟩
  simp only [pv_some, nilO_ptr, faO_mk, gd_yes, gd_no, gd_yes', gd_no', cnd_true, cnd_false, pick_true, pick_false, not_bool, bin_add, bin_sub, bin_mul, bin_eql, bin_neq, bin_lss, bin_leq, bin_gtr, bin_geq, ext0, ext1, ext2, lenS_mk, eqNil_none, eqNil_some, neNil_none, neNil_some, ret_k, mem, Nat.zero_add, Nat.add_zero, Nat.mul_one, drewV, Bool.not_true, Bool.not_false]
  refine cnd_decide (fun h2 => ?_) (fun h2 => ?_)
  · exact fail _ h2 (by unfold sendE; rw [if_neg (by omega), if_pos h2]) H1
  have h2' : timeE M now = 0 := by simpa using h2
  have H2 := H1.drew
  refine ld_h H2 0 rfl rfl ?_
  simp only [pv_some, nilO_ptr, faO_mk, gd_yes, gd_no, gd_yes', gd_no', cnd_true, cnd_false, pick_true, pick_false, not_bool, bin_add, bin_sub, bin_mul, bin_eql, bin_neq, bin_lss, bin_leq, bin_gtr, bin_geq, ext0, ext1, ext2, lenS_mk, eqNil_none, eqNil_some, neNil_none, neNil_some, ret_k, mem, Nat.zero_add, Nat.add_zero, Nat.mul_one, drewV, Bool.not_true, Bool.not_false]
  refine ld_h H2 1 rfl rfl ?_
  refine ld_h H2 0 rfl rfl ?_
  simp only [pv_some, nilO_ptr, faO_mk, gd_yes, gd_no, gd_yes', gd_no', cnd_true, cnd_false, pick_true, pick_false, not_bool, bin_add, bin_sub, bin_mul, bin_eql, bin_neq, bin_lss, bin_leq, bin_gtr, bin_geq, ext0, ext1, ext2, lenS_mk, eqNil_none, eqNil_some, neNil_none, neNil_some, ret_k, mem, Nat.zero_add, Nat.add_zero, Nat.mul_one, drewV, Bool.not_true, Bool.not_false]
  refine ld_h H2 1 rfl rfl ?_
  simp only [pv_some, nilO_ptr, faO_mk, gd_yes, gd_no, gd_yes', gd_no', cnd_true, cnd_false, pick_true, pick_false, not_bool, bin_add, bin_sub, bin_mul, bin_eql, bin_neq, bin_lss, bin_leq, bin_gtr, bin_geq, ext0, ext1, ext2, lenS_mk, eqNil_none, eqNil_some, neNil_none, neNil_some, ret_k, mem, Nat.zero_add, Nat.add_zero, Nat.mul_one, drewV, Bool.not_true, Bool.not_false]
  rw [wrap64_id (by omega) (by omega)]
  refine cnd_decide (fun h3 => ?_) (fun h3 => ?_)
  · exact fail 2 (by decide) (by unfold sendE; rw [if_neg (by omega), if_neg (by rw [h2']; decide), if_pos h3]) H2
  refine ld_h H2 0 rfl rfl ?_
  simp only [pv_some, nilO_ptr, faO_mk, gd_yes, gd_no, gd_yes', gd_no', cnd_true, cnd_false, pick_true, pick_false, not_bool, bin_add, bin_sub, bin_mul, bin_eql, bin_neq, bin_lss, bin_leq, bin_gtr, bin_geq, ext0, ext1, ext2, lenS_mk, eqNil_none, eqNil_some, neNil_none, neNil_some, ret_k, mem, Nat.zero_add, Nat.add_zero, Nat.mul_one, drewV, Bool.not_true, Bool.not_false]
  refine ld_h H2 1 rfl rfl ?_
  simp only [pv_some, nilO_ptr, faO_mk, gd_yes, gd_no, gd_yes', gd_no', cnd_true, cnd_false, pick_true, pick_false, not_bool, bin_add, bin_sub, bin_mul, bin_eql, bin_neq, bin_lss, bin_leq, bin_gtr, bin_geq, ext0, ext1, ext2, lenS_mk, eqNil_none, eqNil_some, neNil_none, neNil_some, ret_k, mem, Nat.zero_add, Nat.add_zero, Nat.mul_one, drewV, Bool.not_true, Bool.not_false]
  refine cnd_decide (fun h4 => ?_) (fun h4 => ?_)
  · exact fail 18 (by decide) (by unfold sendE; rw [if_neg (by omega), if_neg (by rw [h2']; decide), if_neg h3, if_pos h4]) H2
  have hE : sendE M d now = 0 := by unfold sendE; rw [if_neg (by omega), if_neg (by rw [h2']; decide), if_neg h3, if_neg h4]
  refine ld_h H2 0 rfl rfl ?_
  simp only [pv_some, nilO_ptr, faO_mk, gd_yes, gd_no, gd_yes', gd_no', cnd_true, cnd_false, pick_true, pick_false, not_bool, bin_add, bin_sub, bin_mul, bin_eql, bin_neq, bin_lss, bin_leq, bin_gtr, bin_geq, ext0, ext1, ext2, lenS_mk, eqNil_none, eqNil_some, neNil_none, neNil_some, ret_k, mem, Nat.zero_add, Nat.add_zero, Nat.mul_one, drewV, Bool.not_true, Bool.not_false]
  refine st_h H2 1 rfl (by simp [lkc]) rfl fun w3 H3 => ?_
  replace H3 : Hp w0 w3 (⟨lb, 31, [ptr b 0]⟩ :: ⟨b, 96, lkc { M with clock := now } su sus sp sa⟩ :: (cus ++ (cu ++ (cp ++ (ca ++ (D ++ F)))))) := H3
  refine ld_h H3 0 rfl rfl ?_
  simp only [pv_some, nilO_ptr, faO_mk, gd_yes, gd_no, gd_yes', gd_no', cnd_true, cnd_false, pick_true, pick_false, not_bool, bin_add, bin_sub, bin_mul, bin_eql, bin_neq, bin_lss, bin_leq, bin_gtr, bin_geq, ext0, ext1, ext2, lenS_mk, eqNil_none, eqNil_some, neNil_none, neNil_some, ret_k, mem, Nat.zero_add, Nat.add_zero, Nat.mul_one, drewV, Bool.not_true, Bool.not_false]
  refine ld_h H3 1 rfl rfl ?_
  simp only [pv_some, nilO_ptr, faO_mk, gd_yes, gd_no, gd_yes', gd_no', cnd_true, cnd_false, pick_true, pick_false, not_bool, bin_add, bin_sub, bin_mul, bin_eql, bin_neq, bin_lss, bin_leq, bin_gtr, bin_geq, ext0, ext1, ext2, lenS_mk, eqNil_none, eqNil_some, neNil_none, neNil_some, ret_k, mem, Nat.zero_add, Nat.add_zero, Nat.mul_one, drewV, Bool.not_true, Bool.not_false]
  refine st_h H3 1 rfl (by simp [lkc]) rfl fun w4 H4 => ?_
  have hw : IntKind.i64.wrap (M.sent + 1) = M.sent + 1 := wrap64_id (by omega) (by omega)
  replace H4 : Hp w0 w4 (⟨lb, 31, [ptr b 0]⟩ :: ⟨b, 96, lkc { M with clock := now, sent := M.sent + 1 } su sus sp sa⟩ :: (cus ++ (cu ++ (cp ++ (ca ++ (D ++ F)))))) := by
    rw [← hw]; exact H4
  refine ld_h H4 0 rfl rfl ?_
  simp only [pv_some, nilO_ptr, faO_mk, gd_yes, gd_no, gd_yes', gd_no', cnd_true, cnd_false, pick_true, pick_false, not_bool, bin_add, bin_sub, bin_mul, bin_eql, bin_neq, bin_lss, bin_leq, bin_gtr, bin_geq, ext0, ext1, ext2, lenS_mk, eqNil_none, eqNil_some, neNil_none, neNil_some, ret_k, mem, Nat.zero_add, Nat.add_zero, Nat.mul_one, drewV, Bool.not_true, Bool.not_false]
  refine ld_h H4 1 rfl rfl ?_
  simp only [pv_some, nilO_ptr, faO_mk, gd_yes, gd_no, gd_yes', gd_no', cnd_true, cnd_false, pick_true, pick_false, not_bool, bin_add, bin_sub, bin_mul, bin_eql, bin_neq, bin_lss, bin_leq, bin_gtr, bin_geq, ext0, ext1, ext2, lenS_mk, eqNil_none, eqNil_some, neNil_none, neNil_some, ret_k, mem, Nat.zero_add, Nat.add_zero, Nat.mul_one, drewV, Bool.not_true, Bool.not_false]
  obtain ⟨sz, hszn⟩ : ∃ sz : Nat, M.size - 24 = (sz : Int) := ⟨(M.size - 24).toNat, by omega⟩
  rw [wrap64_id (by omega) (by omega), hszn]
  refine cal_h (pieces_spec (n := d.length) (d := d) H4 (hs.mono (fun c hc => by simp [hc]))) ?_
  rintro e w5 ⟨db, zb, rfl, H5⟩
  simp only [pv_some, nilO_ptr, faO_mk, gd_yes, gd_no, gd_yes', gd_no', cnd_true, cnd_false, pick_true, pick_false, not_bool, bin_add, bin_sub, bin_mul, bin_eql, bin_neq, bin_lss, bin_leq, bin_gtr, bin_geq, ext0, ext1, ext2, lenS_mk, eqNil_none, eqNil_some, neNil_none, neNil_some, ret_k, mem, Nat.zero_add, Nat.add_zero, Nat.mul_one, drewV, Bool.not_true, Bool.not_false]
  unfold links_Link_Send_rf
  intro rc w6 hw6 hy
  have hDs : w0.heap.size ≤ w5.heap.size := H5.ext.size
  have H6 := H5.same (w' := w6) (by rw [hw6]; exact (Ext.alloc [] _ _).trans (Ext.alloc [] _ _))
  have hD : w6.heap[w5.heap.size]? = some (.deferred (some [])) := by
    rw [hw6, Below.heap_alloc _ _ _ (by simp)]; exact World.alloc_heap_new _ _
  have hl : w6.heap[w5.heap.size + 1]? = some (.loop rc) := by
    rw [hw6]
    have := World.alloc_heap_new (w5.alloc (.deferred (some []))) (.loop rc)
    simpa using this
  have hlt5 : ∀ p ∈ w0.pins, p.1 < w5.heap.size := fun p hp => (Array.getElem?_eq_some_iff.1 (H5.pin p hp).2.1).1
  have hc5 : ∀ c ∈ (⟨zb, 3, [I (sz : Int)]⟩ :: ⟨db, 24, [s]⟩ :: ⟨lb, 31, [ptr b 0]⟩ :: ⟨b, 96, lkc { M with clock := now, sent := M.sent + 1 } su sus sp sa⟩ :: (cus ++ (cu ++ (cp ++ (ca ++ (D ++ F))))) : List Chunk), c.b < w5.heap.size := fun c hc => (H5.blk c hc).2.lt
  have P1 := H6.pinOn (b := w5.heap.size) hDs hD (fun c hc => Nat.ne_of_lt (hc5 c hc))
  have P2 := P1.pinOn (b := w5.heap.size + 1) (by have : w0.heap.size ≤ w5.heap.size + 1 := by omega
                                                  exact this) hl (fun c hc => by have := hc5 c hc; omega)
  have hpn1 : ∀ p ∈ w0.pins, p.1 ≠ w5.heap.size := fun p hp => Nat.ne_of_lt (hlt5 p hp)
  have hpn2 : ∀ p ∈ ((w5.heap.size, Obj.deferred (some [])) :: w0.pins), p.1 ≠ w5.heap.size + 1 := by
    intro p hp
    rcases List.mem_cons.1 hp with rfl | hp
    · show w5.heap.size ≠ w5.heap.size + 1; omega
    · have := hlt5 p hp; omega
  have hlen1 := pcs_length (d.length + 1) sz d
  have hne1 : 0 < (pcs (d.length + 1) sz d).length := by
    unfold pcs; split <;> simp
  refine ⟨enter61, ?_⟩
  apply F61_calls
  unfold F61 F61_j1
  refine ⟨d.length + 1, ?_⟩
  refine send_loop (w0 := { w0 with pins := (w5.heap.size, .deferred (some [])) :: w0.pins }) (rc := rc) (l := w5.heap.size + 1) (M0 := { M with clock := now, sent := M.sent + 1 }) (US := M.us ++ addU (M.sent + 1) 0 (pcs (d.length + 1) sz d))
    (F := F) (sz := sz) (by omega) hpn2 hy (by rw [List.length_append, addU_length]; omega) ?_ (d.length + 1) 0 d s M.us w6 sus cus D sv (by omega) (by omega) (by omega) rfl ⟨hlk.up, hlk.us, hlk.svl, hlk.dat, hlk.part, hlk.acks⟩ hs P2
  intro w7 s' sus' cus' D' sv' hlk' H7
  simp only [retK]
  refine .inl ⟨H7.pinOff.2.1, ?_⟩
  have H8 := putObj_free (w0 := { w0 with pins := (w5.heap.size, .deferred (some [])) :: w0.pins }) (o' := overRec rc) H7 hpn2
  have H8' : Hp { w0 with pins := (w5.heap.size, .deferred (some [])) :: w0.pins } (w7.putObj (w5.heap.size + 1) (overRec rc)) (⟨lb, 31, [ptr b 0]⟩ :: ⟨b, 96, lkc { M with clock := now, sent := M.sent + 1, us := M.us ++ addU (M.sent + 1) 0 (pcs (d.length + 1) sz d) } su sus' sp sa⟩ :: (cus' ++ (cu ++ (cp ++ (ca ++ (D' ++ F)))))) := H8.to (by intro f; simp only [I, U8, U64, ptr, List.set_cons_zero, List.set_cons_succ, List.eraseIdx_cons_zero, List.eraseIdx_cons_succ, List.map_append, List.map_cons, List.map_nil, List.sum_append, List.sum_cons, List.sum_nil]; omega)
  refine send_af hlk' (by simp [addU_length]; omega) (by simp [addU_length]; omega) H8' fun w9 cus9 hlk9 H9 => ?_
  refine ⟨H9.pinOff.2.1, ?_⟩
  have H10 := putObj_free (o' := .deferred none) H9 hpn1
  refine ⟨⟨b, 96, lkc { M with clock := now, sent := M.sent + 1, us := setLast (M.us ++ addU (M.sent + 1) 0 (pcs (d.length + 1) sz d)) } su sus' sp sa⟩ :: (cu ++ (cus9 ++ (cp ++ (ca ++ D')))), by rw [if_pos hE, hE], H10.to (by intro f; simp only [I, U8, U64, ptr, List.set_cons_zero, List.set_cons_succ, List.eraseIdx_cons_zero, List.eraseIdx_cons_succ, List.map_append, List.map_cons, List.map_nil, List.sum_append, List.sum_cons, List.sum_nil]; omega), ?_⟩
  unfold sendM; rw [if_pos hE]
  refine ⟨su, sus', sp, sa, cu, cus9, cp, ca, D', sv', ⟨hlk9.up, ?_, ?_, ?_, hlk9.part, hlk9.acks⟩, ?_⟩
  · have e : (M.size - 24).toNat = sz := by omega
    rw [e]; exact hlk9.us
  · have e : (M.size - 24).toNat = sz := by omega
    rw [e]; exact hlk9.svl
  · have e : (M.size - 24).toNat = sz := by omega
    rw [e]; exact hlk9.dat
  · have e : (M.size - 24).toNat = sz := by omega
    rw [e]
end
end Go.Proofs.Ytmnpndgmfmjfhaa.Den
end

section
set_option linter.unusedVariables false
set_option linter.unusedSimpArgs false
set_option maxRecDepth 8000
namespace Go.Proofs.Ytmnpndgmfmjfhaa.Den
open Go Go.RowKit
def fIdx (p : UM → Bool) : Nat → List UM → Int
  | _, [] => -1
  | i, u :: r => if p u then (i : Int) else fIdx p (i + 1) r
section
variable {w w' : World} {w0 : Base} {F L : List Chunk} {R : ER}
theorem calD_fn {f : Nat} {first captured args : Array Value} {Q : ER} {K : VK} (he : enterOk Pg f = true) (h : Calls Pg f (first ++ args ++ captured) w Q) (k : ∀ e w', Q e w' → retK R K e w') :
    calD Pg R (.func (.func f) first captured) args K w := by
  unfold calD; simp only [he, cond_true]; exact h.mono k
theorem idx_l {bu k cap : Nat} {us : List UM} {sv rest : List Value} {fv : Value} {p : UM → Bool} {j : Nat} (hj : L[j]? = some ⟨bu, 101, ucells us sv ++ rest⟩) (hsv : sv.length = us.length) (hk : k ≤ us.length) (hkb : k < 2 ^ 60)
    (hp : ∀ {R : ER} {K : VK} {w : World} {u : UM} {s : Value}, Hp w0 w L → (∀ w', Hp w0 w' L → K (.bool (p u)) w') → calD Pg R fv ⟨[.agg ⟨ucell u s⟩]⟩ K w)
    (hq : ∀ w', Hp w0 w' L → R (.returned (I (fIdx p 0 (us.take k)))) w') :
    ∀ (d i : Nat) (w : World), i + d = k → fIdx p i ((us.take k).drop i) = fIdx p 0 (us.take k) → Hp w0 w L → F62_l1 R (d + 1) (.slice (some ⟨bu, 0, none⟩) k cap) fv (I (k : Int)) (I (i : Int)) w := by
  intro d
  induction d with
  | zero =>
    intro i w hi hf H
    rw [F62_l1_succ]
    unfold F62_b1 F62_j1
    simp only [pv_some, nilO_ptr, faO_mk, gd_yes, gd_no, gd_yes', gd_no', cnd_true, cnd_false, pick_true, pick_false, not_bool, bin_add, bin_sub, bin_mul, bin_eql, bin_neq, bin_lss, bin_leq, bin_gtr, bin_geq, ext0, ext1, ext2, lenS_mk, eqNil_none, eqNil_some, neNil_none, neNil_some, ret_k, mem, Nat.zero_add, Nat.add_zero, Nat.mul_one, drewV, Bool.not_true, Bool.not_false, show decide ((i : Int) < (k : Int)) = false from decide_eq_false (by omega)]
    rw [List.drop_eq_nil_of_le (by rw [List.length_take]; omega)] at hf
    have := hq w H
    rw [← hf] at this
    exact this
  | succ d ih =>
    intro i w hi hf H
    rw [F62_l1_succ]
    unfold F62_b1 F62_j4
    simp only [pv_some, nilO_ptr, faO_mk, gd_yes, gd_no, gd_yes', gd_no', cnd_true, cnd_false, pick_true, pick_false, not_bool, bin_add, bin_sub, bin_mul, bin_eql, bin_neq, bin_lss, bin_leq, bin_gtr, bin_geq, ext0, ext1, ext2, lenS_mk, eqNil_none, eqNil_some, neNil_none, neNil_some, ret_k, mem, Nat.zero_add, Nat.add_zero, Nat.mul_one, drewV, Bool.not_true, Bool.not_false, show decide ((i : Int) < (k : Int)) = true from decide_eq_true (by omega)]
    rw [ixS_mk (by omega)]
    simp only [pv_some, nilO_ptr, faO_mk, gd_yes, gd_no, gd_yes', gd_no', cnd_true, cnd_false, pick_true, pick_false, not_bool, bin_add, bin_sub, bin_mul, bin_eql, bin_neq, bin_lss, bin_leq, bin_gtr, bin_geq, ext0, ext1, ext2, lenS_mk, eqNil_none, eqNil_some, neNil_none, neNil_some, ret_k, mem, Nat.zero_add, Nat.add_zero, Nat.mul_one, drewV, Bool.not_true, Bool.not_false]
    have hlt : i < us.length := by omega
    obtain ⟨u, hu⟩ : ∃ u, us[i]? = some u := ⟨_, List.getElem?_eq_getElem hlt⟩
    obtain ⟨s, hs⟩ : ∃ s, sv[i]? = some s := ⟨_, List.getElem?_eq_getElem (by omega)⟩
    have hlen := ucells_len hsv
    have hcell : ((ucells us sv ++ rest).drop (i * 6)).take 6 = ucell u s := by
      apply List.ext_getElem?
      intro m
      rw [List.getElem?_take]
      by_cases hm : m < 6
      · rw [if_pos hm, List.getElem?_drop, List.getElem?_append_left (by rw [hlen]; omega)]
        exact ucells_get hu hs hm
      · rw [if_neg hm, List.getElem?_eq_none (by simp [ucell]; omega)]
    refine ldN_blk (H.at hj) (by rw [List.length_append, hlen]; omega) ?_
    rw [hcell]
    refine hp H fun w2 H2 => ?_
    have hdrop : (us.take k).drop i = u :: (us.take k).drop (i + 1) := by
      have hg : (us.take k)[i]? = some u := by rw [List.getElem?_take, if_pos (by omega)]; exact hu
      obtain ⟨h1, h2⟩ := List.getElem?_eq_some_iff.1 hg
      rw [List.drop_eq_getElem_cons h1, h2]
    rw [hdrop, fIdx] at hf
    cases hb : p u with
    | true =>
      rw [hb, if_pos rfl] at hf
      simp only [pv_some, nilO_ptr, faO_mk, gd_yes, gd_no, gd_yes', gd_no', cnd_true, cnd_false, pick_true, pick_false, not_bool, bin_add, bin_sub, bin_mul, bin_eql, bin_neq, bin_lss, bin_leq, bin_gtr, bin_geq, ext0, ext1, ext2, lenS_mk, eqNil_none, eqNil_some, neNil_none, neNil_some, ret_k, mem, Nat.zero_add, Nat.add_zero, Nat.mul_one, drewV, Bool.not_true, Bool.not_false]
      have := hq w2 H2
      rw [← hf] at this
      exact this
    | false =>
      rw [hb] at hf
      simp only [Bool.false_eq_true, if_false] at hf
      simp only [pv_some, nilO_ptr, faO_mk, gd_yes, gd_no, gd_yes', gd_no', cnd_true, cnd_false, pick_true, pick_false, not_bool, bin_add, bin_sub, bin_mul, bin_eql, bin_neq, bin_lss, bin_leq, bin_gtr, bin_geq, ext0, ext1, ext2, lenS_mk, eqNil_none, eqNil_some, neNil_none, neNil_some, ret_k, mem, Nat.zero_add, Nat.add_zero, Nat.mul_one, drewV, Bool.not_true, Bool.not_false]
      rw [wrap64_id (by omega) (by omega), show (i : Int) + 1 = ((i + 1 : Nat) : Int) from by omega]
      exact ih (i + 1) w2 (by omega) hf H2
theorem idx_spec {bu k cap : Nat} {us : List UM} {sv rest : List Value} {fv : Value} {p : UM → Bool} {j : Nat} (H : Hp w0 w L) (hj : L[j]? = some ⟨bu, 101, ucells us sv ++ rest⟩) (hsv : sv.length = us.length) (hk : k ≤ us.length) (hkb : k < 2 ^ 60)
    (hp : ∀ {R : ER} {K : VK} {w : World} {u : UM} {s : Value}, Hp w0 w L → (∀ w', Hp w0 w' L → K (.bool (p u)) w') → calD Pg R fv ⟨[.agg ⟨ucell u s⟩]⟩ K w) :
    Calls Pg 62 ⟨[.slice (some ⟨bu, 0, none⟩) k cap, fv]⟩ w fun e w' => e = .returned (I (fIdx p 0 (us.take k))) ∧ Hp w0 w' L := by
  apply F62_calls
  unfold F62 F62_j2 F62_j3
  simp only [pv_some, nilO_ptr, faO_mk, gd_yes, gd_no, gd_yes', gd_no', cnd_true, cnd_false, pick_true, pick_false, not_bool, bin_add, bin_sub, bin_mul, bin_eql, bin_neq, bin_lss, bin_leq, bin_gtr, bin_geq, ext0, ext1, ext2, lenS_mk, eqNil_none, eqNil_some, neNil_none, neNil_some, ret_k, mem, Nat.zero_add, Nat.add_zero, Nat.mul_one, drewV, Bool.not_true, Bool.not_false]
  exact ⟨k + 1, idx_l hj hsv hk hkb hp (fun w' H' => ⟨rfl, H'⟩) k 0 w (by omega) rfl H⟩
theorem idx_nil {fv a : Value} {c : Nat} (H : Hp w0 w L) {q : Option Addr} : Calls Pg 62 ⟨[.slice q 0 c, fv]⟩ w fun e w' => e = .returned (I (-1)) ∧ Hp w0 w' L := by
  apply F62_calls
  unfold F62 F62_j2 F62_j3
  simp only [pv_some, nilO_ptr, faO_mk, gd_yes, gd_no, gd_yes', gd_no', cnd_true, cnd_false, pick_true, pick_false, not_bool, bin_add, bin_sub, bin_mul, bin_eql, bin_neq, bin_lss, bin_leq, bin_gtr, bin_geq, ext0, ext1, ext2, lenS_mk, eqNil_none, eqNil_some, neNil_none, neNil_some, ret_k, mem, Nat.zero_add, Nat.add_zero, Nat.mul_one, drewV, Bool.not_true, Bool.not_false]
  refine ⟨1, ?_⟩
  show F62_l1 _ (0 + 1) _ _ _ _ _
  rw [F62_l1_succ]
  unfold F62_b1 F62_j1
  simp only [pv_some, nilO_ptr, faO_mk, gd_yes, gd_no, gd_yes', gd_no', cnd_true, cnd_false, pick_true, pick_false, not_bool, bin_add, bin_sub, bin_mul, bin_eql, bin_neq, bin_lss, bin_leq, bin_gtr, bin_geq, ext0, ext1, ext2, lenS_mk, eqNil_none, eqNil_some, neNil_none, neNil_some, ret_k, mem, Nat.zero_add, Nat.add_zero, Nat.mul_one, drewV, Bool.not_true, Bool.not_false, show decide ((0 : Int) < ((0 : Nat) : Int)) = false from rfl]
  exact ⟨trivial, H⟩
theorem enter37 : enterOk Pg 37 = true := by kernel_rfl
theorem next1_call {K : VK} {u : UM} {s : Value} (H : Hp w0 w L) (k : ∀ w', Hp w0 w' L → K (.bool (decide (u.at_ < 0))) w') : calD Pg R (.func (.func 37) ⟨[]⟩ ⟨[]⟩) ⟨[.agg ⟨ucell u s⟩]⟩ K w := by
  refine calD_fn (Q := fun e w' => e = .returned (.bool (decide (u.at_ < 0))) ∧ Hp w0 w' L) enter37 ?_ ?_
  · apply F37_calls
    unfold F37
    refine bxa_h H fun w1 b H1 => ?_
    simp only [pv_some, nilO_ptr, faO_mk, gd_yes, gd_no, gd_yes', gd_no', cnd_true, cnd_false, pick_true, pick_false, not_bool, bin_add, bin_sub, bin_mul, bin_eql, bin_neq, bin_lss, bin_leq, bin_gtr, bin_geq, ext0, ext1, ext2, lenS_mk, eqNil_none, eqNil_some, neNil_none, neNil_some, ret_k, mem, Nat.zero_add, Nat.add_zero, Nat.mul_one, drewV, Bool.not_true, Bool.not_false]
    refine ld_h H1 0 rfl rfl ?_
    simp only [pv_some, nilO_ptr, faO_mk, gd_yes, gd_no, gd_yes', gd_no', cnd_true, cnd_false, pick_true, pick_false, not_bool, bin_add, bin_sub, bin_mul, bin_eql, bin_neq, bin_lss, bin_leq, bin_gtr, bin_geq, ext0, ext1, ext2, lenS_mk, eqNil_none, eqNil_some, neNil_none, neNil_some, ret_k, mem, Nat.zero_add, Nat.add_zero, Nat.mul_one, drewV, Bool.not_true, Bool.not_false]
    exact ⟨trivial, H1.tail⟩
  · rintro e w' ⟨rfl, H'⟩
    exact k w' H'
def pend (M : LM) : Int := fIdx (fun u => decide (u.at_ < 0)) 0 (M.us.take 8)
/-- What is due, and when. -/
def nextV (M : LM) : Int × Bool :=
  if M.broken then (0, false) else if M.acks ≠ [] ∨ 0 ≤ pend M then (M.clock, true) else match M.us with
    | [] => (0, false)
    | u :: _ => (max M.clock (u.at_ + M.timeout), true)
theorem Next_spec {b : Nat} {M : LM} (H : Hp w0 w (L ++ F)) (hL : Lk w0 b M L) (hus : M.us.length < 2 ^ 40) (hat : ∀ u ∈ M.us, -1 ≤ u.at_ ∧ u.at_ ≤ 2 ^ 41) (ht : 0 ≤ M.timeout ∧ M.timeout ≤ 2 ^ 41) (hal : M.acks.length < 2 ^ 60) :
    Calls Pg 13 ⟨[ptr b 0]⟩ w fun e w' => e = .returned (.tuple ⟨[I (nextV M).1, .bool (nextV M).2]⟩) ∧ Hp w0 w' (L ++ F) := by
  obtain ⟨su, sus, sp, sa, cu, cus, cp, ca, D, sv, hlk, rfl⟩ := hL
  have H0 : Hp w0 w (⟨b, 96, lkc M su sus sp sa⟩ :: (cus ++ (cu ++ (cp ++ (ca ++ (D ++ F)))))) := H.to (by intro f; simp only [I, U8, U64, ptr, List.set_cons_zero, List.set_cons_succ, List.eraseIdx_cons_zero, List.eraseIdx_cons_succ, List.map_append, List.map_cons, List.map_nil, List.sum_append, List.sum_cons, List.sum_nil]; omega)
  apply F13_calls
  unfold F13
  simp only [pv_some, nilO_ptr, faO_mk, gd_yes, gd_no, gd_yes', gd_no', cnd_true, cnd_false, pick_true, pick_false, not_bool, bin_add, bin_sub, bin_mul, bin_eql, bin_neq, bin_lss, bin_leq, bin_gtr, bin_geq, ext0, ext1, ext2, lenS_mk, eqNil_none, eqNil_some, neNil_none, neNil_some, ret_k, mem, Nat.zero_add, Nat.add_zero, Nat.mul_one, drewV, Bool.not_true, Bool.not_false]
  refine ld_h H0 0 rfl rfl ?_
  cases hb : M.broken with
  | true =>
    simp only [pv_some, nilO_ptr, faO_mk, gd_yes, gd_no, gd_yes', gd_no', cnd_true, cnd_false, pick_true, pick_false, not_bool, bin_add, bin_sub, bin_mul, bin_eql, bin_neq, bin_lss, bin_leq, bin_gtr, bin_geq, ext0, ext1, ext2, lenS_mk, eqNil_none, eqNil_some, neNil_none, neNil_some, ret_k, mem, Nat.zero_add, Nat.add_zero, Nat.mul_one, drewV, Bool.not_true, Bool.not_false]
    refine ⟨by unfold nextV; rw [if_pos hb], H⟩
  | false =>
    simp only [pv_some, nilO_ptr, faO_mk, gd_yes, gd_no, gd_yes', gd_no', cnd_true, cnd_false, pick_true, pick_false, not_bool, bin_add, bin_sub, bin_mul, bin_eql, bin_neq, bin_lss, bin_leq, bin_gtr, bin_geq, ext0, ext1, ext2, lenS_mk, eqNil_none, eqNil_some, neNil_none, neNil_some, ret_k, mem, Nat.zero_add, Nat.add_zero, Nat.mul_one, drewV, Bool.not_true, Bool.not_false]
    unfold F13_j1
    have hnb : ∀ {x : Int × Bool}, (if M.acks ≠ [] ∨ 0 ≤ pend M then (M.clock, true) else match M.us with | [] => (0, false) | u :: _ => (max M.clock (u.at_ + M.timeout), true)) = x → nextV M = x := by
      intro x h; unfold nextV; rw [hb]; simpa using h
    have H1 := H0.drew
    simp only [pv_some, nilO_ptr, faO_mk, gd_yes, gd_no, gd_yes', gd_no', cnd_true, cnd_false, pick_true, pick_false, not_bool, bin_add, bin_sub, bin_mul, bin_eql, bin_neq, bin_lss, bin_leq, bin_gtr, bin_geq, ext0, ext1, ext2, lenS_mk, eqNil_none, eqNil_some, neNil_none, neNil_some, ret_k, mem, Nat.zero_add, Nat.add_zero, Nat.mul_one, drewV, Bool.not_true, Bool.not_false]
    refine ld_h H1 0 rfl rfl ?_
    refine ld_h H1 0 rfl rfl ?_
    simp only [lenS_sl hlk.us, pv_some, nilO_ptr, faO_mk, gd_yes, gd_no, gd_yes', gd_no', cnd_true, cnd_false, pick_true, pick_false, not_bool, bin_add, bin_sub, bin_mul, bin_eql, bin_neq, bin_lss, bin_leq, bin_gtr, bin_geq, ext0, ext1, ext2, lenS_mk, eqNil_none, eqNil_some, neNil_none, neNil_some, ret_k, mem, Nat.zero_add, Nat.add_zero, Nat.mul_one, drewV, Bool.not_true, Bool.not_false]
    have e8 : min2I (.int .i64 8) (I ((M.us.length : Nat) : Int)) = some (I ((min 8 M.us.length : Nat) : Int)) := min2I_nat 8 _
    simp only [e8, pv_some, nilO_ptr, faO_mk, gd_yes, gd_no, gd_yes', gd_no', cnd_true, cnd_false, pick_true, pick_false, not_bool, bin_add, bin_sub, bin_mul, bin_eql, bin_neq, bin_lss, bin_leq, bin_gtr, bin_geq, ext0, ext1, ext2, lenS_mk, eqNil_none, eqNil_some, neNil_none, neNil_some, ret_k, mem, Nat.zero_add, Nat.add_zero, Nat.mul_one, drewV, Bool.not_true, Bool.not_false]
    -- the window
    have hwin : ∃ q cap, slS 6 sus none (some (I ((min 8 M.us.length : Nat) : Int))) = some (.slice q (min 8 M.us.length) cap) ∧ (0 < M.us.length → ∃ bu rest, q = some ⟨bu, 0, none⟩ ∧ cus = [⟨bu, 101, ucells M.us sv ++ rest⟩]) := by
      rcases hlk.us with ⟨h1, ⟨a, rfl⟩, h2, h3⟩ | ⟨bu, cap, rest, rfl, rfl, g1, g2, g3⟩
      · refine ⟨a, 0, ?_, fun h => by omega⟩
        rw [h2]; simp only [slS, boundO]; simp
      · refine ⟨some ⟨bu, 0, none⟩, cap, ?_, fun _ => ⟨bu, rest, rfl, rfl⟩⟩
        simp only [slS, boundO]
        rw [if_pos (by omega)]
        simp
        intro _; simp [Addr.add]
    obtain ⟨q, cap, hq, hbu⟩ := hwin
    simp only [hq, pv_some, nilO_ptr, faO_mk, gd_yes, gd_no, gd_yes', gd_no', cnd_true, cnd_false, pick_true, pick_false, not_bool, bin_add, bin_sub, bin_mul, bin_eql, bin_neq, bin_lss, bin_leq, bin_gtr, bin_geq, ext0, ext1, ext2, lenS_mk, eqNil_none, eqNil_some, neNil_none, neNil_some, ret_k, mem, Nat.zero_add, Nat.add_zero, Nat.mul_one, drewV, Bool.not_true, Bool.not_false]
    unfold F13_j3
    simp only [pv_some, nilO_ptr, faO_mk, gd_yes, gd_no, gd_yes', gd_no', cnd_true, cnd_false, pick_true, pick_false, not_bool, bin_add, bin_sub, bin_mul, bin_eql, bin_neq, bin_lss, bin_leq, bin_gtr, bin_geq, ext0, ext1, ext2, lenS_mk, eqNil_none, eqNil_some, neNil_none, neNil_some, ret_k, mem, Nat.zero_add, Nat.add_zero, Nat.mul_one, drewV, Bool.not_true, Bool.not_false]
    refine ld_h H1 0 rfl rfl ?_
    simp only [lenS_sl hlk.acks, pv_some, nilO_ptr, faO_mk, gd_yes, gd_no, gd_yes', gd_no', cnd_true, cnd_false, pick_true, pick_false, not_bool, bin_add, bin_sub, bin_mul, bin_eql, bin_neq, bin_lss, bin_leq, bin_gtr, bin_geq, ext0, ext1, ext2, lenS_mk, eqNil_none, eqNil_some, neNil_none, neNil_some, ret_k, mem, Nat.zero_add, Nat.add_zero, Nat.mul_one, drewV, Bool.not_true, Bool.not_false]
    have fin : ∀ {w : World} {x : Bool}, Hp w0 w (⟨b, 96, lkc M su sus sp sa⟩ :: (cus ++ (cu ++ (cp ++ (ca ++ (D ++ F)))))) → (x = true ↔ (M.acks ≠ [] ∨ 0 ≤ pend M)) →
        F13_j4 (fun e w' => e = .returned (.tuple ⟨[I (nextV M).1, .bool (nextV M).2]⟩) ∧ Hp w0 w' ((⟨b, 96, lkc M su sus sp sa⟩ :: (cu ++ (cus ++ (cp ++ (ca ++ D))))) ++ F)) (ptr b 0) (.slice q (min 8 M.us.length) cap) (.bool x) w := by
      intro w x H hx
      unfold F13_j4
      cases hv : x with
      | true =>
        simp only [pv_some, nilO_ptr, faO_mk, gd_yes, gd_no, gd_yes', gd_no', cnd_true, cnd_false, pick_true, pick_false, not_bool, bin_add, bin_sub, bin_mul, bin_eql, bin_neq, bin_lss, bin_leq, bin_gtr, bin_geq, ext0, ext1, ext2, lenS_mk, eqNil_none, eqNil_some, neNil_none, neNil_some, ret_k, mem, Nat.zero_add, Nat.add_zero, Nat.mul_one, drewV, Bool.not_true, Bool.not_false]
        refine ld_h H 0 rfl rfl ?_
        refine ⟨by rw [hnb (if_pos (hx.1 hv))], H.to (by intro f; simp only [I, U8, U64, ptr, List.set_cons_zero, List.set_cons_succ, List.eraseIdx_cons_zero, List.eraseIdx_cons_succ, List.map_append, List.map_cons, List.map_nil, List.sum_append, List.sum_cons, List.sum_nil]; omega)⟩
      | false =>
        have hx' : ¬ (M.acks ≠ [] ∨ 0 ≤ pend M) := fun h => by have := hx.2 h; rw [hv] at this; cases this
        simp only [pv_some, nilO_ptr, faO_mk, gd_yes, gd_no, gd_yes', gd_no', cnd_true, cnd_false, pick_true, pick_false, not_bool, bin_add, bin_sub, bin_mul, bin_eql, bin_neq, bin_lss, bin_leq, bin_gtr, bin_geq, ext0, ext1, ext2, lenS_mk, eqNil_none, eqNil_some, neNil_none, neNil_some, ret_k, mem, Nat.zero_add, Nat.add_zero, Nat.mul_one, drewV, Bool.not_true, Bool.not_false]
        unfold F13_j5 F13_j6
        simp only [pv_some, nilO_ptr, faO_mk, gd_yes, gd_no, gd_yes', gd_no', cnd_true, cnd_false, pick_true, pick_false, not_bool, bin_add, bin_sub, bin_mul, bin_eql, bin_neq, bin_lss, bin_leq, bin_gtr, bin_geq, ext0, ext1, ext2, lenS_mk, eqNil_none, eqNil_some, neNil_none, neNil_some, ret_k, mem, Nat.zero_add, Nat.add_zero, Nat.mul_one, drewV, Bool.not_true, Bool.not_false]
        refine cnd_decide (fun h => ?_) (fun h => ?_)
        · unfold F13_j7
          have H2 := H.drew
          obtain ⟨bu, rest, rfl, rfl⟩ := hbu (by omega)
          simp only [pv_some, nilO_ptr, faO_mk, gd_yes, gd_no, gd_yes', gd_no', cnd_true, cnd_false, pick_true, pick_false, not_bool, bin_add, bin_sub, bin_mul, bin_eql, bin_neq, bin_lss, bin_leq, bin_gtr, bin_geq, ext0, ext1, ext2, lenS_mk, eqNil_none, eqNil_some, neNil_none, neNil_some, ret_k, mem, Nat.zero_add, Nat.add_zero, Nat.mul_one, drewV, Bool.not_true, Bool.not_false]
          refine ld_h H2 0 rfl rfl ?_
          have e0 : ixS 6 (.slice (some ⟨bu, 0, none⟩) (min 8 M.us.length) cap) (.int .i64 0) = some (ptr bu 0) := by
            have := ixS_mk (sz := 6) (b := bu) (o := 0) (c := cap) (n := min 8 M.us.length) (j := 0) (k := .i64) (by omega); simpa using this
          simp only [e0, pv_some, nilO_ptr, faO_mk, gd_yes, gd_no, gd_yes', gd_no', cnd_true, cnd_false, pick_true, pick_false, not_bool, bin_add, bin_sub, bin_mul, bin_eql, bin_neq, bin_lss, bin_leq, bin_gtr, bin_geq, ext0, ext1, ext2, lenS_mk, eqNil_none, eqNil_some, neNil_none, neNil_some, ret_k, mem, Nat.zero_add, Nat.add_zero, Nat.mul_one, drewV, Bool.not_true, Bool.not_false]
          obtain ⟨u, r, hM⟩ : ∃ u r, M.us = u :: r := by
            cases hM : M.us with
            | nil => rw [hM] at h; simp at h
            | cons u r => exact ⟨u, r, rfl⟩
          obtain ⟨s, hs⟩ : ∃ s, sv[0]? = some s := ⟨_, List.getElem?_eq_getElem (by rw [hlk.svl, hM]; simp)⟩
          have hu : M.us[0]? = some u := by rw [hM]; rfl
          have hc : (ucells M.us sv ++ rest)[5]? = some (I u.at_) := get_left (by have := ucells_get hu hs (j := 5) (by omega); simpa [ucell] using this)
          refine ld_h H2 1 rfl hc ?_
          refine ld_h H2 0 rfl rfl ?_
          have ha := hat u (by rw [hM]; simp)
          simp only [pv_some, nilO_ptr, faO_mk, gd_yes, gd_no, gd_yes', gd_no', cnd_true, cnd_false, pick_true, pick_false, not_bool, bin_add, bin_sub, bin_mul, bin_eql, bin_neq, bin_lss, bin_leq, bin_gtr, bin_geq, ext0, ext1, ext2, lenS_mk, eqNil_none, eqNil_some, neNil_none, neNil_some, ret_k, mem, Nat.zero_add, Nat.add_zero, Nat.mul_one, drewV, Bool.not_true, Bool.not_false]
          rw [wrap64_id (by omega) (by omega)]
          have em : max2I (I M.clock) (I (u.at_ + M.timeout)) = some (I (max M.clock (u.at_ + M.timeout))) := by
            simp only [max2I]; congr 2; rw [Int.max_def]; split <;> split <;> omega
          simp only [em, pv_some, nilO_ptr, faO_mk, gd_yes, gd_no, gd_yes', gd_no', cnd_true, cnd_false, pick_true, pick_false, not_bool, bin_add, bin_sub, bin_mul, bin_eql, bin_neq, bin_lss, bin_leq, bin_gtr, bin_geq, ext0, ext1, ext2, lenS_mk, eqNil_none, eqNil_some, neNil_none, neNil_some, ret_k, mem, Nat.zero_add, Nat.add_zero, Nat.mul_one, drewV, Bool.not_true, Bool.not_false]
          refine ⟨?_, H2.to (by intro f; simp only [I, U8, U64, ptr, List.set_cons_zero, List.set_cons_succ, List.eraseIdx_cons_zero, List.eraseIdx_cons_succ, List.map_append, List.map_cons, List.map_nil, List.sum_append, List.sum_cons, List.sum_nil]; omega)⟩
          rw [hnb (if_neg hx')]
          rw [hM]
        · unfold F13_j2
          refine ⟨?_, H.to (by intro f; simp only [I, U8, U64, ptr, List.set_cons_zero, List.set_cons_succ, List.eraseIdx_cons_zero, List.eraseIdx_cons_succ, List.map_append, List.map_cons, List.map_nil, List.sum_append, List.sum_cons, List.sum_nil]; omega)⟩
          have hM : M.us = [] := by
            cases hM : M.us with
            | nil => rfl
            | cons u r => rw [hM] at h; simp at h
          rw [hnb (if_neg hx'), hM]
    refine cnd_decide (fun h => ?_) (fun h => ?_)
    · have : decide ((0 : Int) < ((M.acks.length : Nat) : Int)) = true := decide_eq_true h
      rw [this]
      refine fin H1 (by simp; left; intro hn; rw [hn] at h; simp at h)
    · have ha : M.acks = [] := by
        cases hA : M.acks with
        | nil => rfl
        | cons u r => rw [hA] at h; simp at h
      have hcf : Calls Pg 36 ⟨[.slice q (min 8 M.us.length) cap, .func (.func 37) ⟨[]⟩ ⟨[]⟩]⟩ w.drew fun e w' => e = .returned (.bool (decide (0 ≤ pend M))) ∧ Hp w0 w' (⟨b, 96, lkc M su sus sp sa⟩ :: (cus ++ (cu ++ (cp ++ (ca ++ (D ++ F)))))) := by
        apply F36_calls
        unfold F36
        by_cases h0 : 0 < M.us.length
        · obtain ⟨bu, rest, rfl, rfl⟩ := hbu h0
          refine cal_h (idx_spec (j := 1) (us := M.us) (sv := sv) (rest := rest) (p := fun u => decide (u.at_ < 0)) H1 rfl hlk.svl (by omega) (by omega) (fun H k => next1_call H k)) ?_
          rintro e w2 ⟨rfl, H2⟩
          simp only [pv_some, nilO_ptr, faO_mk, gd_yes, gd_no, gd_yes', gd_no', cnd_true, cnd_false, pick_true, pick_false, not_bool, bin_add, bin_sub, bin_mul, bin_eql, bin_neq, bin_lss, bin_leq, bin_gtr, bin_geq, ext0, ext1, ext2, lenS_mk, eqNil_none, eqNil_some, neNil_none, neNil_some, ret_k, mem, Nat.zero_add, Nat.add_zero, Nat.mul_one, drewV, Bool.not_true, Bool.not_false]
          refine ⟨?_, H2⟩
          unfold pend
          congr 4
          by_cases h8 : 8 ≤ M.us.length
          · rw [Nat.min_eq_left h8]
          · rw [Nat.min_eq_right (by omega), List.take_of_length_le (Nat.le_refl _), List.take_of_length_le (by omega)]
        · have hM : M.us = [] := List.length_eq_zero_iff.1 (by omega)
          have hm : min 8 M.us.length = 0 := by omega
          rw [hm]
          refine cal_h (idx_nil (a := .bool true) H1) ?_
          rintro e w2 ⟨rfl, H2⟩
          simp only [pv_some, nilO_ptr, faO_mk, gd_yes, gd_no, gd_yes', gd_no', cnd_true, cnd_false, pick_true, pick_false, not_bool, bin_add, bin_sub, bin_mul, bin_eql, bin_neq, bin_lss, bin_leq, bin_gtr, bin_geq, ext0, ext1, ext2, lenS_mk, eqNil_none, eqNil_some, neNil_none, neNil_some, ret_k, mem, Nat.zero_add, Nat.add_zero, Nat.mul_one, drewV, Bool.not_true, Bool.not_false]
          refine ⟨?_, H2⟩
          unfold pend; rw [hM]; rfl
      refine cal_h hcf ?_
      rintro e w2 ⟨rfl, H2⟩
      simp only [pv_some, nilO_ptr, faO_mk, gd_yes, gd_no, gd_yes', gd_no', cnd_true, cnd_false, pick_true, pick_false, not_bool, bin_add, bin_sub, bin_mul, bin_eql, bin_neq, bin_lss, bin_leq, bin_gtr, bin_geq, ext0, ext1, ext2, lenS_mk, eqNil_none, eqNil_some, neNil_none, neNil_some, ret_k, mem, Nat.zero_add, Nat.add_zero, Nat.mul_one, drewV, Bool.not_true, Bool.not_false]
      exact fin H2 (by simp [ha])
end
end Go.Proofs.Ytmnpndgmfmjfhaa.Den
end
