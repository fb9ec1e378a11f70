/- Links: New, the error of a time, the usable wires, the wires of a unit, walked. Conditions: none. -/
import Derived.Test.YtmnpndgmfmjfhaaLkM
set_option linter.unusedVariables false
set_option linter.unusedSimpArgs false
set_option maxRecDepth 8000
namespace Go.Proofs.Ytmnpndgmfmjfhaa.Den
open Go Go.RowKit
theorem cellsI (k : IntKind) (n : Int) : (Value.int k n).cells = #[.int k n] := rfl
theorem cellsB (b : Bool) : (Value.bool b).cells = #[.bool b] := rfl
theorem cellsA (cs : Array Value) : (Value.agg cs).cells = cs := rfl
section
variable {w : World} {w0 : Base} {F L : List Chunk} {R : ER}
theorem newbld {s : Value} {size q t : Int} (h : s.cells = #[s]) (wires : Nat) :
    bldO [.slice none 0 0, I 0, I 0, I 0, I 0, .slice none 0 0, I 0, I 0, I 0, I 0, .bool false, I 0, .bool false, I 0, I 0, .slice none 0 0, .slice none 0 0, .slice none 0 0]
      [(0, 1, s), (1, 1, I size), (2, 1, I q), (3, 1, I t), (11, 5, .agg ⟨[I 2, .bool false, I 1, I 0, .slice none 0 0]⟩)] = some (.agg ⟨lkc (newM wires size q t) s (.slice none 0 0) (.slice none 0 0) (.slice none 0 0)⟩) := by
  simp [bldO, buildL, h, cellsI, cellsB, cellsA, lkc, newM]
theorem bldE : bldO [I 0, .bool false, I 0, I 0, .slice none 0 0] [(0, 1, I 2), (2, 1, I 1)] = some (.agg ⟨[I 2, .bool false, I 1, I 0, .slice none 0 0]⟩) := rfl
/-- What New hands back. -/
def NewPost (w0 : Base) (F : List Chunk) (Lkx : Base → Nat → LM → List Chunk → Prop) (wires size quality timeout : Int) : ER := fun e w' =>
  (newE wires size quality timeout ≠ 0 → e = .returned (.tuple ⟨[.pointer none, I (newE wires size quality timeout)]⟩) ∧ Hp w0 w' F) ∧
  (newE wires size quality timeout = 0 → ∃ b L, e = .returned (.tuple ⟨[ptr b 0, I 0]⟩) ∧ Hp w0 w' (L ++ F) ∧ Lkx w0 b (newM wires.toNat size quality timeout) L)
theorem New_spec {wires size quality timeout : Int} (H : Hp w0 w F) : Calls Pg 29 ⟨[I wires, I size, I quality, I timeout]⟩ w (NewPost w0 F Lk wires size quality timeout) := by
  apply links_New_calls
  unfold links_New links_New_j3
  have bad : (wires < 1 ∨ 8 < wires ∨ size < 32 ∨ 4096 < size ∨ timeout < 1 ∨ 1099511627776 < timeout) → NewPost w0 F Lk wires size quality timeout (.returned (.tuple ⟨[.pointer none, I 34]⟩)) w := by
    intro h
    have e : newE wires size quality timeout = 34 := by unfold newE; rw [if_pos h]
    refine ⟨fun _ => by rw [e]; exact ⟨rfl, H⟩, fun h' => ?_⟩
    rw [e] at h'; exact absurd h' (by decide)
  simp only [pv_some, nilO_ptr, faO_mk, gd_yes, gd_no, gd_yes', gd_no', cnd_true, cnd_false, pick_true, pick_false, not_bool, bin_add, bin_sub, bin_mul, bin_eql, bin_neq, bin_lss, bin_leq, bin_gtr, bin_geq, ext0, ext1, ext2, lenS_mk, eqNil_none, eqNil_some, neNil_none, neNil_some, ret_k, mem, Nat.zero_add, Nat.add_zero, Nat.mul_one, drewV, Bool.not_true, Bool.not_false]
  by_cases h1 : wires < 1
  · simp only [decide_eq_true h1, pv_some, nilO_ptr, faO_mk, gd_yes, gd_no, gd_yes', gd_no', cnd_true, cnd_false, pick_true, pick_false, not_bool, bin_add, bin_sub, bin_mul, bin_eql, bin_neq, bin_lss, bin_leq, bin_gtr, bin_geq, ext0, ext1, ext2, lenS_mk, eqNil_none, eqNil_some, neNil_none, neNil_some, ret_k, mem, Nat.zero_add, Nat.add_zero, Nat.mul_one, drewV, Bool.not_true, Bool.not_false]; exact bad (by omega)
  simp only [decide_eq_false h1, pv_some, nilO_ptr, faO_mk, gd_yes, gd_no, gd_yes', gd_no', cnd_true, cnd_false, pick_true, pick_false, not_bool, bin_add, bin_sub, bin_mul, bin_eql, bin_neq, bin_lss, bin_leq, bin_gtr, bin_geq, ext0, ext1, ext2, lenS_mk, eqNil_none, eqNil_some, neNil_none, neNil_some, ret_k, mem, Nat.zero_add, Nat.add_zero, Nat.mul_one, drewV, Bool.not_true, Bool.not_false]
  by_cases h2 : 8 < wires
  · simp only [decide_eq_true h2, pv_some, nilO_ptr, faO_mk, gd_yes, gd_no, gd_yes', gd_no', cnd_true, cnd_false, pick_true, pick_false, not_bool, bin_add, bin_sub, bin_mul, bin_eql, bin_neq, bin_lss, bin_leq, bin_gtr, bin_geq, ext0, ext1, ext2, lenS_mk, eqNil_none, eqNil_some, neNil_none, neNil_some, ret_k, mem, Nat.zero_add, Nat.add_zero, Nat.mul_one, drewV, Bool.not_true, Bool.not_false]; exact bad (by omega)
  simp only [decide_eq_false h2, pv_some, nilO_ptr, faO_mk, gd_yes, gd_no, gd_yes', gd_no', cnd_true, cnd_false, pick_true, pick_false, not_bool, bin_add, bin_sub, bin_mul, bin_eql, bin_neq, bin_lss, bin_leq, bin_gtr, bin_geq, ext0, ext1, ext2, lenS_mk, eqNil_none, eqNil_some, neNil_none, neNil_some, ret_k, mem, Nat.zero_add, Nat.add_zero, Nat.mul_one, drewV, Bool.not_true, Bool.not_false]
  by_cases h3 : size < 32
  · simp only [decide_eq_true h3, pv_some, nilO_ptr, faO_mk, gd_yes, gd_no, gd_yes', gd_no', cnd_true, cnd_false, pick_true, pick_false, not_bool, bin_add, bin_sub, bin_mul, bin_eql, bin_neq, bin_lss, bin_leq, bin_gtr, bin_geq, ext0, ext1, ext2, lenS_mk, eqNil_none, eqNil_some, neNil_none, neNil_some, ret_k, mem, Nat.zero_add, Nat.add_zero, Nat.mul_one, drewV, Bool.not_true, Bool.not_false]; exact bad (by omega)
  simp only [decide_eq_false h3, pv_some, nilO_ptr, faO_mk, gd_yes, gd_no, gd_yes', gd_no', cnd_true, cnd_false, pick_true, pick_false, not_bool, bin_add, bin_sub, bin_mul, bin_eql, bin_neq, bin_lss, bin_leq, bin_gtr, bin_geq, ext0, ext1, ext2, lenS_mk, eqNil_none, eqNil_some, neNil_none, neNil_some, ret_k, mem, Nat.zero_add, Nat.add_zero, Nat.mul_one, drewV, Bool.not_true, Bool.not_false]
  by_cases h4 : 4096 < size
  · simp only [decide_eq_true h4, pv_some, nilO_ptr, faO_mk, gd_yes, gd_no, gd_yes', gd_no', cnd_true, cnd_false, pick_true, pick_false, not_bool, bin_add, bin_sub, bin_mul, bin_eql, bin_neq, bin_lss, bin_leq, bin_gtr, bin_geq, ext0, ext1, ext2, lenS_mk, eqNil_none, eqNil_some, neNil_none, neNil_some, ret_k, mem, Nat.zero_add, Nat.add_zero, Nat.mul_one, drewV, Bool.not_true, Bool.not_false]; exact bad (by omega)
  simp only [decide_eq_false h4, pv_some, nilO_ptr, faO_mk, gd_yes, gd_no, gd_yes', gd_no', cnd_true, cnd_false, pick_true, pick_false, not_bool, bin_add, bin_sub, bin_mul, bin_eql, bin_neq, bin_lss, bin_leq, bin_gtr, bin_geq, ext0, ext1, ext2, lenS_mk, eqNil_none, eqNil_some, neNil_none, neNil_some, ret_k, mem, Nat.zero_add, Nat.add_zero, Nat.mul_one, drewV, Bool.not_true, Bool.not_false]
  by_cases h5 : timeout < 1
  · simp only [decide_eq_true h5, pv_some, nilO_ptr, faO_mk, gd_yes, gd_no, gd_yes', gd_no', cnd_true, cnd_false, pick_true, pick_false, not_bool, bin_add, bin_sub, bin_mul, bin_eql, bin_neq, bin_lss, bin_leq, bin_gtr, bin_geq, ext0, ext1, ext2, lenS_mk, eqNil_none, eqNil_some, neNil_none, neNil_some, ret_k, mem, Nat.zero_add, Nat.add_zero, Nat.mul_one, drewV, Bool.not_true, Bool.not_false]; exact bad (by omega)
  simp only [decide_eq_false h5, pv_some, nilO_ptr, faO_mk, gd_yes, gd_no, gd_yes', gd_no', cnd_true, cnd_false, pick_true, pick_false, not_bool, bin_add, bin_sub, bin_mul, bin_eql, bin_neq, bin_lss, bin_leq, bin_gtr, bin_geq, ext0, ext1, ext2, lenS_mk, eqNil_none, eqNil_some, neNil_none, neNil_some, ret_k, mem, Nat.zero_add, Nat.add_zero, Nat.mul_one, drewV, Bool.not_true, Bool.not_false]
  by_cases h6 : 1099511627776 < timeout
  · simp only [decide_eq_true h6, pv_some, nilO_ptr, faO_mk, gd_yes, gd_no, gd_yes', gd_no', cnd_true, cnd_false, pick_true, pick_false, not_bool, bin_add, bin_sub, bin_mul, bin_eql, bin_neq, bin_lss, bin_leq, bin_gtr, bin_geq, ext0, ext1, ext2, lenS_mk, eqNil_none, eqNil_some, neNil_none, neNil_some, ret_k, mem, Nat.zero_add, Nat.add_zero, Nat.mul_one, drewV, Bool.not_true, Bool.not_false]; exact bad (by omega)
  simp only [decide_eq_false h6, pv_some, nilO_ptr, faO_mk, gd_yes, gd_no, gd_yes', gd_no', cnd_true, cnd_false, pick_true, pick_false, not_bool, bin_add, bin_sub, bin_mul, bin_eql, bin_neq, bin_lss, bin_leq, bin_gtr, bin_geq, ext0, ext1, ext2, lenS_mk, eqNil_none, eqNil_some, neNil_none, neNil_some, ret_k, mem, Nat.zero_add, Nat.add_zero, Nat.mul_one, drewV, Bool.not_true, Bool.not_false]
  have hne : ¬ (wires < 1 ∨ 8 < wires ∨ size < 32 ∨ 4096 < size ∨ timeout < 1 ∨ 1099511627776 < timeout) := by omega
  unfold links_New_j1
  simp only [pv_some, nilO_ptr, faO_mk, gd_yes, gd_no, gd_yes', gd_no', cnd_true, cnd_false, pick_true, pick_false, not_bool, bin_add, bin_sub, bin_mul, bin_eql, bin_neq, bin_lss, bin_leq, bin_gtr, bin_geq, ext0, ext1, ext2, lenS_mk, eqNil_none, eqNil_some, neNil_none, neNil_some, ret_k, mem, Nat.zero_add, Nat.add_zero, Nat.mul_one, drewV, Bool.not_true, Bool.not_false]
  have bad2 : (quality < 0 ∨ 2 < quality) → NewPost w0 F Lk wires size quality timeout (.returned (.tuple ⟨[.pointer none, I 17]⟩)) w := by
    intro h
    have e : newE wires size quality timeout = 17 := by unfold newE; rw [if_neg hne, if_pos h]
    refine ⟨fun _ => by rw [e]; exact ⟨rfl, H⟩, fun h' => ?_⟩
    rw [e] at h'; exact absurd h' (by decide)
  by_cases h7 : quality < 0
  · simp only [decide_eq_true h7, pv_some, nilO_ptr, faO_mk, gd_yes, gd_no, gd_yes', gd_no', cnd_true, cnd_false, pick_true, pick_false, not_bool, bin_add, bin_sub, bin_mul, bin_eql, bin_neq, bin_lss, bin_leq, bin_gtr, bin_geq, ext0, ext1, ext2, lenS_mk, eqNil_none, eqNil_some, neNil_none, neNil_some, ret_k, mem, Nat.zero_add, Nat.add_zero, Nat.mul_one, drewV, Bool.not_true, Bool.not_false]; exact bad2 (by omega)
  simp only [decide_eq_false h7, pv_some, nilO_ptr, faO_mk, gd_yes, gd_no, gd_yes', gd_no', cnd_true, cnd_false, pick_true, pick_false, not_bool, bin_add, bin_sub, bin_mul, bin_eql, bin_neq, bin_lss, bin_leq, bin_gtr, bin_geq, ext0, ext1, ext2, lenS_mk, eqNil_none, eqNil_some, neNil_none, neNil_some, ret_k, mem, Nat.zero_add, Nat.add_zero, Nat.mul_one, drewV, Bool.not_true, Bool.not_false]
  by_cases h8 : 2 < quality
  · simp only [decide_eq_true h8, pv_some, nilO_ptr, faO_mk, gd_yes, gd_no, gd_yes', gd_no', cnd_true, cnd_false, pick_true, pick_false, not_bool, bin_add, bin_sub, bin_mul, bin_eql, bin_neq, bin_lss, bin_leq, bin_gtr, bin_geq, ext0, ext1, ext2, lenS_mk, eqNil_none, eqNil_some, neNil_none, neNil_some, ret_k, mem, Nat.zero_add, Nat.add_zero, Nat.mul_one, drewV, Bool.not_true, Bool.not_false]; exact bad2 (by omega)
  simp only [decide_eq_false h8, pv_some, nilO_ptr, faO_mk, gd_yes, gd_no, gd_yes', gd_no', cnd_true, cnd_false, pick_true, pick_false, not_bool, bin_add, bin_sub, bin_mul, bin_eql, bin_neq, bin_lss, bin_leq, bin_gtr, bin_geq, ext0, ext1, ext2, lenS_mk, eqNil_none, eqNil_some, neNil_none, neNil_some, ret_k, mem, Nat.zero_add, Nat.add_zero, Nat.mul_one, drewV, Bool.not_true, Bool.not_false]
  have e0 : newE wires size quality timeout = 0 := by unfold newE; rw [if_neg hne, if_neg (by omega)]
  obtain ⟨n, rfl⟩ : ∃ n : Nat, wires = (n : Int) := ⟨wires.toNat, by omega⟩
  unfold links_New_j2
  refine lit1s_h elT92 H rfl fun w1 b1 H1 => ?_
  refine cal_h (Repeat_spec (n := n) (by omega) (by omega) H1) ?_
  rintro e w2 ⟨nb, rfl, H2⟩
  simp only [pv_some, nilO_ptr, faO_mk, gd_yes, gd_no, gd_yes', gd_no', cnd_true, cnd_false, pick_true, pick_false, not_bool, bin_add, bin_sub, bin_mul, bin_eql, bin_neq, bin_lss, bin_leq, bin_gtr, bin_geq, ext0, ext1, ext2, lenS_mk, eqNil_none, eqNil_some, neNil_none, neNil_some, ret_k, mem, Nat.zero_add, Nat.add_zero, Nat.mul_one, drewV, Bool.not_true, Bool.not_false]
  rw [bldE]
  simp only [pv_some, nilO_ptr, faO_mk, gd_yes, gd_no, gd_yes', gd_no', cnd_true, cnd_false, pick_true, pick_false, not_bool, bin_add, bin_sub, bin_mul, bin_eql, bin_neq, bin_lss, bin_leq, bin_gtr, bin_geq, ext0, ext1, ext2, lenS_mk, eqNil_none, eqNil_some, neNil_none, neNil_some, ret_k, mem, Nat.zero_add, Nat.add_zero, Nat.mul_one, drewV, Bool.not_true, Bool.not_false]
  rw [newbld rfl n]
  simp only [pv_some, nilO_ptr, faO_mk, gd_yes, gd_no, gd_yes', gd_no', cnd_true, cnd_false, pick_true, pick_false, not_bool, bin_add, bin_sub, bin_mul, bin_eql, bin_neq, bin_lss, bin_leq, bin_gtr, bin_geq, ext0, ext1, ext2, lenS_mk, eqNil_none, eqNil_some, neNil_none, neNil_some, ret_k, mem, Nat.zero_add, Nat.add_zero, Nat.mul_one, drewV, Bool.not_true, Bool.not_false]
  refine bxa_h H2 fun w3 b H3 => ?_
  refine ⟨fun h => absurd e0 h, fun _ => ⟨b, _, rfl, H3.to (L' := (⟨b, 96, lkc (newM n size quality timeout) (.slice (some ⟨nb, 0, none⟩) n n) (.slice none 0 0) (.slice none 0 0) (.slice none 0 0)⟩ :: ([⟨nb, 4, List.replicate n (.bool true)⟩] ++ ([] ++ ([] ++ ([] ++ []))))) ++ F) (by intro f; simp only [I, U8, U64, ptr, List.set_cons_zero, List.set_cons_succ, List.eraseIdx_cons_zero, List.eraseIdx_cons_succ, List.map_append, List.map_cons, List.map_nil, List.sum_append, List.sum_cons, List.sum_nil]; omega), ?_⟩⟩
  refine ⟨_, _, _, _, _, _, _, _, _, [], ⟨?_, Sl.nil, rfl, ?_, Sl.nil, Sl.nil⟩, rfl⟩
  · have : (newM n size quality timeout).up = List.replicate n true := rfl
    simp only [Int.toNat_natCast, this, List.length_replicate, List.map_replicate]
    exact Sl.full (by simp)
  · intro i u s h; simp [newM] at h
/-! ### the error of a time -/
def timeE (M : LM) (now : Int) : Int := if now < 0 ∨ 1099511627776 < now then 34 else if now < M.clock then 30 else if M.broken then 4 else 0
theorem time_spec {b : Nat} {M : LM} {now : Int} {su sus sp sa : Value} {tb : Nat} (H : Hp w0 w (⟨b, tb, lkc M su sus sp sa⟩ :: F)) :
    Calls Pg 34 ⟨[ptr b 0, I now]⟩ w fun e w' => e = .returned (I (timeE M now)) ∧ w' = w := by
  apply links_Link_time_calls
  unfold links_Link_time
  simp only [pv_some, nilO_ptr, faO_mk, gd_yes, gd_no, gd_yes', gd_no', cnd_true, cnd_false, pick_true, pick_false, not_bool, bin_add, bin_sub, bin_mul, bin_eql, bin_neq, bin_lss, bin_leq, bin_gtr, bin_geq, ext0, ext1, ext2, lenS_mk, eqNil_none, eqNil_some, neNil_none, neNil_some, ret_k, mem, Nat.zero_add, Nat.add_zero, Nat.mul_one, drewV, Bool.not_true, Bool.not_false]
  have bad : (now < 0 ∨ 1099511627776 < now) → (Ending.returned (Value.int .i64 34) = .returned (I (timeE M now)) ∧ True) := by
    intro h; unfold timeE; rw [if_pos h]; exact ⟨rfl, trivial⟩
  by_cases h1 : now < 0
  · simp only [decide_eq_true h1, pv_some, nilO_ptr, faO_mk, gd_yes, gd_no, gd_yes', gd_no', cnd_true, cnd_false, pick_true, pick_false, not_bool, bin_add, bin_sub, bin_mul, bin_eql, bin_neq, bin_lss, bin_leq, bin_gtr, bin_geq, ext0, ext1, ext2, lenS_mk, eqNil_none, eqNil_some, neNil_none, neNil_some, ret_k, mem, Nat.zero_add, Nat.add_zero, Nat.mul_one, drewV, Bool.not_true, Bool.not_false]; exact bad (.inl h1)
  simp only [decide_eq_false h1, pv_some, nilO_ptr, faO_mk, gd_yes, gd_no, gd_yes', gd_no', cnd_true, cnd_false, pick_true, pick_false, not_bool, bin_add, bin_sub, bin_mul, bin_eql, bin_neq, bin_lss, bin_leq, bin_gtr, bin_geq, ext0, ext1, ext2, lenS_mk, eqNil_none, eqNil_some, neNil_none, neNil_some, ret_k, mem, Nat.zero_add, Nat.add_zero, Nat.mul_one, drewV, Bool.not_true, Bool.not_false]
  by_cases h2 : 1099511627776 < now
  · simp only [decide_eq_true h2, pv_some, nilO_ptr, faO_mk, gd_yes, gd_no, gd_yes', gd_no', cnd_true, cnd_false, pick_true, pick_false, not_bool, bin_add, bin_sub, bin_mul, bin_eql, bin_neq, bin_lss, bin_leq, bin_gtr, bin_geq, ext0, ext1, ext2, lenS_mk, eqNil_none, eqNil_some, neNil_none, neNil_some, ret_k, mem, Nat.zero_add, Nat.add_zero, Nat.mul_one, drewV, Bool.not_true, Bool.not_false]; exact bad (.inr h2)
  simp only [decide_eq_false h2, pv_some, nilO_ptr, faO_mk, gd_yes, gd_no, gd_yes', gd_no', cnd_true, cnd_false, pick_true, pick_false, not_bool, bin_add, bin_sub, bin_mul, bin_eql, bin_neq, bin_lss, bin_leq, bin_gtr, bin_geq, ext0, ext1, ext2, lenS_mk, eqNil_none, eqNil_some, neNil_none, neNil_some, ret_k, mem, Nat.zero_add, Nat.add_zero, Nat.mul_one, drewV, Bool.not_true, Bool.not_false]
  have hn : ¬ (now < 0 ∨ 1099511627776 < now) := by omega
  refine ld_h H 0 rfl rfl ?_
  refine cnd_decide (fun h3 => ?_) (fun h3 => ?_)
  · unfold timeE; rw [if_neg hn, if_pos h3]; exact ⟨rfl, rfl⟩
  · refine ld_h H 0 rfl rfl ?_
    have e : timeE M now = if M.broken then 4 else 0 := by unfold timeE; rw [if_neg hn, if_neg h3]
    rw [e]
    cases hb : M.broken with
    | true => simp only [pv_some, nilO_ptr, faO_mk, gd_yes, gd_no, gd_yes', gd_no', cnd_true, cnd_false, pick_true, pick_false, not_bool, bin_add, bin_sub, bin_mul, bin_eql, bin_neq, bin_lss, bin_leq, bin_gtr, bin_geq, ext0, ext1, ext2, lenS_mk, eqNil_none, eqNil_some, neNil_none, neNil_some, ret_k, mem, Nat.zero_add, Nat.add_zero, Nat.mul_one, drewV, Bool.not_true, Bool.not_false]; exact ⟨by trivial, trivial⟩
    | false => simp only [pv_some, nilO_ptr, faO_mk, gd_yes, gd_no, gd_yes', gd_no', cnd_true, cnd_false, pick_true, pick_false, not_bool, bin_add, bin_sub, bin_mul, bin_eql, bin_neq, bin_lss, bin_leq, bin_gtr, bin_geq, ext0, ext1, ext2, lenS_mk, eqNil_none, eqNil_some, neNil_none, neNil_some, ret_k, mem, Nat.zero_add, Nat.add_zero, Nat.mul_one, drewV, Bool.not_true, Bool.not_false]; exact ⟨by trivial, trivial⟩
/-! ### the usable wires -/
def useI : Nat → List Bool → List Int
  | _, [] => []
  | i, b :: r => if b then (i : Int) :: useI (i + 1) r else useI (i + 1) r
def iv (xs : List Int) : List Value := xs.map I
theorem iv_length (xs : List Int) : (iv xs).length = xs.length := by simp [iv]
theorem useI_le : ∀ (l : List Bool) (i : Nat), (useI i l).length ≤ l.length
  | [], _ => Nat.le_refl _
  | b :: r, i => by
    simp only [useI, List.length_cons]
    have := useI_le r (i + 1)
    split
    · simp; omega
    · omega
theorem use_l {b : Nat} {up : List Bool} {su : Value} {cu : List Chunk} (hup : Sl 4 1 su up.length (up.map .bool) cu) (hcu : ∀ c ∈ cu, c ∈ F) (h8 : up.length < 2 ^ 20)
    (hq : ∀ w' s' cs', Hp w0 w' (cs' ++ F) → Sl 3 1 s' (useI 0 up).length (iv (useI 0 up)) cs' → R (.returned s') w') :
    ∀ (d i : Nat) (w : World) (acc : List Int) (s : Value) (cs : List Chunk), i + d = up.length → acc ++ useI i (up.drop i) = useI 0 up → acc.length ≤ i → Hp w0 w (cs ++ F) → Sl 3 1 s acc.length (iv acc) cs →
      links_Link_usable_l1 R (d + 1) s su (I (up.length : Int)) (I (i : Int)) w := by
  intro d
  induction d with
  | zero =>
    intro i w acc s cs hi ha hl H hs
    rw [links_Link_usable_l1_succ]
    unfold links_Link_usable_b1 links_Link_usable_j1
    simp only [pv_some, nilO_ptr, faO_mk, gd_yes, gd_no, gd_yes', gd_no', cnd_true, cnd_false, pick_true, pick_false, not_bool, bin_add, bin_sub, bin_mul, bin_eql, bin_neq, bin_lss, bin_leq, bin_gtr, bin_geq, ext0, ext1, ext2, lenS_mk, eqNil_none, eqNil_some, neNil_none, neNil_some, ret_k, mem, Nat.zero_add, Nat.add_zero, Nat.mul_one, drewV, Bool.not_true, Bool.not_false, show decide ((i : Int) < (up.length : Int)) = false from decide_eq_false (by omega)]
    rw [List.drop_eq_nil_of_le (by omega)] at ha
    simp only [useI, List.append_nil] at ha
    subst ha
    exact hq w s cs H hs
  | succ d ih =>
    intro i w acc s cs hi ha hl H hs
    rw [links_Link_usable_l1_succ]
    unfold links_Link_usable_b1 links_Link_usable_j4 links_Link_usable_j5
    have hlt : i < up.length := by omega
    have hrd := (hup.rdL (w0 := w0) (L := cs ++ F) (fun c hc => by simp [hcu c hc])).rd H
    simp only [pv_some, nilO_ptr, faO_mk, gd_yes, gd_no, gd_yes', gd_no', cnd_true, cnd_false, pick_true, pick_false, not_bool, bin_add, bin_sub, bin_mul, bin_eql, bin_neq, bin_lss, bin_leq, bin_gtr, bin_geq, ext0, ext1, ext2, lenS_mk, eqNil_none, eqNil_some, neNil_none, neNil_some, ret_k, mem, Nat.zero_add, Nat.add_zero, Nat.mul_one, drewV, Bool.not_true, Bool.not_false, show decide ((i : Int) < (up.length : Int)) = true from decide_eq_true (by omega)]
    refine ix1_rd (v := .bool up[i]) hrd (by simp [hlt]) ?_
    rw [List.drop_eq_getElem_cons hlt] at ha
    cases hb : up[i] with
    | true =>
      rw [hb, useI] at ha
      simp only [pv_some, nilO_ptr, faO_mk, gd_yes, gd_no, gd_yes', gd_no', cnd_true, cnd_false, pick_true, pick_false, not_bool, bin_add, bin_sub, bin_mul, bin_eql, bin_neq, bin_lss, bin_leq, bin_gtr, bin_geq, ext0, ext1, ext2, lenS_mk, eqNil_none, eqNil_some, neNil_none, neNil_some, ret_k, mem, Nat.zero_add, Nat.add_zero, Nat.mul_one, drewV, Bool.not_true, Bool.not_false]
      refine lit1s_h elT104 H rfl fun w1 nb H1 => ?_
      have H2 : Hp w0 w1 (cs ++ (⟨nb, 3, [I (i : Int)]⟩ :: F)) := H1.to (by intro f; simp only [I, U8, U64, ptr, List.set_cons_zero, List.set_cons_succ, List.eraseIdx_cons_zero, List.eraseIdx_cons_succ, List.map_append, List.map_cons, List.map_nil, List.sum_append, List.sum_cons, List.sum_nil]; omega)
      refine append_h elT104 H2 hs (m := 1) (ys := iv [(i : Int)]) (.inr ⟨nb, 0, 1, 3, [I (i : Int)], rfl, by omega, by simp, by simp, rfl⟩) (by simp [iv, scalar]) (by omega) (by omega) fun w3 s3 cs3 H3 hs3 => ?_
      rw [wrap64_id (by omega) (by omega), show (i : Int) + 1 = ((i + 1 : Nat) : Int) from by omega]
      refine ih (i + 1) w3 (acc ++ [(i : Int)]) s3 cs3 (by omega) (by rw [← ha]; simp) (by simp; omega) (H3.to (by intro f; simp only [I, U8, U64, ptr, List.set_cons_zero, List.set_cons_succ, List.eraseIdx_cons_zero, List.eraseIdx_cons_succ, List.map_append, List.map_cons, List.map_nil, List.sum_append, List.sum_cons, List.sum_nil]; omega)) ?_
      have : iv acc ++ iv [(i : Int)] = iv (acc ++ [(i : Int)]) := by simp [iv]
      rw [this] at hs3
      simpa using hs3
    | false =>
      rw [hb, useI] at ha
      simp only [pv_some, nilO_ptr, faO_mk, gd_yes, gd_no, gd_yes', gd_no', cnd_true, cnd_false, pick_true, pick_false, not_bool, bin_add, bin_sub, bin_mul, bin_eql, bin_neq, bin_lss, bin_leq, bin_gtr, bin_geq, ext0, ext1, ext2, lenS_mk, eqNil_none, eqNil_some, neNil_none, neNil_some, ret_k, mem, Nat.zero_add, Nat.add_zero, Nat.mul_one, drewV, Bool.not_true, Bool.not_false]
      rw [wrap64_id (by omega) (by omega), show (i : Int) + 1 = ((i + 1 : Nat) : Int) from by omega]
      exact ih (i + 1) w acc s cs (by omega) (by simpa using ha) (by omega) H hs
theorem usable_spec {b : Nat} {M : LM} {su sus sp sa : Value} {cu : List Chunk} {tb : Nat} (H : Hp w0 w (⟨b, tb, lkc M su sus sp sa⟩ :: F)) (hup : Sl 4 1 su M.up.length (M.up.map .bool) cu) (hcu : ∀ c ∈ cu, c ∈ F) (h8 : M.up.length < 2 ^ 20) :
    Calls Pg 38 ⟨[ptr b 0]⟩ w fun e w' => ∃ s' cs', e = .returned s' ∧ Hp w0 w' (cs' ++ (⟨b, tb, lkc M su sus sp sa⟩ :: F)) ∧ Sl 3 1 s' (useI 0 M.up).length (iv (useI 0 M.up)) cs' := by
  apply links_Link_usable_calls
  unfold links_Link_usable links_Link_usable_j2
  simp only [pv_some, nilO_ptr, faO_mk, gd_yes, gd_no, gd_yes', gd_no', cnd_true, cnd_false, pick_true, pick_false, not_bool, bin_add, bin_sub, bin_mul, bin_eql, bin_neq, bin_lss, bin_leq, bin_gtr, bin_geq, ext0, ext1, ext2, lenS_mk, eqNil_none, eqNil_some, neNil_none, neNil_some, ret_k, mem, Nat.zero_add, Nat.add_zero, Nat.mul_one, drewV, Bool.not_true, Bool.not_false]
  refine ld_h H 0 rfl rfl ?_
  simp only [lenS_sl hup, pv_some, nilO_ptr, faO_mk, gd_yes, gd_no, gd_yes', gd_no', cnd_true, cnd_false, pick_true, pick_false, not_bool, bin_add, bin_sub, bin_mul, bin_eql, bin_neq, bin_lss, bin_leq, bin_gtr, bin_geq, ext0, ext1, ext2, lenS_mk, eqNil_none, eqNil_some, neNil_none, neNil_some, ret_k, mem, Nat.zero_add, Nat.add_zero, Nat.mul_one, drewV, Bool.not_true, Bool.not_false]
  unfold links_Link_usable_j3
  exact ⟨M.up.length + 1, use_l (b := b) (F := ⟨b, tb, lkc M su sus sp sa⟩ :: F) hup (fun c hc => by simp [hcu c hc]) h8 (fun w' s' cs' H' hs' => ⟨s', cs', rfl, H', hs'⟩) M.up.length 0 w [] (.slice none 0 0) [] (by omega) (by simp) (by simp) H Sl.nil⟩
/-! ### the wires of a unit -/
def overI (q turn : Int) (ws : List Int) : List Int := if q = 0 then ws.take 1 else if q = 1 then (ws.drop (turn.tmod (ws.length : Int)).toNat).take 1 else ws
def overT (q turn : Int) : Int := if q = 0 then turn else if q = 1 then turn + 1 else turn
/-- A part of a slice of elements of one cell. -/
theorem slS1 {s : Value} {n lo hi : Nat} {xs : List Value} {el : Nat} {cs : List Chunk} (hs : Sl el 1 s n xs cs) (hcs : ∀ c ∈ cs, c ∈ L) (hne : 0 < n) (h1 : lo ≤ hi) (h2 : hi ≤ n) (hlo : lo < n) :
    ∃ s', slS 1 s (some (I (lo : Int))) (some (I (hi : Int))) = some s' ∧ RdL w0 L 1 s' (hi - lo) ((xs.drop lo).take (hi - lo)) := by
  obtain ⟨b, cap, rest, rfl, rfl, g1, g2, g3⟩ := hs.chunk hne
  refine ⟨.slice (some ⟨b, lo, none⟩) (hi - lo) (cap - lo), ?_, ?_⟩
  · simp only [slS, boundO]
    rw [if_pos (by omega)]
    simp only []
    rw [if_pos (by omega)]
    simp only [Int.toNat_natCast, Option.map_some, add_mk, Nat.mul_one, Nat.zero_add]
    rw [if_neg (by omega)]
  · refine .inr ⟨b, lo, cap - lo, el, xs ++ rest, rfl, by omega, hcs _ (by simp), by simp; omega, ?_⟩
    rw [Nat.mul_one, List.drop_append_of_le_length (by omega), List.take_append_of_le_length (by simp; omega)]
theorem over_spec {b : Nat} {M : LM} {su sus sp sa s : Value} {ws : List Int} {cw : List Chunk} {tb : Nat} (H : Hp w0 w (⟨b, tb, lkc M su sus sp sa⟩ :: F)) (hws : Sl 3 1 s ws.length (iv ws) cw) (hcw : ∀ c ∈ cw, c ∈ F)
    (hne : 0 < ws.length) (hw : ws.length < 2 ^ 20) (ht0 : 0 ≤ M.turn) (ht : M.turn < 2 ^ 60) :
    Calls Pg 39 ⟨[ptr b 0, s]⟩ w fun e w' => ∃ s', e = .returned s' ∧ Hp w0 w' (⟨b, tb, lkc { M with turn := overT M.quality M.turn } su sus sp sa⟩ :: F) ∧ RdL w0 cw 1 s' (overI M.quality M.turn ws).length (iv (overI M.quality M.turn ws)) := by
  apply links_Link_over_calls
  unfold links_Link_over
  simp only [pv_some, nilO_ptr, faO_mk, gd_yes, gd_no, gd_yes', gd_no', cnd_true, cnd_false, pick_true, pick_false, not_bool, bin_add, bin_sub, bin_mul, bin_eql, bin_neq, bin_lss, bin_leq, bin_gtr, bin_geq, ext0, ext1, ext2, lenS_mk, eqNil_none, eqNil_some, neNil_none, neNil_some, ret_k, mem, Nat.zero_add, Nat.add_zero, Nat.mul_one, drewV, Bool.not_true, Bool.not_false]
  refine ld_h H 0 rfl rfl ?_
  simp only [pv_some, nilO_ptr, faO_mk, gd_yes, gd_no, gd_yes', gd_no', cnd_true, cnd_false, pick_true, pick_false, not_bool, bin_add, bin_sub, bin_mul, bin_eql, bin_neq, bin_lss, bin_leq, bin_gtr, bin_geq, ext0, ext1, ext2, lenS_mk, eqNil_none, eqNil_some, neNil_none, neNil_some, ret_k, mem, Nat.zero_add, Nat.add_zero, Nat.mul_one, drewV, Bool.not_true, Bool.not_false]
  refine cnd_decide (fun h0 => ?_) (fun h0 => ?_)
  · obtain ⟨s', e1, r1⟩ := slS1 (w0 := w0) (L := cw) (lo := 0) (hi := 1) hws (fun c hc => hc) hne (by omega) (by omega) hne
    have e2 : slS 1 s none (some (I 1)) = some s' := by
      rw [← e1]
      obtain ⟨b', cap, rest, _, rfl, g1, g2, g3⟩ := hws.chunk hne
      simp only [slS, boundO]; rfl
    simp only [e2, pv_some, nilO_ptr, faO_mk, gd_yes, gd_no, gd_yes', gd_no', cnd_true, cnd_false, pick_true, pick_false, not_bool, bin_add, bin_sub, bin_mul, bin_eql, bin_neq, bin_lss, bin_leq, bin_gtr, bin_geq, ext0, ext1, ext2, lenS_mk, eqNil_none, eqNil_some, neNil_none, neNil_some, ret_k, mem, Nat.zero_add, Nat.add_zero, Nat.mul_one, drewV, Bool.not_true, Bool.not_false]
    refine ⟨s', rfl, ?_, ?_⟩
    · unfold overT; rw [if_pos h0]; exact H
    · unfold overI; rw [if_pos h0]
      have : (ws.take 1).length = 1 := by rw [List.length_take]; omega
      rw [this]
      simpa [iv, List.map_take] using r1
  · refine cnd_decide (fun h1 => ?_) (fun h1 => ?_)
    · refine ld_h H 0 rfl rfl ?_
      simp only [lenS_sl hws, pv_some, nilO_ptr, faO_mk, gd_yes, gd_no, gd_yes', gd_no', cnd_true, cnd_false, pick_true, pick_false, not_bool, bin_add, bin_sub, bin_mul, bin_eql, bin_neq, bin_lss, bin_leq, bin_gtr, bin_geq, ext0, ext1, ext2, lenS_mk, eqNil_none, eqNil_some, neNil_none, neNil_some, ret_k, mem, Nat.zero_add, Nat.add_zero, Nat.mul_one, drewV, Bool.not_true, Bool.not_false]
      rw [bin_rem (by omega)]
      simp only [pv_some, nilO_ptr, faO_mk, gd_yes, gd_no, gd_yes', gd_no', cnd_true, cnd_false, pick_true, pick_false, not_bool, bin_add, bin_sub, bin_mul, bin_eql, bin_neq, bin_lss, bin_leq, bin_gtr, bin_geq, ext0, ext1, ext2, lenS_mk, eqNil_none, eqNil_some, neNil_none, neNil_some, ret_k, mem, Nat.zero_add, Nat.add_zero, Nat.mul_one, drewV, Bool.not_true, Bool.not_false]
      refine ld_h H 0 rfl rfl ?_
      simp only [pv_some, nilO_ptr, faO_mk, gd_yes, gd_no, gd_yes', gd_no', cnd_true, cnd_false, pick_true, pick_false, not_bool, bin_add, bin_sub, bin_mul, bin_eql, bin_neq, bin_lss, bin_leq, bin_gtr, bin_geq, ext0, ext1, ext2, lenS_mk, eqNil_none, eqNil_some, neNil_none, neNil_some, ret_k, mem, Nat.zero_add, Nat.add_zero, Nat.mul_one, drewV, Bool.not_true, Bool.not_false]
      refine st_h H 0 rfl (by simp [lkc]) rfl fun w2 H2 => ?_
      obtain ⟨k, hk⟩ : ∃ k : Nat, M.turn.tmod (ws.length : Int) = (k : Int) := ⟨(M.turn.tmod (ws.length : Int)).toNat, by have := Int.tmod_nonneg (ws.length : Int) ht0; omega⟩
      have hkl : k < ws.length := by
        have := Int.tmod_lt_of_pos M.turn (show (0 : Int) < (ws.length : Int) from by omega); omega
      obtain ⟨s', e1, r1⟩ := slS1 (w0 := w0) (L := cw) (lo := k) (hi := k + 1) hws (fun c hc => hc) hne (by omega) (by omega) hkl
      rw [hk]
      rw [wrap64_id (a := (k : Int) + 1) (by omega) (by omega), show (k : Int) + 1 = ((k + 1 : Nat) : Int) from by omega, e1]
      simp only [pv_some, nilO_ptr, faO_mk, gd_yes, gd_no, gd_yes', gd_no', cnd_true, cnd_false, pick_true, pick_false, not_bool, bin_add, bin_sub, bin_mul, bin_eql, bin_neq, bin_lss, bin_leq, bin_gtr, bin_geq, ext0, ext1, ext2, lenS_mk, eqNil_none, eqNil_some, neNil_none, neNil_some, ret_k, mem, Nat.zero_add, Nat.add_zero, Nat.mul_one, drewV, Bool.not_true, Bool.not_false]
      refine ⟨s', rfl, ?_, ?_⟩
      · have e : overT M.quality M.turn = IntKind.i64.wrap (M.turn + 1) := by
          unfold overT; rw [if_neg h0, if_pos h1, wrap64_id (by omega) (by omega)]
        rw [e]; exact H2
      · unfold overI; rw [if_neg h0, if_pos h1, hk, Int.toNat_natCast]
        have : ((ws.drop k).take 1).length = 1 := by rw [List.length_take, List.length_drop]; omega
        rw [this]
        rw [show k + 1 - k = 1 from by omega] at r1
        simpa [iv, List.map_take, List.map_drop] using r1
    · refine ⟨s, rfl, ?_, ?_⟩
      · unfold overT; rw [if_neg h0, if_neg h1]; exact H
      · unfold overI; rw [if_neg h0, if_neg h1]
        exact hws.rdL (fun c hc => hc)
end
end Go.Proofs.Ytmnpndgmfmjfhaa.Den
