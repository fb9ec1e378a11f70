/- Links: the reference's New, and how the laws begin. Conditions: none. -/
import Derived.Test.YtmnpndgmfmjfhaaLkT
set_option linter.unusedVariables false
set_option linter.unusedSimpArgs false
set_option maxRecDepth 8000
namespace Go.Proofs.Ytmnpndgmfmjfhaa.Den
open Go Go.RowKit
def rlc (M : LM) (su sus sp sa : Value) : List Value :=
  [su, I M.size, I M.quality, I M.timeout, I M.clock, sus, I M.sent, I M.done, I M.repeats, I M.turn, .bool M.broken, I M.msg, I M.frag, sp, sa]
/-- A link of the reference stands at block b in the chunks L. -/
def rLk (w0 : Base) (b : Nat) (M : LM) (L : List Chunk) : Prop :=
  ∃ su sus sp sa cu cus cp ca D sv, LkP 141 144 w0 M su sus sp sa cu cus cp ca D sv ∧ L = ⟨b, 125, rlc M su sus sp sa⟩ :: (cu ++ (cus ++ (cp ++ (ca ++ D))))
theorem elT122 : ElT 122 141 6 64 [I 0, .bool false, I 0, I 0, .slice none 0 0, I 0] := ⟨by kernel_rfl, by kernel_rfl, rfl⟩
theorem elT123 : ElT 123 144 6 64 [I 0, I 0, .bool false, I 0, I 0, .slice none 0 0] := ⟨by kernel_rfl, by kernel_rfl, rfl⟩
theorem elT127 : ElT 127 145 2 32 [I 0, .slice none 0 0] := ⟨by kernel_rfl, by kernel_rfl, rfl⟩
section
variable {w : World} {w0 : Base} {F L : List Chunk} {R : ER}
theorem rnew_l {wires b : Nat} {size quality timeout : Int} (hw : wires ≤ 8)
    (k : ∀ w' L', Hp w0 w' (L' ++ F) → rLk w0 b (newM wires size quality timeout) L' → R (.returned (.tuple ⟨[ptr b 0, I 0]⟩)) w') :
    ∀ (d j : Nat) (w : World) (su : Value) (cu : List Chunk), j + d = wires → Sl 4 1 su j (List.replicate j (.bool true)) cu →
      Hp w0 w (cu ++ (⟨b, 125, rlc (newM wires size quality timeout) su (.slice none 0 0) (.slice none 0 0) (.slice none 0 0)⟩ :: F)) →
      orpimentref35_New_l1 R (d + 1) (I (wires : Int)) (ptr b 0) (I (j : Int)) w := by
  intro d
  induction d with
  | zero =>
    intro j w su cu hj hS H
    rw [orpimentref35_New_l1_succ]
    unfold orpimentref35_New_b1 orpimentref35_New_j3
    simp only [pv_some, nilO_ptr, faO_mk, gd_yes, gd_no, gd_yes', gd_no', cnd_true, cnd_false, pick_true, pick_false, not_bool, bin_add, bin_sub, bin_mul, bin_eql, bin_neq, bin_lss, bin_leq, bin_gtr, bin_geq, ext0, ext1, ext2, lenS_mk, eqNil_none, eqNil_some, neNil_none, neNil_some, ret_k, mem, Nat.zero_add, Nat.add_zero, Nat.mul_one, drewV, Bool.not_true, Bool.not_false, show decide ((j : Int) < (wires : Int)) = false from decide_eq_false (by omega)]
    have hj : j = wires := by omega
    subst hj
    refine k w (⟨b, 125, rlc (newM j size quality timeout) su (.slice none 0 0) (.slice none 0 0) (.slice none 0 0)⟩ :: cu) (H.to (by intro f; simp only [I, U8, U64, ptr, List.set_cons_zero, List.set_cons_succ, List.eraseIdx_cons_zero, List.eraseIdx_cons_succ, List.map_append, List.map_cons, List.map_nil, List.sum_append, List.sum_cons, List.sum_nil]; omega)) ⟨su, .slice none 0 0, .slice none 0 0, .slice none 0 0, cu, [], [], [], [], [], ?_, by simp⟩
    refine ⟨?_, Sl.nil, rfl, fun i u s h => by simp [newM] at h, Sl.nil, Sl.nil⟩
    simpa [newM] using hS
  | succ d ih =>
    intro j w su cu hj hS H
    rw [orpimentref35_New_l1_succ]
    unfold orpimentref35_New_b1 orpimentref35_New_j6
    simp only [pv_some, nilO_ptr, faO_mk, gd_yes, gd_no, gd_yes', gd_no', cnd_true, cnd_false, pick_true, pick_false, not_bool, bin_add, bin_sub, bin_mul, bin_eql, bin_neq, bin_lss, bin_leq, bin_gtr, bin_geq, ext0, ext1, ext2, lenS_mk, eqNil_none, eqNil_some, neNil_none, neNil_some, ret_k, mem, Nat.zero_add, Nat.add_zero, Nat.mul_one, drewV, Bool.not_true, Bool.not_false, show decide ((j : Int) < (wires : Int)) = true from decide_eq_true (by omega)]
    have H0 : Hp w0 w (⟨b, 125, rlc (newM wires size quality timeout) su (.slice none 0 0) (.slice none 0 0) (.slice none 0 0)⟩ :: (cu ++ F)) := H.to (by intro f; simp only [I, U8, U64, ptr, List.set_cons_zero, List.set_cons_succ, List.eraseIdx_cons_zero, List.eraseIdx_cons_succ, List.map_append, List.map_cons, List.map_nil, List.sum_append, List.sum_cons, List.sum_nil]; omega)
    refine ld_h H0 0 rfl rfl ?_
    refine lit1s_h elT92 H0 rfl fun w1 nb H1 => ?_
    have H1' : Hp w0 w1 (cu ++ (⟨nb, 4, [.bool true]⟩ :: ⟨b, 125, rlc (newM wires size quality timeout) su (.slice none 0 0) (.slice none 0 0) (.slice none 0 0)⟩ :: F)) := H1.to (by intro f; simp only [I, U8, U64, ptr, List.set_cons_zero, List.set_cons_succ, List.eraseIdx_cons_zero, List.eraseIdx_cons_succ, List.map_append, List.map_cons, List.map_nil, List.sum_append, List.sum_cons, List.sum_nil]; omega)
    refine append_h (m := 1) (ys := [.bool true]) elT92 H1' hS (.inr ⟨nb, 0, 1, 4, [.bool true], rfl, by omega, by simp, by simp, rfl⟩) (by intro c hc; simp at hc; subst hc; rfl) (by omega) (by omega) fun w2 s2 cs2 H2 hS2 => ?_
    try simp only [pv_some, nilO_ptr, faO_mk, gd_yes, gd_no, gd_yes', gd_no', cnd_true, cnd_false, pick_true, pick_false, not_bool, bin_add, bin_sub, bin_mul, bin_eql, bin_neq, bin_lss, bin_leq, bin_gtr, bin_geq, ext0, ext1, ext2, lenS_mk, eqNil_none, eqNil_some, neNil_none, neNil_some, ret_k, mem, Nat.zero_add, Nat.add_zero, Nat.mul_one, drewV, Bool.not_true, Bool.not_false]
    have H2' : Hp w0 w2 (⟨b, 125, rlc (newM wires size quality timeout) su (.slice none 0 0) (.slice none 0 0) (.slice none 0 0)⟩ :: (cs2 ++ (⟨nb, 4, [.bool true]⟩ :: F))) := H2.to (by intro f; simp only [I, U8, U64, ptr, List.set_cons_zero, List.set_cons_succ, List.eraseIdx_cons_zero, List.eraseIdx_cons_succ, List.map_append, List.map_cons, List.map_nil, List.sum_append, List.sum_cons, List.sum_nil]; omega)
    refine st_h H2' 0 rfl (by simp [rlc]) (rd_cells (hS2.rdL (w0 := w0) (L := cs2) fun c hc => hc)).2 fun w3 H3 => ?_
    simp only [List.set_cons_zero] at H3
    rw [wrap64_id (by omega) (by omega), show (j : Int) + 1 = ((j + 1 : Nat) : Int) from by omega]
    refine ih (j + 1) w3 s2 cs2 (by omega) (by rw [List.replicate_succ']; exact hS2) ?_
    have H3' : Hp w0 w3 (⟨b, 125, rlc (newM wires size quality timeout) s2 (.slice none 0 0) (.slice none 0 0) (.slice none 0 0)⟩ :: (cs2 ++ (⟨nb, 4, [.bool true]⟩ :: F))) := H3
    exact H3'.to (by intro f; simp only [I, U8, U64, ptr, List.set_cons_zero, List.set_cons_succ, List.eraseIdx_cons_zero, List.eraseIdx_cons_succ, List.map_append, List.map_cons, List.map_nil, List.sum_append, List.sum_cons, List.sum_nil]; omega)
theorem rNew_spec {wires size quality timeout : Int} (H : Hp w0 w F) : Calls Pg 30 ⟨[I wires, I size, I quality, I timeout]⟩ w (NewPost w0 F rLk wires size quality timeout) := by
  apply orpimentref35_New_calls
  unfold orpimentref35_New orpimentref35_New_j7
  have bad : (wires < 1 ∨ 8 < wires ∨ size < 32 ∨ 4096 < size ∨ timeout < 1 ∨ 1099511627776 < timeout) → NewPost w0 F rLk wires size quality timeout (.returned (.tuple ⟨[.pointer none, I 34]⟩)) w := by
    intro h
    have e : newE wires size quality timeout = 34 := by unfold newE; rw [if_pos h]
    refine ⟨fun _ => by rw [e]; exact ⟨rfl, H⟩, fun h' => ?_⟩
    rw [e] at h'; exact absurd h' (by decide)
  simp only [pv_some, nilO_ptr, faO_mk, gd_yes, gd_no, gd_yes', gd_no', cnd_true, cnd_false, pick_true, pick_false, not_bool, bin_add, bin_sub, bin_mul, bin_eql, bin_neq, bin_lss, bin_leq, bin_gtr, bin_geq, ext0, ext1, ext2, lenS_mk, eqNil_none, eqNil_some, neNil_none, neNil_some, ret_k, mem, Nat.zero_add, Nat.add_zero, Nat.mul_one, drewV, Bool.not_true, Bool.not_false]
  by_cases h1 : wires < 1
  · simp only [decide_eq_true h1, pv_some, nilO_ptr, faO_mk, gd_yes, gd_no, gd_yes', gd_no', cnd_true, cnd_false, pick_true, pick_false, not_bool, bin_add, bin_sub, bin_mul, bin_eql, bin_neq, bin_lss, bin_leq, bin_gtr, bin_geq, ext0, ext1, ext2, lenS_mk, eqNil_none, eqNil_some, neNil_none, neNil_some, ret_k, mem, Nat.zero_add, Nat.add_zero, Nat.mul_one, drewV, Bool.not_true, Bool.not_false]; exact bad (by omega)
  simp only [decide_eq_false h1, pv_some, nilO_ptr, faO_mk, gd_yes, gd_no, gd_yes', gd_no', cnd_true, cnd_false, pick_true, pick_false, not_bool, bin_add, bin_sub, bin_mul, bin_eql, bin_neq, bin_lss, bin_leq, bin_gtr, bin_geq, ext0, ext1, ext2, lenS_mk, eqNil_none, eqNil_some, neNil_none, neNil_some, ret_k, mem, Nat.zero_add, Nat.add_zero, Nat.mul_one, drewV, Bool.not_true, Bool.not_false]
  by_cases h2 : 8 < wires
  · simp only [decide_eq_true h2, pv_some, nilO_ptr, faO_mk, gd_yes, gd_no, gd_yes', gd_no', cnd_true, cnd_false, pick_true, pick_false, not_bool, bin_add, bin_sub, bin_mul, bin_eql, bin_neq, bin_lss, bin_leq, bin_gtr, bin_geq, ext0, ext1, ext2, lenS_mk, eqNil_none, eqNil_some, neNil_none, neNil_some, ret_k, mem, Nat.zero_add, Nat.add_zero, Nat.mul_one, drewV, Bool.not_true, Bool.not_false]; exact bad (by omega)
  simp only [decide_eq_false h2, pv_some, nilO_ptr, faO_mk, gd_yes, gd_no, gd_yes', gd_no', cnd_true, cnd_false, pick_true, pick_false, not_bool, bin_add, bin_sub, bin_mul, bin_eql, bin_neq, bin_lss, bin_leq, bin_gtr, bin_geq, ext0, ext1, ext2, lenS_mk, eqNil_none, eqNil_some, neNil_none, neNil_some, ret_k, mem, Nat.zero_add, Nat.add_zero, Nat.mul_one, drewV, Bool.not_true, Bool.not_false]
  by_cases h3 : size < 32
  · simp only [decide_eq_true h3, pv_some, nilO_ptr, faO_mk, gd_yes, gd_no, gd_yes', gd_no', cnd_true, cnd_false, pick_true, pick_false, not_bool, bin_add, bin_sub, bin_mul, bin_eql, bin_neq, bin_lss, bin_leq, bin_gtr, bin_geq, ext0, ext1, ext2, lenS_mk, eqNil_none, eqNil_some, neNil_none, neNil_some, ret_k, mem, Nat.zero_add, Nat.add_zero, Nat.mul_one, drewV, Bool.not_true, Bool.not_false]; exact bad (by omega)
  simp only [decide_eq_false h3, pv_some, nilO_ptr, faO_mk, gd_yes, gd_no, gd_yes', gd_no', cnd_true, cnd_false, pick_true, pick_false, not_bool, bin_add, bin_sub, bin_mul, bin_eql, bin_neq, bin_lss, bin_leq, bin_gtr, bin_geq, ext0, ext1, ext2, lenS_mk, eqNil_none, eqNil_some, neNil_none, neNil_some, ret_k, mem, Nat.zero_add, Nat.add_zero, Nat.mul_one, drewV, Bool.not_true, Bool.not_false]
  by_cases h4 : 4096 < size
  · simp only [decide_eq_true h4, pv_some, nilO_ptr, faO_mk, gd_yes, gd_no, gd_yes', gd_no', cnd_true, cnd_false, pick_true, pick_false, not_bool, bin_add, bin_sub, bin_mul, bin_eql, bin_neq, bin_lss, bin_leq, bin_gtr, bin_geq, ext0, ext1, ext2, lenS_mk, eqNil_none, eqNil_some, neNil_none, neNil_some, ret_k, mem, Nat.zero_add, Nat.add_zero, Nat.mul_one, drewV, Bool.not_true, Bool.not_false]; exact bad (by omega)
  simp only [decide_eq_false h4, pv_some, nilO_ptr, faO_mk, gd_yes, gd_no, gd_yes', gd_no', cnd_true, cnd_false, pick_true, pick_false, not_bool, bin_add, bin_sub, bin_mul, bin_eql, bin_neq, bin_lss, bin_leq, bin_gtr, bin_geq, ext0, ext1, ext2, lenS_mk, eqNil_none, eqNil_some, neNil_none, neNil_some, ret_k, mem, Nat.zero_add, Nat.add_zero, Nat.mul_one, drewV, Bool.not_true, Bool.not_false]
  by_cases h5 : timeout < 1
  · simp only [decide_eq_true h5, pv_some, nilO_ptr, faO_mk, gd_yes, gd_no, gd_yes', gd_no', cnd_true, cnd_false, pick_true, pick_false, not_bool, bin_add, bin_sub, bin_mul, bin_eql, bin_neq, bin_lss, bin_leq, bin_gtr, bin_geq, ext0, ext1, ext2, lenS_mk, eqNil_none, eqNil_some, neNil_none, neNil_some, ret_k, mem, Nat.zero_add, Nat.add_zero, Nat.mul_one, drewV, Bool.not_true, Bool.not_false]; exact bad (by omega)
  simp only [decide_eq_false h5, pv_some, nilO_ptr, faO_mk, gd_yes, gd_no, gd_yes', gd_no', cnd_true, cnd_false, pick_true, pick_false, not_bool, bin_add, bin_sub, bin_mul, bin_eql, bin_neq, bin_lss, bin_leq, bin_gtr, bin_geq, ext0, ext1, ext2, lenS_mk, eqNil_none, eqNil_some, neNil_none, neNil_some, ret_k, mem, Nat.zero_add, Nat.add_zero, Nat.mul_one, drewV, Bool.not_true, Bool.not_false]
  by_cases h6 : 1099511627776 < timeout
  · simp only [decide_eq_true h6, pv_some, nilO_ptr, faO_mk, gd_yes, gd_no, gd_yes', gd_no', cnd_true, cnd_false, pick_true, pick_false, not_bool, bin_add, bin_sub, bin_mul, bin_eql, bin_neq, bin_lss, bin_leq, bin_gtr, bin_geq, ext0, ext1, ext2, lenS_mk, eqNil_none, eqNil_some, neNil_none, neNil_some, ret_k, mem, Nat.zero_add, Nat.add_zero, Nat.mul_one, drewV, Bool.not_true, Bool.not_false]; exact bad (by omega)
  simp only [decide_eq_false h6, pv_some, nilO_ptr, faO_mk, gd_yes, gd_no, gd_yes', gd_no', cnd_true, cnd_false, pick_true, pick_false, not_bool, bin_add, bin_sub, bin_mul, bin_eql, bin_neq, bin_lss, bin_leq, bin_gtr, bin_geq, ext0, ext1, ext2, lenS_mk, eqNil_none, eqNil_some, neNil_none, neNil_some, ret_k, mem, Nat.zero_add, Nat.add_zero, Nat.mul_one, drewV, Bool.not_true, Bool.not_false]
  have hno : ¬ (wires < 1 ∨ 8 < wires ∨ size < 32 ∨ 4096 < size ∨ timeout < 1 ∨ 1099511627776 < timeout) := by omega
  unfold orpimentref35_New_j1
  have bad2 : (quality < 0 ∨ 2 < quality) → NewPost w0 F rLk wires size quality timeout (.returned (.tuple ⟨[.pointer none, I 17]⟩)) w := by
    intro h
    have e : newE wires size quality timeout = 17 := by unfold newE; rw [if_neg hno, if_pos h]
    refine ⟨fun _ => by rw [e]; exact ⟨rfl, H⟩, fun h' => ?_⟩
    rw [e] at h'; exact absurd h' (by decide)
  simp only [pv_some, nilO_ptr, faO_mk, gd_yes, gd_no, gd_yes', gd_no', cnd_true, cnd_false, pick_true, pick_false, not_bool, bin_add, bin_sub, bin_mul, bin_eql, bin_neq, bin_lss, bin_leq, bin_gtr, bin_geq, ext0, ext1, ext2, lenS_mk, eqNil_none, eqNil_some, neNil_none, neNil_some, ret_k, mem, Nat.zero_add, Nat.add_zero, Nat.mul_one, drewV, Bool.not_true, Bool.not_false]
  by_cases h7 : quality < 0
  · simp only [decide_eq_true h7, pv_some, nilO_ptr, faO_mk, gd_yes, gd_no, gd_yes', gd_no', cnd_true, cnd_false, pick_true, pick_false, not_bool, bin_add, bin_sub, bin_mul, bin_eql, bin_neq, bin_lss, bin_leq, bin_gtr, bin_geq, ext0, ext1, ext2, lenS_mk, eqNil_none, eqNil_some, neNil_none, neNil_some, ret_k, mem, Nat.zero_add, Nat.add_zero, Nat.mul_one, drewV, Bool.not_true, Bool.not_false]; exact bad2 (by omega)
  simp only [decide_eq_false h7, pv_some, nilO_ptr, faO_mk, gd_yes, gd_no, gd_yes', gd_no', cnd_true, cnd_false, pick_true, pick_false, not_bool, bin_add, bin_sub, bin_mul, bin_eql, bin_neq, bin_lss, bin_leq, bin_gtr, bin_geq, ext0, ext1, ext2, lenS_mk, eqNil_none, eqNil_some, neNil_none, neNil_some, ret_k, mem, Nat.zero_add, Nat.add_zero, Nat.mul_one, drewV, Bool.not_true, Bool.not_false]
  by_cases h8 : 2 < quality
  · simp only [decide_eq_true h8, pv_some, nilO_ptr, faO_mk, gd_yes, gd_no, gd_yes', gd_no', cnd_true, cnd_false, pick_true, pick_false, not_bool, bin_add, bin_sub, bin_mul, bin_eql, bin_neq, bin_lss, bin_leq, bin_gtr, bin_geq, ext0, ext1, ext2, lenS_mk, eqNil_none, eqNil_some, neNil_none, neNil_some, ret_k, mem, Nat.zero_add, Nat.add_zero, Nat.mul_one, drewV, Bool.not_true, Bool.not_false]; exact bad2 (by omega)
  simp only [decide_eq_false h8, pv_some, nilO_ptr, faO_mk, gd_yes, gd_no, gd_yes', gd_no', cnd_true, cnd_false, pick_true, pick_false, not_bool, bin_add, bin_sub, bin_mul, bin_eql, bin_neq, bin_lss, bin_leq, bin_gtr, bin_geq, ext0, ext1, ext2, lenS_mk, eqNil_none, eqNil_some, neNil_none, neNil_some, ret_k, mem, Nat.zero_add, Nat.add_zero, Nat.mul_one, drewV, Bool.not_true, Bool.not_false]
  have e0 : newE wires size quality timeout = 0 := by unfold newE; rw [if_neg hno, if_neg (by omega)]
  unfold orpimentref35_New_j2
  have eb : bldO [.slice none 0 0, .int .i64 0, .int .i64 0, .int .i64 0, .int .i64 0, .slice none 0 0, .int .i64 0, .int .i64 0, .int .i64 0, .int .i64 0, .bool false, .int .i64 0, .int .i64 0, .slice none 0 0, .slice none 0 0] [(1, 1, I size), (2, 1, I quality), (3, 1, I timeout), (11, 1, (.int .i64 1))] = some (.agg ⟨rlc (newM wires.toNat size quality timeout) (.slice none 0 0) (.slice none 0 0) (.slice none 0 0) (.slice none 0 0)⟩) := rfl
  simp only [eb, pv_some, nilO_ptr, faO_mk, gd_yes, gd_no, gd_yes', gd_no', cnd_true, cnd_false, pick_true, pick_false, not_bool, bin_add, bin_sub, bin_mul, bin_eql, bin_neq, bin_lss, bin_leq, bin_gtr, bin_geq, ext0, ext1, ext2, lenS_mk, eqNil_none, eqNil_some, neNil_none, neNil_some, ret_k, mem, Nat.zero_add, Nat.add_zero, Nat.mul_one, drewV, Bool.not_true, Bool.not_false]
  refine bxa_h H fun w1 b H1 => ?_
  unfold orpimentref35_New_j4 orpimentref35_New_j5
  refine ⟨wires.toNat + 1, ?_⟩
  obtain ⟨n, rfl⟩ : ∃ n : Nat, wires = (n : Int) := ⟨wires.toNat, by omega⟩
  rw [Int.toNat_natCast] at *
  exact rnew_l (by omega) (fun w' L' H' hL => ⟨fun h => absurd e0 h, fun _ => ⟨b, L', rfl, H', by rw [Int.toNat_natCast]; exact hL⟩⟩) n 0 w1 (.slice none 0 0) [] (by omega) Sl.nil (by rw [List.nil_append]; exact H1)
/-! ### begin -/
theorem remU {a m : Int} (h0 : 0 < m) : bin .rem (U64 (u64 a)) (U64 m) = some (U64 (u64 a % m)) := by
  rw [U64, U64, bin_rem (by omega), Int.tmod_eq_emod_of_nonneg (show 0 ≤ u64 a from Int.emod_nonneg _ (by decide))]
theorem cv_small {a m : Int} (h0 : 0 < m) (h1 : m < 4294967296) : cvI .i64 (U64 (u64 a % m)) = some (I (u64 a % m)) := by
  have h2 := Int.emod_nonneg (u64 a) (b := m) (by omega)
  have h3 := Int.emod_lt_of_pos (u64 a) h0
  rw [U64, cvI64, i64, wrap64_id (by omega) (by omega)]
theorem add_small {a m c : Int} (h0 : 0 < m) (h1 : m < 4294967296) (c0 : 0 ≤ c) (c1 : c < 4294967296) : bin .add (I c) (I (u64 a % m)) = some (I (c + u64 a % m)) := by
  have h2 := Int.emod_nonneg (u64 a) (b := m) (by omega)
  have h3 := Int.emod_lt_of_pos (u64 a) h0
  rw [I, I, bin_add, wrap64_id (by omega) (by omega)]
def cfW (a : Int) : Int := 1 + u64 a % 3
def cfS (a : Int) : Int := 32 + u64 a % 64
def cfQ (a : Int) : Int := u64 a % 3
def cfT (a : Int) : Int := 1 + u64 a % 30
def cfM (a b c d : Int) : LM := newM (cfW a).toNat (cfS b) (cfQ c) (cfT d)
theorem cf_ok (a b c d : Int) : newE (cfW a) (cfS b) (cfQ c) (cfT d) = 0 := by
  unfold cfW cfS cfQ cfT newE
  rw [if_neg (by omega), if_neg (by omega)]
theorem cf_W (a : Int) : 1 ≤ (cfW a).toNat ∧ (cfW a).toNat ≤ 3 := by unfold cfW; omega
theorem begin_r {a b c d : Int} {l : List Value} {tb cb i : Nat} {k1 : Value → Value → Value → WP} (hi : i < 2) (hl : l.length = 10)
    (H : Hp w0 w (⟨tb, 39, l⟩ :: ⟨cb, 23, [I a, I b, I c, I d]⟩ :: F))
    (k : ∀ w' p q L L', Hp w0 w' (⟨tb, 39, (l.set i (ptr p 0)).set (2 + i) (ptr q 0)⟩ :: ⟨cb, 23, [I a, I b, I c, I d]⟩ :: (L ++ (L' ++ F))) → Lk w0 p (cfM a b c d) L → rLk w0 q (cfM a b c d) L' → k1 (ptr cb 0) (ptr tb 0) (I ((i + 1 : Nat) : Int)) w') :
    orpimentlaw35_begin_j4 R k1 (ptr cb 0) (ptr tb 0) (I (i : Int)) w := by
  unfold orpimentlaw35_begin_j4
  have ss : ∀ {w : World} {l : List Value} {F : List Chunk} {K : Value → Value → Value → Value → WP}, Hp w0 w (⟨tb, 39, l⟩ :: ⟨cb, 23, [I a, I b, I c, I d]⟩ :: F) → K (I (cfW a)) (I (cfS b)) (I (cfQ c)) (I (cfT d)) w →
      (ld1 (ptr cb 0) fun v2 =>
      pv (cvI .u64 v2) fun v3 =>
      pv (bin .rem v3 (.int .u64 3)) fun v4 =>
      pv (cvI .i64 v4) fun v5 =>
      pv (bin .add (.int .i64 1) v5) fun v6 =>
      ld1 (ptr cb 1) fun v8 =>
      pv (cvI .u64 v8) fun v9 =>
      pv (bin .rem v9 (.int .u64 64)) fun v10 =>
      pv (cvI .i64 v10) fun v11 =>
      pv (bin .add (.int .i64 32) v11) fun v12 =>
      ld1 (ptr cb 2) fun v14 =>
      pv (cvI .u64 v14) fun v15 =>
      pv (bin .rem v15 (.int .u64 3)) fun v16 =>
      pv (cvI .i64 v16) fun v17 =>
      ld1 (ptr cb 3) fun v19 =>
      pv (cvI .u64 v19) fun v20 =>
      pv (bin .rem v20 (.int .u64 30)) fun v21 =>
      pv (cvI .i64 v21) fun v22 =>
      pv (bin .add (.int .i64 1) v22) fun v23 => K v6 v12 v17 v23) w := by
    intro w l F K H k
    refine ld_h H 1 rfl rfl ?_
    rw [cvU64, pv_some, remU (by decide), pv_some, cv_small (by decide) (by decide), pv_some, add_small (by decide) (by decide) (by decide) (by decide), pv_some]
    refine ld_h H 1 rfl rfl ?_
    rw [cvU64, pv_some, remU (by decide), pv_some, cv_small (by decide) (by decide), pv_some, add_small (by decide) (by decide) (by decide) (by decide), pv_some]
    refine ld_h H 1 rfl rfl ?_
    rw [cvU64, pv_some, remU (by decide), pv_some, cv_small (by decide) (by decide), pv_some]
    refine ld_h H 1 rfl rfl ?_
    rw [cvU64, pv_some, remU (by decide), pv_some, cv_small (by decide) (by decide), pv_some, add_small (by decide) (by decide) (by decide) (by decide), pv_some]
    exact k
  simp only [pv_some, nilO_ptr, faO_mk, gd_yes, gd_no, gd_yes', gd_no', cnd_true, cnd_false, pick_true, pick_false, not_bool, bin_add, bin_sub, bin_mul, bin_eql, bin_neq, bin_lss, bin_leq, bin_gtr, bin_geq, ext0, ext1, ext2, lenS_mk, eqNil_none, eqNil_some, neNil_none, neNil_some, ret_k, mem, Nat.zero_add, Nat.add_zero, Nat.mul_one, drewV, Bool.not_true, Bool.not_false]
  refine ss H.drew ?_
  refine cal_h (New_spec H.drew) ?_
  rintro e w1 ⟨_, hn⟩
  obtain ⟨p, L, rfl, H1, hL⟩ := hn (cf_ok a b c d)
  simp only [pv_some, nilO_ptr, faO_mk, gd_yes, gd_no, gd_yes', gd_no', cnd_true, cnd_false, pick_true, pick_false, not_bool, bin_add, bin_sub, bin_mul, bin_eql, bin_neq, bin_lss, bin_leq, bin_gtr, bin_geq, ext0, ext1, ext2, lenS_mk, eqNil_none, eqNil_some, neNil_none, neNil_some, ret_k, mem, Nat.zero_add, Nat.add_zero, Nat.mul_one, drewV, Bool.not_true, Bool.not_false]
  have ei : ixA 2 1 (ptr tb 0) (I (i : Int)) = some (ptr tb i) := by have := ixA_mk (n := 2) (sz := 1) (b := tb) (o := 0) (k := .i64) hi; simpa using this
  have ei2 : ixA 2 1 (ptr tb 2) (I (i : Int)) = some (ptr tb (2 + i)) := by have := ixA_mk (n := 2) (sz := 1) (b := tb) (o := 2) (k := .i64) hi; simpa using this
  simp only [ei, pv_some, nilO_ptr, faO_mk, gd_yes, gd_no, gd_yes', gd_no', cnd_true, cnd_false, pick_true, pick_false, not_bool, bin_add, bin_sub, bin_mul, bin_eql, bin_neq, bin_lss, bin_leq, bin_gtr, bin_geq, ext0, ext1, ext2, lenS_mk, eqNil_none, eqNil_some, neNil_none, neNil_some, ret_k, mem, Nat.zero_add, Nat.add_zero, Nat.mul_one, drewV, Bool.not_true, Bool.not_false]
  have H1' : Hp w0 w1 (⟨tb, 39, l⟩ :: ⟨cb, 23, [I a, I b, I c, I d]⟩ :: (L ++ F)) := H1.to (by intro f; simp only [I, U8, U64, ptr, List.set_cons_zero, List.set_cons_succ, List.eraseIdx_cons_zero, List.eraseIdx_cons_succ, List.map_append, List.map_cons, List.map_nil, List.sum_append, List.sum_cons, List.sum_nil]; omega)
  refine st_h H1' 0 rfl (by omega) rfl fun w2 H2 => ?_
  try simp only [pv_some, nilO_ptr, faO_mk, gd_yes, gd_no, gd_yes', gd_no', cnd_true, cnd_false, pick_true, pick_false, not_bool, bin_add, bin_sub, bin_mul, bin_eql, bin_neq, bin_lss, bin_leq, bin_gtr, bin_geq, ext0, ext1, ext2, lenS_mk, eqNil_none, eqNil_some, neNil_none, neNil_some, ret_k, mem, Nat.zero_add, Nat.add_zero, Nat.mul_one, drewV, Bool.not_true, Bool.not_false]
  refine ss H2.drew ?_
  refine cal_h (rNew_spec H2.drew) ?_
  rintro e w3 ⟨_, hn⟩
  obtain ⟨q, L', rfl, H3, hL'⟩ := hn (cf_ok a b c d)
  simp only [pv_some, nilO_ptr, faO_mk, gd_yes, gd_no, gd_yes', gd_no', cnd_true, cnd_false, pick_true, pick_false, not_bool, bin_add, bin_sub, bin_mul, bin_eql, bin_neq, bin_lss, bin_leq, bin_gtr, bin_geq, ext0, ext1, ext2, lenS_mk, eqNil_none, eqNil_some, neNil_none, neNil_some, ret_k, mem, Nat.zero_add, Nat.add_zero, Nat.mul_one, drewV, Bool.not_true, Bool.not_false]
  simp only [ei2, pv_some, nilO_ptr, faO_mk, gd_yes, gd_no, gd_yes', gd_no', cnd_true, cnd_false, pick_true, pick_false, not_bool, bin_add, bin_sub, bin_mul, bin_eql, bin_neq, bin_lss, bin_leq, bin_gtr, bin_geq, ext0, ext1, ext2, lenS_mk, eqNil_none, eqNil_some, neNil_none, neNil_some, ret_k, mem, Nat.zero_add, Nat.add_zero, Nat.mul_one, drewV, Bool.not_true, Bool.not_false]
  have H3' : Hp w0 w3 (⟨tb, 39, l.set i (ptr p 0)⟩ :: ⟨cb, 23, [I a, I b, I c, I d]⟩ :: (L ++ (L' ++ F))) := H3.to (by intro f; simp only [I, U8, U64, ptr, List.set_cons_zero, List.set_cons_succ, List.eraseIdx_cons_zero, List.eraseIdx_cons_succ, List.map_append, List.map_cons, List.map_nil, List.sum_append, List.sum_cons, List.sum_nil]; omega)
  refine st_h H3' 0 rfl (by simp; omega) rfl fun w4 H4 => ?_
  simp only [ne_eq, not_true_eq_false, decide_false, pv_some, nilO_ptr, faO_mk, gd_yes, gd_no, gd_yes', gd_no', cnd_true, cnd_false, pick_true, pick_false, not_bool, bin_add, bin_sub, bin_mul, bin_eql, bin_neq, bin_lss, bin_leq, bin_gtr, bin_geq, ext0, ext1, ext2, lenS_mk, eqNil_none, eqNil_some, neNil_none, neNil_some, ret_k, mem, Nat.zero_add, Nat.add_zero, Nat.mul_one, drewV, Bool.not_true, Bool.not_false]
  rw [wrap64_id (by omega) (by omega), show (i : Int) + 1 = ((i + 1 : Nat) : Int) from by omega]
  exact k w4 p q L L' H4 hL hL'
/-- The state of a talk, as the walks see it. -/
def tkc (b0 b1 r0 r1 : Nat) (s4 x5 s6 s7 s8 s9 : Value) : List Value := [ptr b0 0, ptr b1 0, ptr r0 0, ptr r1 0, s4, x5, s6, s7, s8, s9]
def nilS : Value := .slice none 0 0
theorem begin_spec {a b c d : Int} (H : Hp w0 w F) : Calls Pg 10 ⟨[.agg ⟨[I a, I b, I c, I d]⟩]⟩ w fun e w' =>
    ∃ tb b0 b1 r0 r1 L0 L1 L2 L3, e = .returned (.tuple ⟨[ptr tb 0, .bool true]⟩) ∧ Hp w0 w' (⟨tb, 39, tkc b0 b1 r0 r1 nilS (I 0) nilS nilS nilS nilS⟩ :: (L0 ++ (L1 ++ (L2 ++ (L3 ++ F))))) ∧
      Lk w0 b0 (cfM a b c d) L0 ∧ Lk w0 b1 (cfM a b c d) L1 ∧ rLk w0 r0 (cfM a b c d) L2 ∧ rLk w0 r1 (cfM a b c d) L3 := by
  apply orpimentlaw35_begin_calls
  unfold orpimentlaw35_begin
  refine bxa_h H fun w1 cb H1 => ?_
  have eb : bldO [.pointer none, .pointer none, .pointer none, .pointer none, .slice none 0 0, .int .i64 0, .slice none 0 0, .slice none 0 0, .slice none 0 0, .slice none 0 0] [] = some (.agg ⟨[.pointer none, .pointer none, .pointer none, .pointer none, nilS, I 0, nilS, nilS, nilS, nilS]⟩) := rfl
  simp only [eb, pv_some, nilO_ptr, faO_mk, gd_yes, gd_no, gd_yes', gd_no', cnd_true, cnd_false, pick_true, pick_false, not_bool, bin_add, bin_sub, bin_mul, bin_eql, bin_neq, bin_lss, bin_leq, bin_gtr, bin_geq, ext0, ext1, ext2, lenS_mk, eqNil_none, eqNil_some, neNil_none, neNil_some, ret_k, mem, Nat.zero_add, Nat.add_zero, Nat.mul_one, drewV, Bool.not_true, Bool.not_false]
  refine bxa_h H1 fun w2 tb H2 => ?_
  unfold orpimentlaw35_begin_j2 orpimentlaw35_begin_j3
  refine ⟨3, ?_⟩
  show orpimentlaw35_begin_l1 _ (2 + 1) _ _ _ w2
  rw [orpimentlaw35_begin_l1_succ]
  unfold orpimentlaw35_begin_b1
  simp only [show decide ((0 : Int) < 2) = true from rfl, pv_some, nilO_ptr, faO_mk, gd_yes, gd_no, gd_yes', gd_no', cnd_true, cnd_false, pick_true, pick_false, not_bool, bin_add, bin_sub, bin_mul, bin_eql, bin_neq, bin_lss, bin_leq, bin_gtr, bin_geq, ext0, ext1, ext2, lenS_mk, eqNil_none, eqNil_some, neNil_none, neNil_some, ret_k, mem, Nat.zero_add, Nat.add_zero, Nat.mul_one, drewV, Bool.not_true, Bool.not_false]
  refine begin_r (i := 0) (by decide) rfl H2 fun w3 b0 r0 L0 L2 H3 hL0 hL2 => ?_
  show orpimentlaw35_begin_l1 _ (1 + 1) _ _ _ w3
  rw [orpimentlaw35_begin_l1_succ]
  unfold orpimentlaw35_begin_b1
  simp only [show decide (((0 + 1 : Nat) : Int) < 2) = true from rfl, pv_some, nilO_ptr, faO_mk, gd_yes, gd_no, gd_yes', gd_no', cnd_true, cnd_false, pick_true, pick_false, not_bool, bin_add, bin_sub, bin_mul, bin_eql, bin_neq, bin_lss, bin_leq, bin_gtr, bin_geq, ext0, ext1, ext2, lenS_mk, eqNil_none, eqNil_some, neNil_none, neNil_some, ret_k, mem, Nat.zero_add, Nat.add_zero, Nat.mul_one, drewV, Bool.not_true, Bool.not_false]
  refine begin_r (i := 1) (by decide) rfl H3 fun w4 b1 r1 L1 L3 H4 hL1 hL3 => ?_
  show orpimentlaw35_begin_l1 _ (0 + 1) _ _ _ w4
  rw [orpimentlaw35_begin_l1_succ]
  unfold orpimentlaw35_begin_b1 orpimentlaw35_begin_j1
  simp only [show decide (((1 + 1 : Nat) : Int) < 2) = false from rfl, pv_some, nilO_ptr, faO_mk, gd_yes, gd_no, gd_yes', gd_no', cnd_true, cnd_false, pick_true, pick_false, not_bool, bin_add, bin_sub, bin_mul, bin_eql, bin_neq, bin_lss, bin_leq, bin_gtr, bin_geq, ext0, ext1, ext2, lenS_mk, eqNil_none, eqNil_some, neNil_none, neNil_some, ret_k, mem, Nat.zero_add, Nat.add_zero, Nat.mul_one, drewV, Bool.not_true, Bool.not_false]
  have H4' : Hp w0 w4 (⟨tb, 39, tkc b0 b1 r0 r1 nilS (I 0) nilS nilS nilS nilS⟩ :: ⟨cb, 23, [I a, I b, I c, I d]⟩ :: (L1 ++ (L3 ++ (L0 ++ (L2 ++ F))))) := H4
  exact ⟨tb, b0, b1, r0, r1, L0, L1, L2, L3, rfl, H4'.to (by intro f; simp only [I, U8, U64, ptr, List.set_cons_zero, List.set_cons_succ, List.eraseIdx_cons_zero, List.eraseIdx_cons_succ, List.map_append, List.map_cons, List.map_nil, List.sum_append, List.sum_cons, List.sum_nil]; omega), hL0, hL1, hL2, hL3⟩
end
end Go.Proofs.Ytmnpndgmfmjfhaa.Den
