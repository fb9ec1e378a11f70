/- Links: Input, the program's. Conditions: none. -/
import Derived.Test.YtmnpndgmfmjfhaaLkL
set_option linter.unusedVariables false
set_option linter.unusedSimpArgs false
set_option maxRecDepth 8000
namespace Go.Proofs.Ytmnpndgmfmjfhaa.Den
open Go Go.RowKit
def inE (M : LM) (x : Int) (xs : List Int) (now : Int) : Int := if x < 0 ∨ (M.up.length : Int) ≤ x then 3 else if timeE M now ≠ 0 then timeE M now else decE xs
def fitB (M : LM) (m f : Int) (d : List Int) : Prop := m = M.msg ∧ f = M.frag ∧ M.part.length + d.length ≤ 4096
instance (M : LM) (m f : Int) (d : List Int) : Decidable (fitB M m f d) := by unfold fitB; infer_instance
def takeM (M : LM) (m f : Int) (last : Bool) (d : List Int) : LM :=
  if fitB M m f d then if last then { M with msg := M.msg + 1, frag := 0, part := [] } else { M with part := M.part ++ d, frag := M.frag + 1 } else M
def takeV (M : LM) (m f : Int) (last : Bool) (d : List Int) : List (List Int) := if fitB M m f d ∧ last = true then [M.part ++ d] else []
def addA (M : LM) (x : Int) : LM := { M with acks := M.acks ++ [⟨x.toNat, M.msg, M.frag⟩] }
def inM (M : LM) (x : Int) (xs : List Int) (now : Int) : LM := if inE M x xs now ≠ 0 then M else if dK xs = 2 then ackM { M with clock := now } (dM xs) (dF xs) else
  addA (takeM { M with clock := now } (dM xs) (dF xs) (decide (dB xs = 1)) (xs.drop 24)) x
def inV (M : LM) (x : Int) (xs : List Int) (now : Int) : List (List Int) := if inE M x xs now ≠ 0 then [] else if dK xs = 2 then [] else takeV M (dM xs) (dF xs) (decide (dB xs = 1)) (xs.drop 24)
/-- Messages that are handed over, in memory. -/
structure MsgP (w0 : Base) (s : Value) (vs : List (List Int)) (co Db : List Chunk) (sv : List Value) : Prop where
  sl : Sl 24 1 s vs.length sv co
  svl : sv.length = vs.length
  dat : ∀ (i : Nat) (ys : List Int) (s : Value), vs[i]? = some ys → sv[i]? = some s → RdL w0 Db 1 s ys.length (bv ys)
def InPost (w0 : Base) (F : List Chunk) (Lkx : Base → Nat → LM → List Chunk → Prop) (b : Nat) (M : LM) (x : Int) (xs : List Int) (now : Int) : ER := fun e w' =>
  ∃ s co Db sv L', e = .returned (.tuple ⟨[s, I (inE M x xs now)]⟩) ∧ Hp w0 w' (co ++ (Db ++ (L' ++ F))) ∧ MsgP w0 s (inV M x xs now) co Db sv ∧ Lkx w0 b (inM M x xs now) L'
theorem MsgP.nil {w0 : Base} : MsgP w0 (.slice none 0 0) [] [] [] [] := ⟨Sl.nil, rfl, fun i y s h => by simp at h⟩
section
variable {w w' : World} {w0 : Base} {F L : List Chunk} {R : ER}
theorem sl_sc {el sz n : Nat} {s : Value} {xs : List Value} {cs : List Chunk} (h : Sl el sz s n xs cs) : scalar s = true := by
  rcases h with ⟨_, ⟨a, rfl⟩, rfl, rfl⟩ | ⟨b, cap, rest, rfl, rfl, h1, h2, h3⟩ <;> rfl
/-- The acknowledgment that is noted. -/
theorem in_ack {b : Nat} {M : LM} {su sus sp sa x13 : Value} {cu cus cp ca D : List Chunk} {sv : List Value} {x : Int} {G : List Chunk} (hlk : LkP 101 107 w0 M su sus sp sa cu cus cp ca D sv) (hal : M.acks.length < 2 ^ 30) (hx : 0 ≤ x)
    (H : Hp w0 w (⟨b, 96, lkc M su sus sp sa⟩ :: (cus ++ (cu ++ (cp ++ (ca ++ (D ++ G)))))))
    (k : ∀ w' L', Hp w0 w' (L' ++ G) → Lk w0 b (addA M x) L' → R (.returned (.tuple ⟨[x13, I 0]⟩)) w') :
    links_Link_Input_j6 R (ptr b 0) (I x) x13 w := by
  unfold links_Link_Input_j6
  simp only [pv_some, nilO_ptr, faO_mk, gd_yes, gd_no, gd_yes', gd_no', cnd_true, cnd_false, pick_true, pick_false, not_bool, bin_add, bin_sub, bin_mul, bin_eql, bin_neq, bin_lss, bin_leq, bin_gtr, bin_geq, ext0, ext1, ext2, lenS_mk, eqNil_none, eqNil_some, neNil_none, neNil_some, ret_k, mem, Nat.zero_add, Nat.add_zero, Nat.mul_one, drewV, Bool.not_true, Bool.not_false]
  refine ld_h H.drew 0 rfl rfl ?_
  refine ldN_blk (H.drew.at (i := 0) rfl) (by simp [lkc]) ?_
  have e5 : ((lkc M su sus sp sa).drop 11).take 5 = [I 2, .bool false, I M.msg, I M.frag, .slice none 0 0] := rfl
  rw [e5]
  have eb : bldO [.int .i64 0, .int .i64 0, .bool false, .int .i64 0, .int .i64 0, .slice none 0 0] [(0, 1, I x), (1, 5, .agg ⟨[I 2, .bool false, I M.msg, I M.frag, .slice none 0 0]⟩)] = some (.agg ⟨acell ⟨x.toNat, M.msg, M.frag⟩⟩) := by
    have : ((x.toNat : Nat) : Int) = x := by omega
    unfold acell
    rw [this]
    rfl
  simp only [eb, pv_some, nilO_ptr, faO_mk, gd_yes, gd_no, gd_yes', gd_no', cnd_true, cnd_false, pick_true, pick_false, not_bool, bin_add, bin_sub, bin_mul, bin_eql, bin_neq, bin_lss, bin_leq, bin_gtr, bin_geq, ext0, ext1, ext2, lenS_mk, eqNil_none, eqNil_some, neNil_none, neNil_some, ret_k, mem, Nat.zero_add, Nat.add_zero, Nat.mul_one, drewV, Bool.not_true, Bool.not_false]
  refine lit1_h (v := .agg ⟨acell ⟨x.toNat, M.msg, M.frag⟩⟩) elT94 H.drew rfl (by omega) fun w1 nb H1 => ?_
  have H1' : Hp w0 w1 (⟨nb, 107, acell ⟨x.toNat, M.msg, M.frag⟩⟩ :: ⟨b, 96, lkc M su sus sp sa⟩ :: (cus ++ (cu ++ (cp ++ (ca ++ (D ++ G)))))) := H1
  rw [rd1_t (H1'.cell 1 (o := 17) rfl rfl)]
  have H1'' : Hp w0 w1 (ca ++ (⟨nb, 107, acell ⟨x.toNat, M.msg, M.frag⟩⟩ :: ⟨b, 96, lkc M su sus sp sa⟩ :: (cus ++ (cu ++ (cp ++ (D ++ G)))))) := H1'.to (by intro f; simp only [I, U8, U64, ptr, List.set_cons_zero, List.set_cons_succ, List.eraseIdx_cons_zero, List.eraseIdx_cons_succ, List.map_append, List.map_cons, List.map_nil, List.sum_append, List.sum_cons, List.sum_nil]; omega)
  refine append_h (m := 1) (ys := acell ⟨x.toNat, M.msg, M.frag⟩) elT94 H1'' hlk.acks (.inr ⟨nb, 0, 1, 107, acell ⟨x.toNat, M.msg, M.frag⟩, rfl, by omega, by simp, by simp [acell], rfl⟩)
    (by intro c hc; simp [acell] at hc; rcases hc with rfl | rfl | rfl | rfl | rfl | rfl <;> rfl) (by omega) (by omega) fun w2 s2 ca2 H2 h2 => ?_
  try simp only [pv_some, nilO_ptr, faO_mk, gd_yes, gd_no, gd_yes', gd_no', cnd_true, cnd_false, pick_true, pick_false, not_bool, bin_add, bin_sub, bin_mul, bin_eql, bin_neq, bin_lss, bin_leq, bin_gtr, bin_geq, ext0, ext1, ext2, lenS_mk, eqNil_none, eqNil_some, neNil_none, neNil_some, ret_k, mem, Nat.zero_add, Nat.add_zero, Nat.mul_one, drewV, Bool.not_true, Bool.not_false]
  have H2' : Hp w0 w2 (⟨b, 96, lkc M su sus sp sa⟩ :: (cus ++ (cu ++ (cp ++ (ca2 ++ (D ++ G)))))) := H2.to (by intro f; simp only [I, U8, U64, ptr, List.set_cons_zero, List.set_cons_succ, List.eraseIdx_cons_zero, List.eraseIdx_cons_succ, List.map_append, List.map_cons, List.map_nil, List.sum_append, List.sum_cons, List.sum_nil]; omega)
  refine st_h H2' 0 rfl (by simp [lkc]) (sl_sc h2) fun w3 H3 => ?_
  have H3' : Hp w0 w3 (⟨b, 96, lkc (addA M x) su sus sp s2⟩ :: (cus ++ (cu ++ (cp ++ (ca2 ++ (D ++ G)))))) := H3
  refine k w3 (⟨b, 96, lkc (addA M x) su sus sp s2⟩ :: (cu ++ (cus ++ (cp ++ (ca2 ++ D))))) (H3'.to (by intro f; simp only [I, U8, U64, ptr, List.set_cons_zero, List.set_cons_succ, List.eraseIdx_cons_zero, List.eraseIdx_cons_succ, List.map_append, List.map_cons, List.map_nil, List.sum_append, List.sum_cons, List.sum_nil]; omega)) ⟨su, sus, sp, s2, cu, cus, cp, ca2, D, sv, ⟨hlk.up, hlk.us, hlk.svl, hlk.dat, hlk.part, ?_⟩, rfl⟩
  have ea : acells (addA M x).acks = acells M.acks ++ acell ⟨x.toNat, M.msg, M.frag⟩ := by simp [acells, addA]
  rw [ea]
  simpa [addA] using h2
/-- A frame of a message. -/
theorem in_data {b fb : Nat} {M : LM} {su sus sp sa t : Value} {cu cus cp ca D cs : List Chunk} {sv : List Value} {x m f : Int} {last : Bool} {n : Nat} {d : List Int} (hlk : LkP 101 107 w0 M su sus sp sa cu cus cp ca D sv) (hal : M.acks.length < 2 ^ 30) (hx : 0 ≤ x)
    (hn : d.length = n) (hn4 : n ≤ 4096) (hp4 : M.part.length ≤ 4096) (ht : Sl 5 1 t n (bv d) cs) (hmsg : 0 ≤ M.msg ∧ M.msg < 2 ^ 62) (hfr : f < 2 ^ 62 ∧ 0 ≤ M.frag)
    (H : Hp w0 w (⟨b, 96, lkc M su sus sp sa⟩ :: ⟨fb, 48, frm 1 last m f t⟩ :: (cus ++ (cu ++ (cp ++ (ca ++ (D ++ (cs ++ F))))))))
    (k : ∀ w' s co Db svm L', Hp w0 w' (co ++ (Db ++ (L' ++ F))) → MsgP w0 s (takeV M m f last d) co Db svm → Lk w0 b (addA (takeM M m f last d) x) L' → R (.returned (.tuple ⟨[s, I 0]⟩)) w') :
    links_Link_Input_j5 R (ptr b 0) (I x) (ptr fb 0) w := by
  subst hn
  have no : ¬ fitB M m f d → ∀ {w : World}, Hp w0 w (⟨b, 96, lkc M su sus sp sa⟩ :: ⟨fb, 48, frm 1 last m f t⟩ :: (cus ++ (cu ++ (cp ++ (ca ++ (D ++ (cs ++ F))))))) → links_Link_Input_j6 R (ptr b 0) (I x) (.slice none 0 0) w := by
    intro hf w H
    have e1 : takeM M m f last d = M := by unfold takeM; rw [if_neg hf]
    have e2 : takeV M m f last d = [] := by unfold takeV; rw [if_neg (fun h => hf h.1)]
    rw [e1, e2] at k
    refine in_ack (G := F) hlk hal hx (H.to (by intro f; simp only [I, U8, U64, ptr, List.set_cons_zero, List.set_cons_succ, List.eraseIdx_cons_zero, List.eraseIdx_cons_succ, List.map_append, List.map_cons, List.map_nil, List.sum_append, List.sum_cons, List.sum_nil]; omega)) fun w' L' H' hL' => k w' _ [] [] [] L' H' MsgP.nil hL'
  unfold links_Link_Input_j5 links_Link_Input_j7
  simp only [pv_some, nilO_ptr, faO_mk, gd_yes, gd_no, gd_yes', gd_no', cnd_true, cnd_false, pick_true, pick_false, not_bool, bin_add, bin_sub, bin_mul, bin_eql, bin_neq, bin_lss, bin_leq, bin_gtr, bin_geq, ext0, ext1, ext2, lenS_mk, eqNil_none, eqNil_some, neNil_none, neNil_some, ret_k, mem, Nat.zero_add, Nat.add_zero, Nat.mul_one, drewV, Bool.not_true, Bool.not_false]
  refine ld_h H.drew 1 rfl rfl ?_
  refine ld_h H.drew 0 rfl rfl ?_
  simp only [pv_some, nilO_ptr, faO_mk, gd_yes, gd_no, gd_yes', gd_no', cnd_true, cnd_false, pick_true, pick_false, not_bool, bin_add, bin_sub, bin_mul, bin_eql, bin_neq, bin_lss, bin_leq, bin_gtr, bin_geq, ext0, ext1, ext2, lenS_mk, eqNil_none, eqNil_some, neNil_none, neNil_some, ret_k, mem, Nat.zero_add, Nat.add_zero, Nat.mul_one, drewV, Bool.not_true, Bool.not_false]
  by_cases h1 : m ≠ M.msg
  · simp only [decide_eq_false h1, pv_some, nilO_ptr, faO_mk, gd_yes, gd_no, gd_yes', gd_no', cnd_true, cnd_false, pick_true, pick_false, not_bool, bin_add, bin_sub, bin_mul, bin_eql, bin_neq, bin_lss, bin_leq, bin_gtr, bin_geq, ext0, ext1, ext2, lenS_mk, eqNil_none, eqNil_some, neNil_none, neNil_some, ret_k, mem, Nat.zero_add, Nat.add_zero, Nat.mul_one, drewV, Bool.not_true, Bool.not_false]
    unfold links_Link_Input_j8
    simp only [pv_some, nilO_ptr, faO_mk, gd_yes, gd_no, gd_yes', gd_no', cnd_true, cnd_false, pick_true, pick_false, not_bool, bin_add, bin_sub, bin_mul, bin_eql, bin_neq, bin_lss, bin_leq, bin_gtr, bin_geq, ext0, ext1, ext2, lenS_mk, eqNil_none, eqNil_some, neNil_none, neNil_some, ret_k, mem, Nat.zero_add, Nat.add_zero, Nat.mul_one, drewV, Bool.not_true, Bool.not_false]
    exact no (fun h => h1 h.1) H.drew
  replace h1 := Decidable.not_not.1 h1
  simp only [decide_eq_true h1, pv_some, nilO_ptr, faO_mk, gd_yes, gd_no, gd_yes', gd_no', cnd_true, cnd_false, pick_true, pick_false, not_bool, bin_add, bin_sub, bin_mul, bin_eql, bin_neq, bin_lss, bin_leq, bin_gtr, bin_geq, ext0, ext1, ext2, lenS_mk, eqNil_none, eqNil_some, neNil_none, neNil_some, ret_k, mem, Nat.zero_add, Nat.add_zero, Nat.mul_one, drewV, Bool.not_true, Bool.not_false]
  refine ld_h H.drew 1 rfl rfl ?_
  refine ld_h H.drew 0 rfl rfl ?_
  simp only [pv_some, nilO_ptr, faO_mk, gd_yes, gd_no, gd_yes', gd_no', cnd_true, cnd_false, pick_true, pick_false, not_bool, bin_add, bin_sub, bin_mul, bin_eql, bin_neq, bin_lss, bin_leq, bin_gtr, bin_geq, ext0, ext1, ext2, lenS_mk, eqNil_none, eqNil_some, neNil_none, neNil_some, ret_k, mem, Nat.zero_add, Nat.add_zero, Nat.mul_one, drewV, Bool.not_true, Bool.not_false]
  by_cases h2 : f ≠ M.frag
  · simp only [decide_eq_false h2, pv_some, nilO_ptr, faO_mk, gd_yes, gd_no, gd_yes', gd_no', cnd_true, cnd_false, pick_true, pick_false, not_bool, bin_add, bin_sub, bin_mul, bin_eql, bin_neq, bin_lss, bin_leq, bin_gtr, bin_geq, ext0, ext1, ext2, lenS_mk, eqNil_none, eqNil_some, neNil_none, neNil_some, ret_k, mem, Nat.zero_add, Nat.add_zero, Nat.mul_one, drewV, Bool.not_true, Bool.not_false]
    unfold links_Link_Input_j8
    simp only [pv_some, nilO_ptr, faO_mk, gd_yes, gd_no, gd_yes', gd_no', cnd_true, cnd_false, pick_true, pick_false, not_bool, bin_add, bin_sub, bin_mul, bin_eql, bin_neq, bin_lss, bin_leq, bin_gtr, bin_geq, ext0, ext1, ext2, lenS_mk, eqNil_none, eqNil_some, neNil_none, neNil_some, ret_k, mem, Nat.zero_add, Nat.add_zero, Nat.mul_one, drewV, Bool.not_true, Bool.not_false]
    exact no (fun h => h2 h.2.1) H.drew
  replace h2 := Decidable.not_not.1 h2
  simp only [decide_eq_true h2, pv_some, nilO_ptr, faO_mk, gd_yes, gd_no, gd_yes', gd_no', cnd_true, cnd_false, pick_true, pick_false, not_bool, bin_add, bin_sub, bin_mul, bin_eql, bin_neq, bin_lss, bin_leq, bin_gtr, bin_geq, ext0, ext1, ext2, lenS_mk, eqNil_none, eqNil_some, neNil_none, neNil_some, ret_k, mem, Nat.zero_add, Nat.add_zero, Nat.mul_one, drewV, Bool.not_true, Bool.not_false]
  refine ld_h H.drew 0 rfl rfl ?_
  simp only [lenS_sl hlk.part, pv_some, nilO_ptr, faO_mk, gd_yes, gd_no, gd_yes', gd_no', cnd_true, cnd_false, pick_true, pick_false, not_bool, bin_add, bin_sub, bin_mul, bin_eql, bin_neq, bin_lss, bin_leq, bin_gtr, bin_geq, ext0, ext1, ext2, lenS_mk, eqNil_none, eqNil_some, neNil_none, neNil_some, ret_k, mem, Nat.zero_add, Nat.add_zero, Nat.mul_one, drewV, Bool.not_true, Bool.not_false]
  refine ld_h H.drew 1 rfl rfl ?_
  simp only [lenS_sl ht, pv_some, nilO_ptr, faO_mk, gd_yes, gd_no, gd_yes', gd_no', cnd_true, cnd_false, pick_true, pick_false, not_bool, bin_add, bin_sub, bin_mul, bin_eql, bin_neq, bin_lss, bin_leq, bin_gtr, bin_geq, ext0, ext1, ext2, lenS_mk, eqNil_none, eqNil_some, neNil_none, neNil_some, ret_k, mem, Nat.zero_add, Nat.add_zero, Nat.mul_one, drewV, Bool.not_true, Bool.not_false]
  rw [wrap64_id (by omega) (by omega)]
  by_cases h3 : ¬ ((M.part.length : Int) + (d.length : Int) ≤ 4096)
  · simp only [decide_eq_false h3, pv_some, nilO_ptr, faO_mk, gd_yes, gd_no, gd_yes', gd_no', cnd_true, cnd_false, pick_true, pick_false, not_bool, bin_add, bin_sub, bin_mul, bin_eql, bin_neq, bin_lss, bin_leq, bin_gtr, bin_geq, ext0, ext1, ext2, lenS_mk, eqNil_none, eqNil_some, neNil_none, neNil_some, ret_k, mem, Nat.zero_add, Nat.add_zero, Nat.mul_one, drewV, Bool.not_true, Bool.not_false]
    unfold links_Link_Input_j8
    simp only [pv_some, nilO_ptr, faO_mk, gd_yes, gd_no, gd_yes', gd_no', cnd_true, cnd_false, pick_true, pick_false, not_bool, bin_add, bin_sub, bin_mul, bin_eql, bin_neq, bin_lss, bin_leq, bin_gtr, bin_geq, ext0, ext1, ext2, lenS_mk, eqNil_none, eqNil_some, neNil_none, neNil_some, ret_k, mem, Nat.zero_add, Nat.add_zero, Nat.mul_one, drewV, Bool.not_true, Bool.not_false]
    exact no (fun h => h3 (by have := h.2.2; omega)) H.drew
  replace h3 := Decidable.not_not.1 h3
  simp only [decide_eq_true h3, pv_some, nilO_ptr, faO_mk, gd_yes, gd_no, gd_yes', gd_no', cnd_true, cnd_false, pick_true, pick_false, not_bool, bin_add, bin_sub, bin_mul, bin_eql, bin_neq, bin_lss, bin_leq, bin_gtr, bin_geq, ext0, ext1, ext2, lenS_mk, eqNil_none, eqNil_some, neNil_none, neNil_some, ret_k, mem, Nat.zero_add, Nat.add_zero, Nat.mul_one, drewV, Bool.not_true, Bool.not_false]
  unfold links_Link_Input_j8
  simp only [pv_some, nilO_ptr, faO_mk, gd_yes, gd_no, gd_yes', gd_no', cnd_true, cnd_false, pick_true, pick_false, not_bool, bin_add, bin_sub, bin_mul, bin_eql, bin_neq, bin_lss, bin_leq, bin_gtr, bin_geq, ext0, ext1, ext2, lenS_mk, eqNil_none, eqNil_some, neNil_none, neNil_some, ret_k, mem, Nat.zero_add, Nat.add_zero, Nat.mul_one, drewV, Bool.not_true, Bool.not_false]
  have hf : fitB M m f d := ⟨h1, h2, by omega⟩
  unfold links_Link_Input_j9
  simp only [pv_some, nilO_ptr, faO_mk, gd_yes, gd_no, gd_yes', gd_no', cnd_true, cnd_false, pick_true, pick_false, not_bool, bin_add, bin_sub, bin_mul, bin_eql, bin_neq, bin_lss, bin_leq, bin_gtr, bin_geq, ext0, ext1, ext2, lenS_mk, eqNil_none, eqNil_some, neNil_none, neNil_some, ret_k, mem, Nat.zero_add, Nat.add_zero, Nat.mul_one, drewV, Bool.not_true, Bool.not_false]
  refine ld_h H.drew.drew 0 rfl rfl ?_
  refine ld_h H.drew.drew 1 rfl rfl ?_
  have Ha : Hp w0 w.drew.drew (cp ++ (⟨b, 96, lkc M su sus sp sa⟩ :: ⟨fb, 48, frm 1 last m f t⟩ :: (cus ++ (cu ++ (ca ++ (D ++ (cs ++ F))))))) := H.drew.drew.to (by intro f; simp only [I, U8, U64, ptr, List.set_cons_zero, List.set_cons_succ, List.eraseIdx_cons_zero, List.eraseIdx_cons_succ, List.map_append, List.map_cons, List.map_nil, List.sum_append, List.sum_cons, List.sum_nil]; omega)
  refine append_h elT24 Ha hlk.part (ht.rdL fun c hc => by simp [hc]) bv_scalar (by omega) (by omega) fun w1 s1 cp1 H1 hp1 => ?_
  rw [← bv_append] at hp1
  try simp only [pv_some, nilO_ptr, faO_mk, gd_yes, gd_no, gd_yes', gd_no', cnd_true, cnd_false, pick_true, pick_false, not_bool, bin_add, bin_sub, bin_mul, bin_eql, bin_neq, bin_lss, bin_leq, bin_gtr, bin_geq, ext0, ext1, ext2, lenS_mk, eqNil_none, eqNil_some, neNil_none, neNil_some, ret_k, mem, Nat.zero_add, Nat.add_zero, Nat.mul_one, drewV, Bool.not_true, Bool.not_false]
  have H1' : Hp w0 w1 (⟨b, 96, lkc M su sus sp sa⟩ :: ⟨fb, 48, frm 1 last m f t⟩ :: (cus ++ (cu ++ (cp1 ++ (ca ++ (D ++ (cs ++ F))))))) := H1.to (by intro f; simp only [I, U8, U64, ptr, List.set_cons_zero, List.set_cons_succ, List.eraseIdx_cons_zero, List.eraseIdx_cons_succ, List.map_append, List.map_cons, List.map_nil, List.sum_append, List.sum_cons, List.sum_nil]; omega)
  refine st_h H1' 0 rfl (by simp [lkc]) (sl_sc hp1) fun w2 H2 => ?_
  try simp only [pv_some, nilO_ptr, faO_mk, gd_yes, gd_no, gd_yes', gd_no', cnd_true, cnd_false, pick_true, pick_false, not_bool, bin_add, bin_sub, bin_mul, bin_eql, bin_neq, bin_lss, bin_leq, bin_gtr, bin_geq, ext0, ext1, ext2, lenS_mk, eqNil_none, eqNil_some, neNil_none, neNil_some, ret_k, mem, Nat.zero_add, Nat.add_zero, Nat.mul_one, drewV, Bool.not_true, Bool.not_false]
  refine ld_h H2 0 rfl rfl ?_
  have hfb : f < 2 ^ 62 := hfr.1
  simp only [pv_some, nilO_ptr, faO_mk, gd_yes, gd_no, gd_yes', gd_no', cnd_true, cnd_false, pick_true, pick_false, not_bool, bin_add, bin_sub, bin_mul, bin_eql, bin_neq, bin_lss, bin_leq, bin_gtr, bin_geq, ext0, ext1, ext2, lenS_mk, eqNil_none, eqNil_some, neNil_none, neNil_some, ret_k, mem, Nat.zero_add, Nat.add_zero, Nat.mul_one, drewV, Bool.not_true, Bool.not_false]
  rw [wrap64_id (by omega) (by omega)]
  refine st_h H2 0 rfl (by simp [lkc]) rfl fun w3 H3 => ?_
  try simp only [pv_some, nilO_ptr, faO_mk, gd_yes, gd_no, gd_yes', gd_no', cnd_true, cnd_false, pick_true, pick_false, not_bool, bin_add, bin_sub, bin_mul, bin_eql, bin_neq, bin_lss, bin_leq, bin_gtr, bin_geq, ext0, ext1, ext2, lenS_mk, eqNil_none, eqNil_some, neNil_none, neNil_some, ret_k, mem, Nat.zero_add, Nat.add_zero, Nat.mul_one, drewV, Bool.not_true, Bool.not_false]
  refine ld_h H3 1 rfl rfl ?_
  generalize hM1 : ({ M with part := M.part ++ d, frag := M.frag + 1 } : LM) = M1
  have H3' : Hp w0 w3 (⟨b, 96, lkc M1 su sus s1 sa⟩ :: ⟨fb, 48, frm 1 last m f t⟩ :: (cus ++ (cu ++ (cp1 ++ (ca ++ (D ++ (cs ++ F))))))) := by rw [← hM1]; exact H3
  have hlk1 : LkP 101 107 w0 M1 su sus s1 sa cu cus cp1 ca D sv := by
    rw [← hM1]
    exact ⟨hlk.up, hlk.us, hlk.svl, hlk.dat, by rw [List.length_append]; exact hp1, hlk.acks⟩
  have hal1 : M1.acks.length < 2 ^ 30 := by rw [← hM1]; exact hal
  unfold links_Link_Input_j10
  cases hl : last with
  | false =>
    have e1 : takeM M m f last d = M1 := by unfold takeM; rw [if_pos hf, hl, ← hM1]; rfl
    have e2 : takeV M m f last d = [] := by unfold takeV; rw [if_neg (fun h => by rw [hl] at h; exact absurd h.2 (by decide))]
    rw [e1, e2] at k
    simp only [pv_some, nilO_ptr, faO_mk, gd_yes, gd_no, gd_yes', gd_no', cnd_true, cnd_false, pick_true, pick_false, not_bool, bin_add, bin_sub, bin_mul, bin_eql, bin_neq, bin_lss, bin_leq, bin_gtr, bin_geq, ext0, ext1, ext2, lenS_mk, eqNil_none, eqNil_some, neNil_none, neNil_some, ret_k, mem, Nat.zero_add, Nat.add_zero, Nat.mul_one, drewV, Bool.not_true, Bool.not_false]
    refine in_ack (G := F) hlk1 hal1 hx (H3'.to (by intro f; simp only [I, U8, U64, ptr, List.set_cons_zero, List.set_cons_succ, List.eraseIdx_cons_zero, List.eraseIdx_cons_succ, List.map_append, List.map_cons, List.map_nil, List.sum_append, List.sum_cons, List.sum_nil]; omega)) fun w' L' H' hL' => k w' _ [] [] [] L' H' MsgP.nil hL'
  | true =>
    have e2 : takeV M m f last d = [M.part ++ d] := by unfold takeV; rw [if_pos ⟨hf, hl⟩]
    rw [e2] at k
    simp only [pv_some, nilO_ptr, faO_mk, gd_yes, gd_no, gd_yes', gd_no', cnd_true, cnd_false, pick_true, pick_false, not_bool, bin_add, bin_sub, bin_mul, bin_eql, bin_neq, bin_lss, bin_leq, bin_gtr, bin_geq, ext0, ext1, ext2, lenS_mk, eqNil_none, eqNil_some, neNil_none, neNil_some, ret_k, mem, Nat.zero_add, Nat.add_zero, Nat.mul_one, drewV, Bool.not_true, Bool.not_false]
    unfold links_Link_Input_j11
    simp only [pv_some, nilO_ptr, faO_mk, gd_yes, gd_no, gd_yes', gd_no', cnd_true, cnd_false, pick_true, pick_false, not_bool, bin_add, bin_sub, bin_mul, bin_eql, bin_neq, bin_lss, bin_leq, bin_gtr, bin_geq, ext0, ext1, ext2, lenS_mk, eqNil_none, eqNil_some, neNil_none, neNil_some, ret_k, mem, Nat.zero_add, Nat.add_zero, Nat.mul_one, drewV, Bool.not_true, Bool.not_false]
    refine ld_h H3' 0 rfl rfl ?_
    refine lit1s_h elT36 H3' (sl_cells hp1) fun w4 nb H4 => ?_
    refine append_h (cs := []) (n := 0) (m := 1) (xs := []) (ys := [s1]) elT36 H4 Sl.nil (.inr ⟨nb, 0, 1, 24, [s1], rfl, by omega, by simp, by simp, rfl⟩) (by intro c hc; simp at hc; subst hc; exact sl_sc hp1) (by omega) (by omega) fun w5 s5 co H5 h5 => ?_
    try simp only [pv_some, nilO_ptr, faO_mk, gd_yes, gd_no, gd_yes', gd_no', cnd_true, cnd_false, pick_true, pick_false, not_bool, bin_add, bin_sub, bin_mul, bin_eql, bin_neq, bin_lss, bin_leq, bin_gtr, bin_geq, ext0, ext1, ext2, lenS_mk, eqNil_none, eqNil_some, neNil_none, neNil_some, ret_k, mem, Nat.zero_add, Nat.add_zero, Nat.mul_one, drewV, Bool.not_true, Bool.not_false]
    have H5' : Hp w0 w5 (⟨b, 96, lkc M1 su sus s1 sa⟩ :: (co ++ (cp1 ++ (cus ++ (cu ++ (ca ++ (D ++ F))))))) := H5.to (by intro f; simp only [I, U8, U64, ptr, List.set_cons_zero, List.set_cons_succ, List.eraseIdx_cons_zero, List.eraseIdx_cons_succ, List.map_append, List.map_cons, List.map_nil, List.sum_append, List.sum_cons, List.sum_nil]; omega)
    refine st_h H5' 0 rfl (by simp [lkc]) rfl fun w6 H6 => ?_
    try simp only [pv_some, nilO_ptr, faO_mk, gd_yes, gd_no, gd_yes', gd_no', cnd_true, cnd_false, pick_true, pick_false, not_bool, bin_add, bin_sub, bin_mul, bin_eql, bin_neq, bin_lss, bin_leq, bin_gtr, bin_geq, ext0, ext1, ext2, lenS_mk, eqNil_none, eqNil_some, neNil_none, neNil_some, ret_k, mem, Nat.zero_add, Nat.add_zero, Nat.mul_one, drewV, Bool.not_true, Bool.not_false]
    refine ld_h H6 0 rfl rfl ?_
    have em : M1.msg = M.msg := by rw [← hM1]
    simp only [pv_some, nilO_ptr, faO_mk, gd_yes, gd_no, gd_yes', gd_no', cnd_true, cnd_false, pick_true, pick_false, not_bool, bin_add, bin_sub, bin_mul, bin_eql, bin_neq, bin_lss, bin_leq, bin_gtr, bin_geq, ext0, ext1, ext2, lenS_mk, eqNil_none, eqNil_some, neNil_none, neNil_some, ret_k, mem, Nat.zero_add, Nat.add_zero, Nat.mul_one, drewV, Bool.not_true, Bool.not_false]
    rw [em, wrap64_id (by omega) (by omega)]
    refine st_h H6 0 rfl (by simp [lkc]) rfl fun w7 H7 => ?_
    try simp only [pv_some, nilO_ptr, faO_mk, gd_yes, gd_no, gd_yes', gd_no', cnd_true, cnd_false, pick_true, pick_false, not_bool, bin_add, bin_sub, bin_mul, bin_eql, bin_neq, bin_lss, bin_leq, bin_gtr, bin_geq, ext0, ext1, ext2, lenS_mk, eqNil_none, eqNil_some, neNil_none, neNil_some, ret_k, mem, Nat.zero_add, Nat.add_zero, Nat.mul_one, drewV, Bool.not_true, Bool.not_false]
    refine st_h H7 0 rfl (by simp [lkc]) rfl fun w8 H8 => ?_
    generalize hM2 : takeM M m f true d = M2
    have hM2' : M2 = { M with msg := M.msg + 1, frag := 0, part := [] } := by rw [← hM2]; unfold takeM; rw [if_pos hf]; rfl
    have H8' : Hp w0 w8 (⟨b, 96, lkc M2 su sus (.slice none 0 0) sa⟩ :: (co ++ (cp1 ++ (cus ++ (cu ++ (ca ++ (D ++ F))))))) := by rw [hM2', hM1.symm] at *; exact H8
    have hlk2 : LkP 101 107 w0 M2 su sus (.slice none 0 0) sa cu cus [] ca D sv := by
      rw [hM2']
      exact ⟨hlk.up, hlk.us, hlk.svl, hlk.dat, Sl.nil, hlk.acks⟩
    have hal2 : M2.acks.length < 2 ^ 30 := by rw [hM2']; exact hal
    refine in_ack (G := co ++ (cp1 ++ F)) hlk2 hal2 hx (H8'.to (by intro f; simp only [I, U8, U64, ptr, List.set_cons_zero, List.set_cons_succ, List.eraseIdx_cons_zero, List.eraseIdx_cons_succ, List.map_append, List.map_cons, List.map_nil, List.sum_append, List.sum_cons, List.sum_nil]; omega)) fun w' L' H' hL' => k w' s5 co cp1 [s1] L' (H'.to (by intro f; simp only [I, U8, U64, ptr, List.set_cons_zero, List.set_cons_succ, List.eraseIdx_cons_zero, List.eraseIdx_cons_succ, List.map_append, List.map_cons, List.map_nil, List.sum_append, List.sum_cons, List.sum_nil]; omega)) ⟨?_, rfl, ?_⟩ ?_
    · simpa using h5
    · intro i ys s hi hs
      have h0 : i = 0 := by have := (List.getElem?_eq_some_iff.1 hi).1; simp at this; omega
      subst h0
      simp at hi hs
      subst hi; subst hs
      exact (by rw [List.length_append]; exact hp1.rdL fun c hc => hc)
    · rw [hl, hM2]; exact hL'
theorem decE_zero {xs : List Int} (h : decE xs = 0) : 24 ≤ xs.length ∧ xs.length ≤ 4120 ∧ dOk xs := by
  unfold decE at h
  split at h
  · cases h
  · rename_i hh
    refine ⟨by omega, by omega, ?_⟩
    by_cases h1 : dOk xs
    · exact h1
    · exact absurd (.inr (.inr h1)) hh
theorem Input_spec {b : Nat} {M : LM} {x now : Int} {s : Value} {n : Nat} {xs : List Int} (H : Hp w0 w (L ++ F)) (hL : Lk w0 b M L) (hs : RdL w0 F 1 s n (bv xs)) (hn : n < 2 ^ 40) (hul : M.us.length < 2 ^ 40) (hal : M.acks.length < 2 ^ 30) (hp4 : M.part.length ≤ 4096)
    (hmsg : 0 ≤ M.msg ∧ M.msg < 2 ^ 62) (hfr : 0 ≤ M.frag) :
    Calls Pg 23 ⟨[ptr b 0, I x, s, I now]⟩ w (InPost w0 F Lk b M x xs now) := by
  have hL0 := hL
  obtain ⟨su, sus, sp, sa, cu, cus, cp, ca, D, sv, hlk, rfl⟩ := hL
  have H0 : Hp w0 w (⟨b, 96, lkc M su sus sp sa⟩ :: (cus ++ (cu ++ (cp ++ (ca ++ (D ++ F)))))) := H.to (by intro f; simp only [I, U8, U64, ptr, List.set_cons_zero, List.set_cons_succ, List.eraseIdx_cons_zero, List.eraseIdx_cons_succ, List.map_append, List.map_cons, List.map_nil, List.sum_append, List.sum_cons, List.sum_nil]; omega)
  have fail : ∀ {w' : World} {er : Int}, Hp w0 w' (⟨b, 96, lkc M su sus sp sa⟩ :: (cus ++ (cu ++ (cp ++ (ca ++ (D ++ F)))))) → er ≠ 0 → inE M x xs now = er → InPost w0 F Lk b M x xs now (.returned (.tuple ⟨[.slice none 0 0, I er]⟩)) w' := by
    intro w' er H' hne he
    have hne' : inE M x xs now ≠ 0 := by rw [he]; exact hne
    refine ⟨_, [], [], [], ⟨b, 96, lkc M su sus sp sa⟩ :: (cu ++ (cus ++ (cp ++ (ca ++ D)))), by rw [he], H'.to (by intro f; simp only [I, U8, U64, ptr, List.set_cons_zero, List.set_cons_succ, List.eraseIdx_cons_zero, List.eraseIdx_cons_succ, List.map_append, List.map_cons, List.map_nil, List.sum_append, List.sum_cons, List.sum_nil]; omega), ?_, ?_⟩
    · unfold inV; rw [if_pos hne']; exact MsgP.nil
    · unfold inM; rw [if_pos hne']; exact hL0
  apply links_Link_Input_calls
  have enp : eqNilP (ptr b 0) = some (.bool false) := rfl
  unfold links_Link_Input
  simp only [enp, pv_some, nilO_ptr, faO_mk, gd_yes, gd_no, gd_yes', gd_no', cnd_true, cnd_false, pick_true, pick_false, not_bool, bin_add, bin_sub, bin_mul, bin_eql, bin_neq, bin_lss, bin_leq, bin_gtr, bin_geq, ext0, ext1, ext2, lenS_mk, eqNil_none, eqNil_some, neNil_none, neNil_some, ret_k, mem, Nat.zero_add, Nat.add_zero, Nat.mul_one, drewV, Bool.not_true, Bool.not_false]
  unfold links_Link_Input_j1 links_Link_Input_j12
  simp only [pv_some, nilO_ptr, faO_mk, gd_yes, gd_no, gd_yes', gd_no', cnd_true, cnd_false, pick_true, pick_false, not_bool, bin_add, bin_sub, bin_mul, bin_eql, bin_neq, bin_lss, bin_leq, bin_gtr, bin_geq, ext0, ext1, ext2, lenS_mk, eqNil_none, eqNil_some, neNil_none, neNil_some, ret_k, mem, Nat.zero_add, Nat.add_zero, Nat.mul_one, drewV, Bool.not_true, Bool.not_false]
  by_cases h1 : x < 0
  · simp only [decide_eq_true h1, pv_some, nilO_ptr, faO_mk, gd_yes, gd_no, gd_yes', gd_no', cnd_true, cnd_false, pick_true, pick_false, not_bool, bin_add, bin_sub, bin_mul, bin_eql, bin_neq, bin_lss, bin_leq, bin_gtr, bin_geq, ext0, ext1, ext2, lenS_mk, eqNil_none, eqNil_some, neNil_none, neNil_some, ret_k, mem, Nat.zero_add, Nat.add_zero, Nat.mul_one, drewV, Bool.not_true, Bool.not_false]
    exact fail H0 (by decide) (by unfold inE; rw [if_pos (.inl h1)])
  simp only [decide_eq_false h1, pv_some, nilO_ptr, faO_mk, gd_yes, gd_no, gd_yes', gd_no', cnd_true, cnd_false, pick_true, pick_false, not_bool, bin_add, bin_sub, bin_mul, bin_eql, bin_neq, bin_lss, bin_leq, bin_gtr, bin_geq, ext0, ext1, ext2, lenS_mk, eqNil_none, eqNil_some, neNil_none, neNil_some, ret_k, mem, Nat.zero_add, Nat.add_zero, Nat.mul_one, drewV, Bool.not_true, Bool.not_false]
  refine ld_h H0 0 rfl rfl ?_
  simp only [lenS_sl hlk.up, pv_some, nilO_ptr, faO_mk, gd_yes, gd_no, gd_yes', gd_no', cnd_true, cnd_false, pick_true, pick_false, not_bool, bin_add, bin_sub, bin_mul, bin_eql, bin_neq, bin_lss, bin_leq, bin_gtr, bin_geq, ext0, ext1, ext2, lenS_mk, eqNil_none, eqNil_some, neNil_none, neNil_some, ret_k, mem, Nat.zero_add, Nat.add_zero, Nat.mul_one, drewV, Bool.not_true, Bool.not_false]
  refine cnd_decide (fun h2 => ?_) (fun h2 => ?_)
  · exact fail H0 (by decide) (by unfold inE; rw [if_pos (.inr h2)])
  unfold links_Link_Input_j2
  have hno : ¬ (x < 0 ∨ (M.up.length : Int) ≤ x) := by omega
  refine cal_h (time_spec (now := now) H0) ?_
  rintro e w1 ⟨rfl, rfl⟩
  by_cases h3 : timeE M now ≠ 0
  · simp only [decide_eq_true h3, pv_some, nilO_ptr, faO_mk, gd_yes, gd_no, gd_yes', gd_no', cnd_true, cnd_false, pick_true, pick_false, not_bool, bin_add, bin_sub, bin_mul, bin_eql, bin_neq, bin_lss, bin_leq, bin_gtr, bin_geq, ext0, ext1, ext2, lenS_mk, eqNil_none, eqNil_some, neNil_none, neNil_some, ret_k, mem, Nat.zero_add, Nat.add_zero, Nat.mul_one, drewV, Bool.not_true, Bool.not_false]
    exact fail H0 h3 (by unfold inE; rw [if_neg hno, if_pos h3])
  simp only [decide_eq_false h3, pv_some, nilO_ptr, faO_mk, gd_yes, gd_no, gd_yes', gd_no', cnd_true, cnd_false, pick_true, pick_false, not_bool, bin_add, bin_sub, bin_mul, bin_eql, bin_neq, bin_lss, bin_leq, bin_gtr, bin_geq, ext0, ext1, ext2, lenS_mk, eqNil_none, eqNil_some, neNil_none, neNil_some, ret_k, mem, Nat.zero_add, Nat.add_zero, Nat.mul_one, drewV, Bool.not_true, Bool.not_false]
  unfold links_Link_Input_j3
  have H0' : Hp w0 w1 ((⟨b, 96, lkc M su sus sp sa⟩ :: (cus ++ (cu ++ (cp ++ (ca ++ D))))) ++ F) := H0.to (by intro f; simp only [I, U8, U64, ptr, List.set_cons_zero, List.set_cons_succ, List.eraseIdx_cons_zero, List.eraseIdx_cons_succ, List.map_append, List.map_cons, List.map_nil, List.sum_append, List.sum_cons, List.sum_nil]; omega)
  refine cal_h (Decode_spec (hs.mono fun c hc => List.mem_append_right _ hc) hn H0') ?_
  rintro e w2 ⟨k, last, m, f, t, n', ys, cs, rfl, H2, hS, z1, o1⟩
  simp only [pv_some, nilO_ptr, faO_mk, gd_yes, gd_no, gd_yes', gd_no', cnd_true, cnd_false, pick_true, pick_false, not_bool, bin_add, bin_sub, bin_mul, bin_eql, bin_neq, bin_lss, bin_leq, bin_gtr, bin_geq, ext0, ext1, ext2, lenS_mk, eqNil_none, eqNil_some, neNil_none, neNil_some, ret_k, mem, Nat.zero_add, Nat.add_zero, Nat.mul_one, drewV, Bool.not_true, Bool.not_false]
  have htsc := (hS.rdL (L := cs) (w0 := w0) fun c hc => hc)
  refine al_h H2 (z := zfrm) (by kernel_rfl) fun w3 fb H3 => ?_
  refine stA_h H3 0 rfl rfl rfl (frm_scalar (rd_cells htsc).2) fun w4 H4 => ?_
  simp only [List.set_cons_zero] at H4
  have hE : inE M x xs now = decE xs := by unfold inE; rw [if_neg hno, if_neg h3]
  by_cases h4 : decE xs ≠ 0
  · simp only [decide_eq_true h4, pv_some, nilO_ptr, faO_mk, gd_yes, gd_no, gd_yes', gd_no', cnd_true, cnd_false, pick_true, pick_false, not_bool, bin_add, bin_sub, bin_mul, bin_eql, bin_neq, bin_lss, bin_leq, bin_gtr, bin_geq, ext0, ext1, ext2, lenS_mk, eqNil_none, eqNil_some, neNil_none, neNil_some, ret_k, mem, Nat.zero_add, Nat.add_zero, Nat.mul_one, drewV, Bool.not_true, Bool.not_false]
    exact fail (H4.to (by intro f; simp only [I, U8, U64, ptr, List.set_cons_zero, List.set_cons_succ, List.eraseIdx_cons_zero, List.eraseIdx_cons_succ, List.map_append, List.map_cons, List.map_nil, List.sum_append, List.sum_cons, List.sum_nil]; omega)) h4 hE
  simp only [decide_eq_false h4, pv_some, nilO_ptr, faO_mk, gd_yes, gd_no, gd_yes', gd_no', cnd_true, cnd_false, pick_true, pick_false, not_bool, bin_add, bin_sub, bin_mul, bin_eql, bin_neq, bin_lss, bin_leq, bin_gtr, bin_geq, ext0, ext1, ext2, lenS_mk, eqNil_none, eqNil_some, neNil_none, neNil_some, ret_k, mem, Nat.zero_add, Nat.add_zero, Nat.mul_one, drewV, Bool.not_true, Bool.not_false]
  replace h4 := Decidable.not_not.1 h4
  obtain ⟨rfl, rfl, rfl, rfl, hn', rfl⟩ := o1 h4
  obtain ⟨g1, g2, g3⟩ := decE_zero h4
  unfold links_Link_Input_j4
  have H4' : Hp w0 w4 (⟨b, 96, lkc M su sus sp sa⟩ :: ⟨fb, 48, frm (dK xs) (decide (dB xs = 1)) (dM xs) (dF xs) t⟩ :: (cus ++ (cu ++ (cp ++ (ca ++ (D ++ (cs ++ F))))))) := H4.to (by intro f; simp only [I, U8, U64, ptr, List.set_cons_zero, List.set_cons_succ, List.eraseIdx_cons_zero, List.eraseIdx_cons_succ, List.map_append, List.map_cons, List.map_nil, List.sum_append, List.sum_cons, List.sum_nil]; omega)
  simp only [pv_some, nilO_ptr, faO_mk, gd_yes, gd_no, gd_yes', gd_no', cnd_true, cnd_false, pick_true, pick_false, not_bool, bin_add, bin_sub, bin_mul, bin_eql, bin_neq, bin_lss, bin_leq, bin_gtr, bin_geq, ext0, ext1, ext2, lenS_mk, eqNil_none, eqNil_some, neNil_none, neNil_some, ret_k, mem, Nat.zero_add, Nat.add_zero, Nat.mul_one, drewV, Bool.not_true, Bool.not_false]
  refine st_h H4' 0 rfl (by simp [lkc]) rfl fun w5 H5 => ?_
  have H5' : Hp w0 w5 (⟨b, 96, lkc { M with clock := now } su sus sp sa⟩ :: ⟨fb, 48, frm (dK xs) (decide (dB xs = 1)) (dM xs) (dF xs) t⟩ :: (cus ++ (cu ++ (cp ++ (ca ++ (D ++ (cs ++ F))))))) := H5
  try simp only [pv_some, nilO_ptr, faO_mk, gd_yes, gd_no, gd_yes', gd_no', cnd_true, cnd_false, pick_true, pick_false, not_bool, bin_add, bin_sub, bin_mul, bin_eql, bin_neq, bin_lss, bin_leq, bin_gtr, bin_geq, ext0, ext1, ext2, lenS_mk, eqNil_none, eqNil_some, neNil_none, neNil_some, ret_k, mem, Nat.zero_add, Nat.add_zero, Nat.mul_one, drewV, Bool.not_true, Bool.not_false]
  refine ld_h H5' 1 rfl rfl ?_
  simp only [pv_some, nilO_ptr, faO_mk, gd_yes, gd_no, gd_yes', gd_no', cnd_true, cnd_false, pick_true, pick_false, not_bool, bin_add, bin_sub, bin_mul, bin_eql, bin_neq, bin_lss, bin_leq, bin_gtr, bin_geq, ext0, ext1, ext2, lenS_mk, eqNil_none, eqNil_some, neNil_none, neNil_some, ret_k, mem, Nat.zero_add, Nat.add_zero, Nat.mul_one, drewV, Bool.not_true, Bool.not_false]
  have hlk5 : LkP 101 107 w0 { M with clock := now } su sus sp sa cu cus cp ca D sv := ⟨hlk.up, hlk.us, hlk.svl, hlk.dat, hlk.part, hlk.acks⟩
  have hE0 : inE M x xs now = 0 := by rw [hE]; exact h4
  refine cnd_decide (fun h5 => ?_) (fun h5 => ?_)
  · refine ldA_h H5' 1 rfl rfl ?_
    have H5'' : Hp w0 w5 ((⟨b, 96, lkc { M with clock := now } su sus sp sa⟩ :: (cu ++ (cus ++ (cp ++ (ca ++ D))))) ++ (⟨fb, 48, frm (dK xs) (decide (dB xs = 1)) (dM xs) (dF xs) t⟩ :: (cs ++ F))) := H5'.to (by intro f; simp only [I, U8, U64, ptr, List.set_cons_zero, List.set_cons_succ, List.eraseIdx_cons_zero, List.eraseIdx_cons_succ, List.map_append, List.map_cons, List.map_nil, List.sum_append, List.sum_cons, List.sum_nil]; omega)
    refine cal_h (acknowledge_spec H5'' ⟨su, sus, sp, sa, cu, cus, cp, ca, D, sv, hlk5, rfl⟩ hul) ?_
    rintro e w6 ⟨L', rfl, H6, hL'⟩
    refine ⟨_, [], [], [], L', by rw [hE0], H6.to (by intro f; simp only [I, U8, U64, ptr, List.set_cons_zero, List.set_cons_succ, List.eraseIdx_cons_zero, List.eraseIdx_cons_succ, List.map_append, List.map_cons, List.map_nil, List.sum_append, List.sum_cons, List.sum_nil]; omega), ?_, ?_⟩
    · unfold inV; rw [if_neg (by rw [hE0]; decide), if_pos h5]; exact MsgP.nil
    · unfold inM; rw [if_neg (by rw [hE0]; decide), if_pos h5]; exact hL'
  · have hk1 : dK xs = 1 := by
      rcases g3.1 with h | h
      · exact h
      · exact absurd h.1 h5
    have hdl : (xs.drop 24).length = n' := by rw [List.length_drop]; omega
    rw [hk1] at H5'
    refine in_data (M := { M with clock := now }) (m := dM xs) (f := dF xs) (last := decide (dB xs = 1)) (d := xs.drop 24) hlk5 hal (by omega) hdl (by omega) hp4 hS hmsg ⟨?_, hfr⟩ H5' fun w' s co Db svm L' H' hm hL' => ?_
    · have := g3.2.2.2.2; omega
    · refine ⟨s, co, Db, svm, L', by rw [hE0], H', ?_, ?_⟩
      · unfold inV; rw [if_neg (by rw [hE0]; decide), if_neg h5]; exact hm
      · unfold inM; rw [if_neg (by rw [hE0]; decide), if_neg h5]; exact hL'
end
end Go.Proofs.Ytmnpndgmfmjfhaa.Den
