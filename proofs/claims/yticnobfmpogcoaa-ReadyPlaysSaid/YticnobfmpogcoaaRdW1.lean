/- The walks of package ready that touch the rings. Conditions: none. -/
import Derived.Test.YticnobfmpogcoaaRdQ
import Derived.Test.YticnobfmpogcoaaFns
set_option linter.unusedVariables false
set_option linter.unusedSimpArgs false
namespace Go.Proofs.Yticnobfmpogcoaa.Den
open Go Go.RowKit
abbrev I (n : Int) : Value := .int .i64 n
abbrev ptr (b o : Nat) : Value := .pointer (some ⟨b, o, none⟩)
theorem bits_or (W r : Nat) (hW : W < 2 ^ 64) (hr : r < 64) : bin .or (.int .u64 (W : Int)) (.int .u64 ((2 ^ r : Nat) : Int)) = some (.int .u64 ((W ||| 2 ^ r : Nat) : Int)) := by
  have h2 : 2 ^ r < 2 ^ 64 := Nat.pow_lt_pow_right (by omega) hr
  have e1 : (BitVec.ofInt 64 (W : Int)).toNat = W := by rw [BitVec.ofInt_natCast, BitVec.toNat_ofNat, Nat.mod_eq_of_lt hW]
  have e2 : (BitVec.ofInt 64 ((2 ^ r : Nat) : Int)).toNat = 2 ^ r := by rw [BitVec.ofInt_natCast, BitVec.toNat_ofNat, Nat.mod_eq_of_lt h2]
  have h3 : W ||| 2 ^ r < 2 ^ 64 := Nat.or_lt_two_pow hW h2
  have e3 : IntKind.u64.wrap ((W ||| 2 ^ r : Nat) : Int) = ((W ||| 2 ^ r : Nat) : Int) := by
    simp only [IntKind.wrap, IntKind.signed, Bool.false_and, Bool.false_eq_true, if_false]
    have : (2 ^ IntKind.u64.bits : Int) = ((2 ^ 64 : Nat) : Int) := by decide
    rw [this, ← Int.natCast_emod, Nat.mod_eq_of_lt h3]
  show (if IntKind.u64 = IntKind.u64 then bitsI .or .u64 (W : Int) ((2 ^ r : Nat) : Int) else none) = _
  rw [if_pos rfl]
  show some (Value.int .u64 (IntKind.u64.wrap (((BitVec.ofInt 64 (W : Int)) ||| (BitVec.ofInt 64 ((2 ^ r : Nat) : Int))).toNat : Int))) = _
  rw [BitVec.toNat_or, e1, e2, e3]
theorem bits_andNot (W r : Nat) (hW : W < 2 ^ 64) (hr : r < 64) : bin .andNot (.int .u64 (W : Int)) (.int .u64 ((2 ^ r : Nat) : Int)) = some (.int .u64 ((W &&& (2 ^ 64 - 1 - 2 ^ r) : Nat) : Int)) := by
  have h2 : 2 ^ r < 2 ^ 64 := Nat.pow_lt_pow_right (by omega) hr
  have e1 : (BitVec.ofInt 64 (W : Int)).toNat = W := by rw [BitVec.ofInt_natCast, BitVec.toNat_ofNat, Nat.mod_eq_of_lt hW]
  have e2 : (BitVec.ofInt 64 ((2 ^ r : Nat) : Int)).toNat = 2 ^ r := by rw [BitVec.ofInt_natCast, BitVec.toNat_ofNat, Nat.mod_eq_of_lt h2]
  have h3 : W &&& (2 ^ 64 - 1 - 2 ^ r) < 2 ^ 64 := Nat.lt_of_le_of_lt Nat.and_le_left hW
  have e3 : IntKind.u64.wrap ((W &&& (2 ^ 64 - 1 - 2 ^ r) : Nat) : Int) = ((W &&& (2 ^ 64 - 1 - 2 ^ r) : Nat) : Int) := by
    simp only [IntKind.wrap, IntKind.signed, Bool.false_and, Bool.false_eq_true, if_false]
    have : (2 ^ IntKind.u64.bits : Int) = ((2 ^ 64 : Nat) : Int) := by decide
    rw [this, ← Int.natCast_emod, Nat.mod_eq_of_lt h3]
  show (if IntKind.u64 = IntKind.u64 then bitsI .andNot .u64 (W : Int) ((2 ^ r : Nat) : Int) else none) = _
  rw [if_pos rfl]
  show some (Value.int .u64 (IntKind.u64.wrap (((BitVec.ofInt 64 (W : Int)) &&& ~~~(BitVec.ofInt 64 ((2 ^ r : Nat) : Int))).toNat : Int))) = _
  rw [BitVec.toNat_and, BitVec.toNat_not, e1, e2, e3]
theorem shl_one {r : Nat} (hr : r < 64) : bin .shl (.int .u64 1) (I (r : Int)) = some (.int .u64 ((2 ^ r : Nat) : Int)) := by
  have h2 : 2 ^ r < 2 ^ 64 := Nat.pow_lt_pow_right (by omega) hr
  simp only [bin]
  rw [if_neg (by omega)]
  have e0 : min ((r : Int)).toNat IntKind.u64.bits = r := by
    rw [Int.toNat_natCast]; show min r 64 = r; omega
  rw [e0]
  have e3 : IntKind.u64.wrap (1 * 2 ^ r) = ((2 ^ r : Nat) : Int) := by
    simp only [IntKind.wrap, IntKind.signed, Bool.false_and, Bool.false_eq_true, if_false, Int.one_mul]
    have : (2 ^ IntKind.u64.bits : Int) = ((2 ^ 64 : Nat) : Int) := by decide
    rw [this]
    have e4 : (2 ^ r : Int) = ((2 ^ r : Nat) : Int) := by simp
    rw [e4, ← Int.natCast_emod, Nat.mod_eq_of_lt h2]
  rw [e3]
theorem quo64 {p : Nat} (hp : p < 2 ^ 62) : bin .quo (I (p : Int)) (I 64) = some (I ((p / 64 : Nat) : Int)) := by
  rw [bin_quo (by decide)]
  have : ((p : Int)).tdiv 64 = ((p / 64 : Nat) : Int) := by rw [Int.tdiv_eq_ediv_of_nonneg (by omega)]; simp
  rw [this, wrap64_id (by omega) (by omega)]
theorem rem64 {p : Nat} : bin .rem (I (p : Int)) (I 64) = some (I ((p % 64 : Nat) : Int)) := by
  rw [bin_rem (by decide)]
  have : ((p : Int)).tmod 64 = ((p % 64 : Nat) : Int) := by rw [Int.tmod_eq_emod_of_nonneg (by omega)]; simp
  rw [this]
def QS.putA (q : QS) (t p : Nat) : QS := { q with prev := fup q.prev t t, next := fup q.next t t, first := fup q.first p t, words := fup q.words (p / 64) (q.words (p / 64) ||| 2 ^ (p % 64)) }
def QS.putB (q : QS) (t p h l : Nat) (f : Bool) : QS := { q with prev := fup (fup q.prev t l) h t, next := fup (fup q.next t h) l t, first := if f then fup q.first p t else q.first }
section
variable {w : World} {b : Nat} {q : QS} {t p h l : Nat}
theorem put_empty (hb : QB w b q) (ht : t < 256) (hp : q.prio t = p) (hp' : p < 256) (hf : q.first p = -1) (hw : q.words (p / 64) < 2 ^ 64) (f : Bool) :
    Calls Pg 26 ⟨[ptr b 0, I t, .bool f]⟩ w fun e w' => e = .returned (.tuple ⟨[]⟩) ∧ QB w' b (q.putA t p) ∧ Ext [b] w w' := by
  apply ready_ring_put_calls
  unfold ready_ring_put
  simp only [nilO_ptr, pv_some, faO_mk, ixA_mk ht, Nat.zero_add, Nat.add_zero]
  refine ld_prio hb ht ?_
  rw [hp]
  simp only [ixA_mk hp', pv_some, Nat.zero_add, Nat.mul_one]
  refine ld_first hb hp' ?_
  rw [hf]
  simp only [bin_eql, pv_some, decide_true, cnd_true]
  refine st_prev hb ht fun w1 hb1 h1 => ?_
  refine st_next hb1 ht fun w2 hb2 h2 => ?_
  refine st_first hb2 hp' fun w3 hb3 h3 => ?_
  simp only [drewV, mem, quo64 (show p < 2 ^ 62 by omega), rem64, pv_some, ixA_mk (show p / 64 < 4 by omega), shl_one (show p % 64 < 64 by omega), Nat.mul_one]
  refine ld_word (t := p / 64) (Blk.drew hb3) (by omega) ?_
  rw [bits_or _ _ hw (by omega)]
  simp only [pv_some]
  refine st_word (t := p / 64) (Blk.drew hb3) (by omega) fun w4 hb4 h4 => ?_
  exact ⟨by trivial, hb4, (((h1.trans h2).trans h3).trans (Ext.drew _ _)).trans h4⟩
theorem put_full (hb : QB w b q) (ht : t < 256) (hp : q.prio t = p) (hp' : p < 256) (hf : q.first p = (h : Int)) (hh : h < 256) (hl : q.prev h = (l : Int)) (hl' : l < 256) (f : Bool) :
    Calls Pg 26 ⟨[ptr b 0, I t, .bool f]⟩ w fun e w' => e = .returned (.tuple ⟨[]⟩) ∧ QB w' b (q.putB t p h l f) ∧ Ext [b] w w' := by
  apply ready_ring_put_calls
  unfold ready_ring_put
  simp only [nilO_ptr, pv_some, faO_mk, ixA_mk ht, Nat.zero_add, Nat.add_zero]
  refine ld_prio hb ht ?_
  rw [hp]
  simp only [ixA_mk hp', pv_some, Nat.zero_add, Nat.mul_one]
  refine ld_first hb hp' ?_
  rw [hf]
  simp only [bin_eql, pv_some, show decide ((h : Int) = -1) = false from by simp, cnd_false, ixA_mk hh]
  refine ld_prev hb hh ?_
  rw [hl]
  simp only [ixA_mk hl', pv_some]
  refine st_prev hb ht fun w1 hb1 h1 => ?_
  refine st_next hb1 ht fun w2 hb2 h2 => ?_
  simp only [drewV, mem, faO_mk, pv_some, Nat.add_zero]
  refine st_next (q := _) (Blk.drew hb2) hl' fun w3 hb3 h3 => ?_
  refine st_prev hb3 hh fun w4 hb4 h4 => ?_
  have hE : Ext [b] w w4 := (((h1.trans h2).trans (Ext.drew _ _)).trans h3).trans h4
  cases f with
  | true =>
    simp only [cnd_true]
    refine st_first hb4 hp' fun w5 hb5 h5 => ?_
    exact ⟨by trivial, hb5, hE.trans h5⟩
  | false =>
    simp only [cnd_false]
    exact ⟨by trivial, hb4, hE⟩
end
end Go.Proofs.Yticnobfmpogcoaa.Den
