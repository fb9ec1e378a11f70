/- Links: numbers in fields and the checksum, walked. Conditions: none. -/
import Derived.Test.YtmnpndgmfmjfhaaSy
import Derived.Test.YtmnpndgmfmjfhaaFns
set_option linter.unusedVariables false
set_option linter.unusedSimpArgs false
set_option maxRecDepth 8000
namespace Go.Proofs.Ytmnpndgmfmjfhaa.Den
open Go Go.RowKit
def bv (xs : List Int) : List Value := xs.map U8
theorem bv_length (xs : List Int) : (bv xs).length = xs.length := by simp [bv]
theorem bv_append (xs ys : List Int) : bv (xs ++ ys) = bv xs ++ bv ys := by simp [bv]
theorem bv_scalar {xs : List Int} : ∀ c ∈ bv xs, scalar c = true := by
  intro c hc; obtain ⟨x, _, rfl⟩ := List.mem_map.1 hc; rfl
theorem bv_get {xs : List Int} {j : Nat} {x : Int} (h : xs[j]? = some x) : (bv xs)[j]? = some (U8 x) := by simp [bv, h]
theorem elT24 : ElT 24 5 1 1 [U8 0] := ⟨by kernel_rfl, by kernel_rfl, rfl⟩
theorem wrap_u {k : IntKind} (hs : k.signed = false) (a : Int) : k.wrap a = a % 2 ^ k.bits := by simp [IntKind.wrap, hs]
theorem wrapU8 (a : Int) : IntKind.u8.wrap a = a % 256 := by rw [wrap_u rfl]; rfl
theorem wrapU64 (a : Int) : IntKind.u64.wrap a = a % 18446744073709551616 := by rw [wrap_u rfl]; rfl
theorem shr8 (a : Int) : bin .shr (U64 a) (U64 8) = some (U64 (a / 256)) := by
  simp only [bin, U64]
  rw [if_neg (by decide)]
  have : (2 : Int) ^ (min (8 : Int).toNat IntKind.u64.bits) = 256 := by decide
  rw [this, Int.fdiv_eq_ediv_of_nonneg _ (by decide)]
/-- The n low bytes of a number, the most significant first. -/
def be : Nat → Int → List Int
  | 0, _ => []
  | n + 1, x => be n (x / 256) ++ [x % 256]
theorem be_length : ∀ (n : Nat) (x : Int), (be n x).length = n
  | 0, _ => rfl
  | n + 1, x => by simp [be, be_length n]
theorem lay_append {l : List Value} {o : Nat} {cs : List Value} {c : Value} (h : o + cs.length < l.length) : lay (l.set (o + cs.length) c) o cs = lay l o (cs ++ [c]) := by
  unfold lay
  rw [List.take_set_of_le (by omega)]
  have : (l.set (o + cs.length) c).drop (o + cs.length) = c :: l.drop (o + (cs ++ [c]).length) := by
    rw [List.drop_eq_getElem_cons (by simp; omega)]
    simp [List.drop_set_of_lt, Nat.add_assoc]
  rw [this]; simp
section
variable {w : World} {w0 : Base} {F L : List Chunk} {R : ER}
/-- The number of a field: one byte more. -/
def gst (x c : Int) : Int := IntKind.u64.wrap ((BitVec.ofInt 64 (IntKind.u64.wrap (x * 256)) ||| BitVec.ofInt 64 (IntKind.u64.wrap c)).toNat)
def getI (xs : List Int) : Int := xs.foldl gst 0
/-- The checksum: one byte more. -/
def dst (h c : Int) : Int := IntKind.u64.wrap (IntKind.u64.wrap ((BitVec.ofInt 64 h ^^^ BitVec.ofInt 64 (IntKind.u64.wrap c)).toNat) * 1099511628211)
def digI (xs : List Int) : Int := xs.foldl dst 14695981039346656037
theorem gst_eq (x c : Int) (K : VK) : pv (bin .shl (U64 x) (U64 8)) (fun v4 => pv (cvI .u64 (U8 c)) fun v5 => pv (bin .or v4 v5) K) = K (U64 (gst x c)) := by
  have h1 : bin .shl (U64 x) (U64 8) = some (U64 (IntKind.u64.wrap (x * 256))) := by
    simp only [bin, U64]; rw [if_neg (by decide)]; rfl
  rw [h1]; rfl
theorem dst_eq (h c : Int) (K : VK) : pv (cvI .u64 (U8 c)) (fun v9 => pv (bin .xor (U64 h) v9) fun v10 => pv (bin .mul v10 (U64 1099511628211)) K) = K (U64 (dst h c)) := rfl
theorem put_l {x1 : Value} {b fb tb ft : Nat} {len cap at_ : Nat} {k : Int} (hl : x1 = .slice (some ⟨b, 0, none⟩) len cap) (hq : ∀ w' l', Hp w0 w' (⟨b, tb, l'⟩ :: ⟨fb, ft, [I at_, I k]⟩ :: F) → R (.returned (.tuple ⟨[]⟩)) w' ∨ True) :
    ∀ (i : Nat) (w : World) (x : Int) (l : List Value), Hp w0 w (⟨b, tb, l⟩ :: ⟨fb, ft, [I at_, I k]⟩ :: F) → at_ + i ≤ len → len ≤ l.length → len < 2 ^ 62 →
      (∀ w', Hp w0 w' (⟨b, tb, lay l at_ (bv (be i x))⟩ :: ⟨fb, ft, [I at_, I k]⟩ :: F) → R (.returned (.tuple ⟨[]⟩)) w') →
      links_field_put_l1 R (i + 1) x1 (U64 x) (ptr fb 0) (I ((i : Int) - 1)) w
  | 0, w, x, l, H, h1, h2, h3, k => by
    rw [links_field_put_l1_succ]
    unfold links_field_put_b1 links_field_put_j2
    simp only [pv_some, nilO_ptr, faO_mk, gd_yes, gd_no, gd_yes', gd_no', cnd_true, cnd_false, pick_true, pick_false, not_bool, bin_add, bin_sub, bin_mul, bin_eql, bin_neq, bin_lss, bin_leq, bin_gtr, bin_geq, ext0, ext1, ext2, lenS_mk, eqNil_none, eqNil_some, neNil_none, neNil_some, ret_k, mem, Nat.zero_add, Nat.add_zero, Nat.mul_one, drewV, Bool.not_true, Bool.not_false]
    simp only [show decide ((0 : Int) ≤ ((0 : Nat) : Int) - 1) = false from rfl, cnd_false]
    exact k w (by rw [be, bv, List.map_nil, lay_nil]; exact H)
  | i + 1, w, x, l, H, h1, h2, h3, k => by
    rw [links_field_put_l1_succ]
    unfold links_field_put_b1 links_field_put_j2
    simp only [pv_some, nilO_ptr, faO_mk, gd_yes, gd_no, gd_yes', gd_no', cnd_true, cnd_false, pick_true, pick_false, not_bool, bin_add, bin_sub, bin_mul, bin_eql, bin_neq, bin_lss, bin_leq, bin_gtr, bin_geq, ext0, ext1, ext2, lenS_mk, eqNil_none, eqNil_some, neNil_none, neNil_some, ret_k, mem, Nat.zero_add, Nat.add_zero, Nat.mul_one, drewV, Bool.not_true, Bool.not_false]
    simp only [show decide ((0 : Int) ≤ ((i + 1 : Nat) : Int) - 1) = true from decide_eq_true (by omega), cnd_true]
    refine ld_h H 1 rfl rfl ?_
    have e1 : (at_ : Int) + (((i + 1 : Nat) : Int) - 1) = ((at_ + i : Nat) : Int) := by omega
    simp only [pv_some, nilO_ptr, faO_mk, gd_yes, gd_no, gd_yes', gd_no', cnd_true, cnd_false, pick_true, pick_false, not_bool, bin_add, bin_sub, bin_mul, bin_eql, bin_neq, bin_lss, bin_leq, bin_gtr, bin_geq, ext0, ext1, ext2, lenS_mk, eqNil_none, eqNil_some, neNil_none, neNil_some, ret_k, mem, Nat.zero_add, Nat.add_zero, Nat.mul_one, drewV, Bool.not_true, Bool.not_false, e1, cvI, wrapU8]
    rw [wrap64_id (by omega) (by omega), hl, ixS_mk (by omega)]
    simp only [pv_some, nilO_ptr, faO_mk, gd_yes, gd_no, gd_yes', gd_no', cnd_true, cnd_false, pick_true, pick_false, not_bool, bin_add, bin_sub, bin_mul, bin_eql, bin_neq, bin_lss, bin_leq, bin_gtr, bin_geq, ext0, ext1, ext2, lenS_mk, eqNil_none, eqNil_some, neNil_none, neNil_some, ret_k, mem, Nat.zero_add, Nat.add_zero, Nat.mul_one, drewV, Bool.not_true, Bool.not_false]
    refine st_h H 0 rfl (by omega) rfl fun w2 H2 => ?_
    simp only [shr8, pv_some, nilO_ptr, faO_mk, gd_yes, gd_no, gd_yes', gd_no', cnd_true, cnd_false, pick_true, pick_false, not_bool, bin_add, bin_sub, bin_mul, bin_eql, bin_neq, bin_lss, bin_leq, bin_gtr, bin_geq, ext0, ext1, ext2, lenS_mk, eqNil_none, eqNil_some, neNil_none, neNil_some, ret_k, mem, Nat.zero_add, Nat.add_zero, Nat.mul_one, drewV, Bool.not_true, Bool.not_false]
    rw [wrap64_id (by omega) (by omega), show ((i + 1 : Nat) : Int) - 1 - 1 = (i : Int) - 1 from by omega]
    rw [← hl]
    refine put_l hl hq i w2 (x / 256) _ H2 (by omega) (by simp; omega) h3 fun w3 H3 => k w3 ?_
    have : lay (l.set (at_ + i) (U8 (x % 256))) at_ (bv (be i (x / 256))) = lay l at_ (bv (be (i + 1) x)) := by
      have := lay_append (l := l) (o := at_) (cs := bv (be i (x / 256))) (c := U8 (x % 256)) (by rw [bv_length, be_length]; omega)
      rw [bv_length, be_length] at this
      rw [this, be, bv_append]; rfl
    rw [← this]; exact H3
theorem put_spec {b tb len cap at_ n : Nat} {l : List Value} {x : Int} (H : Hp w0 w (⟨b, tb, l⟩ :: F)) (h1 : at_ + n ≤ len) (h2 : len ≤ l.length) (h3 : len < 2 ^ 62) :
    Calls Pg 41 ⟨[.agg ⟨[I at_, I n]⟩, .slice (some ⟨b, 0, none⟩) len cap, U64 x]⟩ w fun e w' => e = .returned (.tuple ⟨[]⟩) ∧ Hp w0 w' (⟨b, tb, lay l at_ (bv (be n x))⟩ :: F) := by
  apply links_field_put_calls
  unfold links_field_put
  refine bxa_h H fun w1 fb H1 => ?_
  simp only [pv_some, nilO_ptr, faO_mk, gd_yes, gd_no, gd_yes', gd_no', cnd_true, cnd_false, pick_true, pick_false, not_bool, bin_add, bin_sub, bin_mul, bin_eql, bin_neq, bin_lss, bin_leq, bin_gtr, bin_geq, ext0, ext1, ext2, lenS_mk, eqNil_none, eqNil_some, neNil_none, neNil_some, ret_k, mem, Nat.zero_add, Nat.add_zero, Nat.mul_one, drewV, Bool.not_true, Bool.not_false]
  refine ld_h H1 0 rfl rfl ?_
  simp only [pv_some, nilO_ptr, faO_mk, gd_yes, gd_no, gd_yes', gd_no', cnd_true, cnd_false, pick_true, pick_false, not_bool, bin_add, bin_sub, bin_mul, bin_eql, bin_neq, bin_lss, bin_leq, bin_gtr, bin_geq, ext0, ext1, ext2, lenS_mk, eqNil_none, eqNil_some, neNil_none, neNil_some, ret_k, mem, Nat.zero_add, Nat.add_zero, Nat.mul_one, drewV, Bool.not_true, Bool.not_false]
  rw [wrap64_id (by omega) (by omega)]
  unfold links_field_put_j1
  refine ⟨n + 1, ?_⟩
  have H2 : Hp w0 w1 (⟨b, tb, l⟩ :: ⟨fb, 111, [I at_, I n]⟩ :: F) := H1.to (by intro f; simp only [I, U8, U64, ptr, List.set_cons_zero, List.set_cons_succ, List.eraseIdx_cons_zero, List.eraseIdx_cons_succ, List.map_append, List.map_cons, List.map_nil, List.sum_append, List.sum_cons, List.sum_nil]; omega)
  exact put_l (tb := tb) (ft := 111) (k := n) rfl (fun _ _ _ => .inr trivial) n w1 x l H2 h1 h2 h3 fun w' H' => ⟨rfl, H'.to (by intro f; simp only [I, U8, U64, ptr, List.set_cons_zero, List.set_cons_succ, List.eraseIdx_cons_zero, List.eraseIdx_cons_succ, List.map_append, List.map_cons, List.map_nil, List.sum_append, List.sum_cons, List.sum_nil]; omega)⟩
end
end Go.Proofs.Ytmnpndgmfmjfhaa.Den
