/- Links: Clone and the program's Decode, walked. Conditions: none. -/
import Derived.Test.YtmnpndgmfmjfhaaLkE
set_option linter.unusedVariables false
set_option linter.unusedSimpArgs false
set_option maxRecDepth 8000
namespace Go.Proofs.Ytmnpndgmfmjfhaa.Den
open Go Go.RowKit
def i64 (x : Int) : Int := IntKind.i64.wrap x
theorem cvI64 (k : IntKind) (a : Int) : cvI .i64 (.int k a) = some (I (i64 a)) := rfl
def dK (xs : List Int) : Int := i64 (xs.getD 0 0)
def dB (xs : List Int) : Int := xs.getD 1 0
def dL (xs : List Int) : Int := i64 (getI ((xs.drop 2).take 2))
def dM (xs : List Int) : Int := i64 (getI ((xs.drop 4).take 8))
def dF (xs : List Int) : Int := i64 (getI ((xs.drop 12).take 4))
def dS (xs : List Int) : Int := getI ((xs.drop 16).take 8)
def dOk (xs : List Int) : Prop := (dK xs = 1 ∨ dK xs = 2 ∧ dB xs = 0 ∧ xs.length = 24) ∧ dB xs ≤ 1 ∧ dL xs = (xs.length : Int) - 24 ∧ 1 ≤ dM xs ∧ dF xs ≤ 2147483647
instance (xs : List Int) : Decidable (dOk xs) := by unfold dOk; infer_instance
def decE (xs : List Int) : Int := if xs.length < 24 ∨ 4120 < xs.length ∨ ¬ dOk xs then 12 else if dS xs ≠ digI (xs.take 16 ++ xs.drop 24) then 6 else 0
/-- What Decode hands back. -/
def DecPost (w0 : Base) (F : List Chunk) (xs : List Int) : ER := fun e w' => ∃ k last m f s' n' ys cs, e = .returned (.tuple ⟨[.agg ⟨frm k last m f s'⟩, I (decE xs)]⟩) ∧ Hp w0 w' (cs ++ F) ∧ Sl 5 1 s' n' (bv ys) cs ∧
  (decE xs ≠ 0 → k = 0 ∧ last = false ∧ m = 0 ∧ f = 0 ∧ n' = 0 ∧ s' = .slice none 0 0 ∧ ys = []) ∧
  (decE xs = 0 → k = dK xs ∧ last = decide (dB xs = 1) ∧ m = dM xs ∧ f = dF xs ∧ n' + 24 = xs.length ∧ ys = xs.drop 24)
section
variable {w : World} {w0 : Base} {F L : List Chunk} {R : ER} {s : Value} {n b : Nat} {xs : List Int}
theorem eqNilS_rd {s : Value} {n : Nat} {ys : List Value} (h : RdL w0 L 1 s n ys) : (eqNilS s = some (.bool true) ∧ n = 0 ∧ ys = []) ∨ eqNilS s = some (.bool false) := by
  rcases h with (⟨c, rfl, h0, rfl⟩ | ⟨a, c, rfl, _, h⟩) | ⟨b, o, c, el, l, rfl, _⟩
  · exact .inl ⟨rfl, by omega, rfl⟩
  · exact .inr rfl
  · exact .inr rfl
theorem Clone1_spec (hs : RdL w0 F 1 s n (bv xs)) (hne : eqNilS s = some (.bool false)) (hn : n < 2 ^ 40) (H : Hp w0 w F) :
    Calls Pg 26 ⟨[s]⟩ w fun e w' => ∃ s' b l, e = .returned s' ∧ Hp w0 w' (⟨b, 5, l⟩ :: F) ∧ Sl 5 1 s' n (bv xs) [⟨b, 5, l⟩] := by
  apply slices_Clone_calls
  unfold slices_Clone
  simp only [hne, pv_some, nilO_ptr, faO_mk, gd_yes, gd_no, gd_yes', gd_no', cnd_true, cnd_false, pick_true, pick_false, not_bool, bin_add, bin_sub, bin_mul, bin_eql, bin_neq, bin_lss, bin_leq, bin_gtr, bin_geq, ext0, ext1, ext2, lenS_mk, eqNil_none, eqNil_some, neNil_none, neNil_some, ret_k, mem, Nat.zero_add, Nat.add_zero, Nat.mul_one, drewV, Bool.not_true, Bool.not_false]
  refine lit0c_h elT24 H fun w1 b H1 h1 => ?_
  refine append_h' (cs := [⟨b, 5, []⟩]) elT24 H1 h1 (hs.mono (fun c hc => by simp [hc])) bv_scalar (by omega) (by omega) fun w2 s2 cs2 H2 h2 hc => ?_
  rcases hc with ⟨hc, _⟩ | ⟨⟨b2, t2, l2⟩, rfl⟩
  · cases hc
  · have ht : t2 = 5 := by
      rcases h2 with ⟨h, _⟩ | ⟨b3, cap, rest, h, _⟩
      · cases h
      · simp only [List.cons.injEq, Chunk.mk.injEq, and_true] at h; exact h.2.1
    subst ht
    rw [Nat.zero_add] at h2
    exact ⟨s2, b2, l2, rfl, H2, h2⟩
theorem Clone_spec (hs : RdL w0 F 1 s n (bv xs)) (hn : n < 2 ^ 40) (H : Hp w0 w F) :
    Calls Pg 26 ⟨[s]⟩ w fun e w' => ∃ s' cs, e = .returned s' ∧ Hp w0 w' (cs ++ F) ∧ Sl 5 1 s' n (bv xs) cs := by
  rcases eqNilS_rd hs with ⟨h, rfl, h0⟩ | h
  · apply slices_Clone_calls
    unfold slices_Clone
    simp only [h, pv_some, nilO_ptr, faO_mk, gd_yes, gd_no, gd_yes', gd_no', cnd_true, cnd_false, pick_true, pick_false, not_bool, bin_add, bin_sub, bin_mul, bin_eql, bin_neq, bin_lss, bin_leq, bin_gtr, bin_geq, ext0, ext1, ext2, lenS_mk, eqNil_none, eqNil_some, neNil_none, neNil_some, ret_k, mem, Nat.zero_add, Nat.add_zero, Nat.mul_one, drewV, Bool.not_true, Bool.not_false]
    exact ⟨_, [], rfl, H, by rw [h0]; exact Sl.nil⟩
  · refine (Clone1_spec hs h hn H).mono ?_
    rintro e w' ⟨s', b, l, rfl, H', hs'⟩
    exact ⟨s', _, rfl, H', hs'⟩
def zfrm : List Value := [I 0, .bool false, I 0, I 0, .slice none 0 0]
theorem ixA24_0 (b : Nat) : ixA 24 1 (ptr b 0) (I 0) = some (ptr b 0) := rfl
theorem ixA24_1 (b : Nat) : ixA 24 1 (ptr b 0) (I 1) = some (ptr b 1) := rfl
theorem bld0 : bldO [I 0, .bool false, I 0, I 0, .slice none 0 0] [] = some (.agg ⟨zfrm⟩) := rfl
theorem sl_cells {s : Value} {el sz n : Nat} {xs : List Value} {cs : List Chunk} (h : Sl el sz s n xs cs) : s.cells = #[s] := by
  rcases h with ⟨_, ⟨a, rfl⟩, _⟩ | ⟨b, cap, rest, _, rfl, _⟩ <;> rfl
theorem sl_scalar {s : Value} {el sz n : Nat} {xs : List Value} {cs : List Chunk} (h : Sl el sz s n xs cs) : scalar s = true := by
  rcases h with ⟨_, ⟨a, rfl⟩, _⟩ | ⟨b, cap, rest, _, rfl, _⟩ <;> rfl
theorem bldF {k m f : Int} {last : Bool} {s : Value} (h : s.cells = #[s]) : bldO [I 0, .bool false, I 0, I 0, .slice none 0 0] [(0, 1, I k), (1, 1, .bool last), (2, 1, I m), (3, 1, I f), (4, 1, s)] = some (.agg ⟨frm k last m f s⟩) := by
  simp [bldO, buildL, h, show ∀ n, (Value.int .i64 n).cells = #[I n] from fun _ => rfl, show ∀ b, (Value.bool b).cells = #[.bool b] from fun _ => rfl, frm]
theorem frm_scalar {k m f : Int} {last : Bool} {s : Value} (h : scalar s = true) : ∀ c ∈ frm k last m f s, scalar c = true := by
  intro c hc
  simp only [frm, List.mem_cons, List.not_mem_nil, or_false] at hc
  rcases hc with rfl | rfl | rfl | rfl | rfl <;> first | rfl | exact h
/-- The place of a byte array that was copied out of a slice. -/
theorem arr24 (hs : RdL w0 F 1 s n (bv xs)) (h24 : 24 ≤ n) : ∃ a, arrO 24 s = some (.pointer (some a)) ∧ ∀ {w : World} {L : List Chunk}, Hp w0 w L → (∀ c ∈ F, c ∈ L) → cellsAt w a 0 24 = some (bv (xs.take 24)) := by
  have hsl : ∃ a c, s = .slice (some a) n c := by
    rcases hs with (⟨c, rfl, h0, _⟩ | ⟨a, c, rfl, _, h⟩) | ⟨b, o, c, el, l, rfl, hmc, hm, hle, _⟩
    · omega
    · exact ⟨a, c, rfl⟩
    · exact ⟨_, c, rfl⟩
  obtain ⟨a, c, rfl⟩ := hsl
  refine ⟨a, by unfold arrO; simp only; rw [if_neg (by omega)], fun {w L} H hL => ?_⟩
  rcases (hs.mono hL).rd H with ⟨c, h, h0, _⟩ | ⟨a', c', he, _, h⟩
  · omega
  · injection he with he _ _; injection he with he; subst he
    obtain ⟨h1, h2⟩ := (cellsAt_spec _ _ _).1 h
    refine (cellsAt_spec _ _ _).2 ⟨by simp [bv_length] at h1 ⊢; omega, fun j hj => ?_⟩
    rw [h2 j (by omega)]
    simp [bv, List.getElem?_take, hj]
theorem bv_take (xs : List Int) (n : Nat) : bv (xs.take n) = (bv xs).take n := by simp [bv, List.map_take]
theorem bv_drop (xs : List Int) (n : Nat) : bv (xs.drop n) = (bv xs).drop n := by simp [bv, List.map_drop]
theorem cellsAt_add {w : World} {a : Addr} : ∀ (n i k : Nat), cellsAt w (a.add k) i n = cellsAt w a (k + i) n
  | 0, _, _ => rfl
  | n + 1, i, k => by simp only [cellsAt, add_add, cellsAt_add n (i + 1) k, Nat.add_assoc]
theorem boundO_some {n d : Nat} {x : Int} (h0 : 0 ≤ x) (h : x ≤ (n : Int)) : boundO (some (I x)) n d = some x.toNat := by
  simp only [boundO]; rw [if_pos ⟨h0, h⟩]
/-- A part of a slice that can be read. -/
theorem slS_rd {lo hi : Nat} {X Y : Int} (hs : RdL w0 F 1 s n (bv xs)) (hX : X = (lo : Int)) (hY : Y = (hi : Int)) (hne : 0 < n) (h1 : lo ≤ hi) (h2 : hi ≤ n) :
    ∃ s', slS 1 s (some (I X)) (some (I Y)) = some s' ∧ RdL w0 F 1 s' (hi - lo) (bv ((xs.drop lo).take (hi - lo))) ∧ eqNilS s' = some (.bool false) := by
  subst hX hY
  have hl := hs.length
  rw [bv_length] at hl
  rcases hs with (⟨c, rfl, h0, _⟩ | ⟨a, c, rfl, hmc, h⟩) | ⟨b, o, c, el, l, rfl, hmc, hm, hle, he⟩
  · omega
  · refine ⟨.slice (if c = lo then some a else some (a.add (lo * 1))) (hi - lo) (c - lo), ?_, ?_, by split <;> rfl⟩
    · simp only [slS, boundO_some (Int.natCast_nonneg hi) (show (hi : Int) ≤ (c : Int) from by omega), boundO_some (Int.natCast_nonneg lo) (show (lo : Int) ≤ ((hi : Nat) : Int) from by omega), Int.toNat_natCast, Option.map_some]
    · left; right
      by_cases hc : c = lo
      · have : hi - lo = 0 := by omega
        rw [if_pos hc, this]
        exact ⟨a, c - lo, rfl, by omega, rfl⟩
      · rw [if_neg hc]
        refine ⟨_, _, rfl, by omega, ?_⟩
        rw [Nat.mul_one, cellsAt_add]
        obtain ⟨g1, g2⟩ := (cellsAt_spec _ _ _).1 h
        refine (cellsAt_spec _ _ _).2 ⟨by simp [bv_length]; omega, fun j hj => ?_⟩
        have := g2 (lo + j) (by omega)
        rw [Nat.add_zero, ← Nat.zero_add (lo + j), this]
        simp only [bv_take, bv_drop]
        rw [List.getElem?_take, if_pos (by omega), List.getElem?_drop]
  · refine ⟨.slice (if c = lo then some ⟨b, o, none⟩ else some ⟨b, o + lo, none⟩) (hi - lo) (c - lo), ?_, ?_, by split <;> rfl⟩
    · simp only [slS, boundO_some (Int.natCast_nonneg hi) (show (hi : Int) ≤ (c : Int) from by omega), boundO_some (Int.natCast_nonneg lo) (show (lo : Int) ≤ ((hi : Nat) : Int) from by omega), Int.toNat_natCast, Option.map_some, add_mk, Nat.mul_one]
    · right
      by_cases hc : c = lo
      · have : hi - lo = 0 := by omega
        rw [if_pos hc, this]
        exact ⟨b, o, c - lo, el, l, rfl, by omega, hm, by omega, by simp [bv]⟩
      · rw [if_neg hc]
        refine ⟨b, o + lo, c - lo, el, l, rfl, by omega, hm, by omega, ?_⟩
        rw [bv_take, bv_drop, he, List.drop_take, List.drop_drop, List.take_take, Nat.mul_one, Nat.mul_one, Nat.min_eq_left (by omega)]
theorem slS_from {lo : Nat} {X : Int} (hs : RdL w0 F 1 s n (bv xs)) (hX : X = (lo : Int)) (hne : 0 < n) (h2 : lo ≤ n) :
    ∃ s', slS 1 s (some (I X)) none = some s' ∧ RdL w0 F 1 s' (n - lo) (bv (xs.drop lo)) ∧ eqNilS s' = some (.bool false) := by
  obtain ⟨s', g1, g2, g3⟩ := slS_rd hs hX rfl hne h2 (Nat.le_refl n)
  have hl := hs.length
  rw [bv_length] at hl
  refine ⟨s', ?_, ?_, g3⟩
  · rw [← g1]
    rcases hs with (⟨c, rfl, h0, _⟩ | ⟨a, c, rfl, hmc, h⟩) | ⟨b, o, c, el, l, rfl, hmc, hm, hle, he⟩
    · omega
    · simp only [slS, boundO_some (Int.natCast_nonneg n) (show (n : Int) ≤ (c : Int) from by omega), Int.toNat_natCast]; rfl
    · simp only [slS, boundO_some (Int.natCast_nonneg n) (show (n : Int) ≤ (c : Int) from by omega), Int.toNat_natCast]; rfl
  · rw [List.take_of_length_le (by simp; omega)] at g2
    exact g2
theorem slS_to {hi : Nat} {Y : Int} (hs : RdL w0 F 1 s n (bv xs)) (hY : Y = (hi : Int)) (hne : 0 < n) (h2 : hi ≤ n) :
    ∃ s', slS 1 s none (some (I Y)) = some s' ∧ RdL w0 F 1 s' hi (bv (xs.take hi)) ∧ eqNilS s' = some (.bool false) := by
  obtain ⟨s', g1, g2, g3⟩ := slS_rd (lo := 0) hs rfl hY hne (Nat.zero_le _) h2
  refine ⟨s', ?_, by simpa using g2, g3⟩
  rw [← g1]
  rcases hs with (⟨c, rfl, h0, _⟩ | ⟨a, c, rfl, hmc, h⟩) | ⟨b, o, c, el, l, rfl, hmc, hm, hle, he⟩
  · omega
  · subst hY
    simp only [slS, boundO_some (Int.natCast_nonneg hi) (show (hi : Int) ≤ (c : Int) from by omega), Int.toNat_natCast]; rfl
  · subst hY
    simp only [slS, boundO_some (Int.natCast_nonneg hi) (show (hi : Int) ≤ (c : Int) from by omega), Int.toNat_natCast]; rfl
end
end Go.Proofs.Ytmnpndgmfmjfhaa.Den
