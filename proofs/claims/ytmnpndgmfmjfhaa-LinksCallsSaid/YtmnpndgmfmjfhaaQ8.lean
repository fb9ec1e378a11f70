/- Links: the reference's Decode, walked. Conditions: none. -/
import Derived.Test.YtmnpndgmfmjfhaaQ7
section
set_option linter.unusedVariables false
set_option linter.unusedSimpArgs false
set_option maxRecDepth 8000
namespace Go.Proofs.Ytmnpndgmfmjfhaa.Den
open Go Go.RowKit
section
variable {w : World} {w0 : Base} {F L : List Chunk} {R : ER} {s : Value} {n b : Nat} {xs : List Int}
theorem RdL.rd' {sz m : Nat} {s : Value} {ys : List Value} (h : RdL w0 F sz s m ys) (H : Hp w0 w L) (hs : ∀ c ∈ F, c ∈ L) : Rd w sz s m ys := (h.mono hs).rd H
theorem rd1_a {G : WP} {a : Addr} {v : Value} (h : w.cell? a = some v) : rd1 (.pointer (some a)) v G w = G w := by
  unfold rd1; simp only [h, true_and]
theorem ld1_a {K : VK} {a : Addr} {v : Value} (h : w.cell? a = some v) (k : K v w) : ld1 (.pointer (some a)) K w := by
  simp only [ld1, h]; exact k
/-- An element of a slice of bytes. -/
theorem el1 {i : Nat} {X : Int} (hs : RdL w0 F 1 s n (bv xs)) (hX : X = (i : Int)) (hi : i < n) : ∃ a, ixS 1 s (I X) = some (.pointer (some a)) ∧ ∀ {w : World} {L : List Chunk}, Hp w0 w L → (∀ c ∈ F, c ∈ L) → w.cell? a = some (U8 (xs.getD i 0)) := by
  subst hX
  have hl := hs.length
  rw [bv_length] at hl
  have hsl : ∃ a c, s = .slice (some a) n c := by
    rcases hs with (⟨c, rfl, h0, _⟩ | ⟨a, c, rfl, _, h⟩) | ⟨b, o, c, el, l, rfl, hmc, hm, hle, _⟩
    · omega
    · exact ⟨a, c, rfl⟩
    · exact ⟨_, c, rfl⟩
  obtain ⟨a, c, rfl⟩ := hsl
  refine ⟨a.add (i * 1), by simp only [ixS]; rw [if_pos (by omega)]; simp, fun {w L} H hL => ?_⟩
  obtain ⟨a', h1, h2⟩ := (hs.rd' H hL).at hi (by omega) (k := .i64)
  have h3 : ixS 1 (.slice (some a) n c) (.int .i64 (i : Int)) = some (.pointer (some (a.add (i * 1)))) := by simp only [ixS]; rw [if_pos (by omega)]; simp
  rw [h3] at h1
  injection h1 with h1; injection h1 with h1; injection h1 with h1; subst h1
  have := h2 0 (by omega)
  rw [add_add, Nat.add_zero] at this
  rw [this, Nat.mul_one]
  exact bv_getD (by omega)
theorem rdec_bad {x2 : Nat} {L : List Chunk} {l0 : List Value} (hl0 : l0.length = 5) (hb : decE xs = 12) (H : Hp w0 w (⟨x2, 52, l0⟩ :: (L ++ F))) :
    (pv (bldO [I 0, .bool false, I 0, I 0, .slice none 0 0] []) fun v => stN 5 (ptr x2 0) v fun _ => ldN 5 (ptr x2 0) fun v36 => DecPost w0 F xs (.returned (.tuple ⟨[v36, I 12]⟩))) w := by
  simp only [bld0, pv_some, nilO_ptr, faO_mk, gd_yes, gd_no, gd_yes', gd_no', cnd_true, cnd_false, pick_true, pick_false, not_bool, bin_add, bin_sub, bin_mul, bin_eql, bin_neq, bin_lss, bin_leq, bin_gtr, bin_geq, ext0, ext1, ext2, lenS_mk, eqNil_none, eqNil_some, neNil_none, neNil_some, ret_k, mem, Nat.zero_add, Nat.add_zero, Nat.mul_one, drewV, Bool.not_true, Bool.not_false]
  refine stA_h H 0 rfl rfl hl0 (by decide) fun w3 H3 => ?_
  refine ldA_h H3 0 rfl rfl ?_
  refine ⟨0, false, 0, 0, .slice none 0 0, 0, [], [], by rw [hb]; rfl, H3.to (by intro f; simp only [I, U8, U64, ptr, List.set_cons_zero, List.set_cons_succ, List.eraseIdx_cons_zero, List.eraseIdx_cons_succ, List.map_append, List.map_cons, List.map_nil, List.sum_append, List.sum_cons, List.sum_nil]; omega), Sl.nil, fun _ => ⟨rfl, rfl, rfl, rfl, rfl, rfl, rfl⟩, fun h => ?_⟩
  rw [hb] at h; exact absurd h (by decide)
theorem rdec_j6 {x2 x6 : Nat} {s' : Value} {k m f : Int} {last : Bool} {cs : List Chunk} {q : Bool} (hn : xs.length = n) (h24 : 24 ≤ n) (hn2 : n ≤ 4120) (hok : dOk xs)
    (hk : k = dK xs) (hl : last = decide (dB xs = 1)) (hm : m = dM xs) (hf : f = dF xs) (hc : Sl 5 1 s' (n - 24) (bv (xs.drop 24)) cs) (hq : q = true ↔ dS xs ≠ digI (xs.take 16 ++ xs.drop 24))
    (H : Hp w0 w (⟨x6, 52, frm k last m f s'⟩ :: ⟨x2, 52, zfrm⟩ :: (cs ++ F))) : F22_j6 (DecPost w0 F xs) (ptr x2 0) (ptr x6 0) (.bool q) w := by
  have he : ¬ (xs.length < 24 ∨ 4120 < xs.length ∨ ¬ dOk xs) := by
    rintro (h | h | h)
    · omega
    · omega
    · exact h hok
  unfold F22_j6 F22_j4
  cases hv : q with
  | true =>
    have e6 : decE xs = 6 := by unfold decE; rw [if_neg he, if_pos (hq.1 hv)]
    simp only [bld0, pv_some, nilO_ptr, faO_mk, gd_yes, gd_no, gd_yes', gd_no', cnd_true, cnd_false, pick_true, pick_false, not_bool, bin_add, bin_sub, bin_mul, bin_eql, bin_neq, bin_lss, bin_leq, bin_gtr, bin_geq, ext0, ext1, ext2, lenS_mk, eqNil_none, eqNil_some, neNil_none, neNil_some, ret_k, mem, Nat.zero_add, Nat.add_zero, Nat.mul_one, drewV, Bool.not_true, Bool.not_false]
    refine stA_h H 1 rfl rfl rfl (by decide) fun w3 H3 => ?_
    refine ldA_h H3 1 rfl rfl ?_
    refine ⟨0, false, 0, 0, .slice none 0 0, 0, [], [], by rw [e6]; rfl, H3.to (by intro f; simp only [I, U8, U64, ptr, List.set_cons_zero, List.set_cons_succ, List.eraseIdx_cons_zero, List.eraseIdx_cons_succ, List.map_append, List.map_cons, List.map_nil, List.sum_append, List.sum_cons, List.sum_nil]; omega), Sl.nil, fun _ => ⟨rfl, rfl, rfl, rfl, rfl, rfl, rfl⟩, fun h => ?_⟩
    rw [e6] at h; exact absurd h (by decide)
  | false =>
    have e0 : decE xs = 0 := by unfold decE; rw [if_neg he, if_neg (fun h => by have := hq.2 h; rw [hv] at this; cases this)]
    simp only [pv_some, nilO_ptr, faO_mk, gd_yes, gd_no, gd_yes', gd_no', cnd_true, cnd_false, pick_true, pick_false, not_bool, bin_add, bin_sub, bin_mul, bin_eql, bin_neq, bin_lss, bin_leq, bin_gtr, bin_geq, ext0, ext1, ext2, lenS_mk, eqNil_none, eqNil_some, neNil_none, neNil_some, ret_k, mem, Nat.zero_add, Nat.add_zero, Nat.mul_one, drewV, Bool.not_true, Bool.not_false]
    refine ldA_h H 0 rfl rfl ?_
    refine stA_h H 1 rfl rfl rfl (frm_scalar (sl_scalar hc)) fun w3 H3 => ?_
    refine ldA_h H3 1 rfl rfl ?_
    refine ⟨k, last, m, f, s', n - 24, _, cs, by rw [e0], H3.to (by intro f; simp only [I, U8, U64, ptr, List.set_cons_zero, List.set_cons_succ, List.eraseIdx_cons_zero, List.eraseIdx_cons_succ, List.map_append, List.map_cons, List.map_nil, List.sum_append, List.sum_cons, List.sum_nil]; omega), hc, fun h => absurd e0 h, fun _ => ⟨hk, hl, hm, hf, by omega, rfl⟩⟩
theorem rdec_j5 {x2 x6 : Nat} {s' : Value} {k m f : Int} {last : Bool} {cs : List Chunk} (hs : RdL w0 F 1 s n (bv xs)) (hn : xs.length = n) (h24 : 24 ≤ n) (hn2 : n ≤ 4120) (hok : dOk xs)
    (hk : k = dK xs) (hl : last = decide (dB xs = 1)) (hm : m = dM xs) (hf : f = dF xs) (hc : Sl 5 1 s' (n - 24) (bv (xs.drop 24)) cs)
    (H : Hp w0 w (⟨x6, 52, frm k last m f s'⟩ :: ⟨x2, 52, zfrm⟩ :: (cs ++ F))) : F22_j5 (DecPost w0 F xs) s (ptr x2 0) (ptr x6 0) w := by
  obtain ⟨s5, e5, g5, _⟩ := slS_rd (lo := 16) (hi := 24) (X := 16) (Y := 24) hs rfl rfl (by omega) (by omega) h24
  obtain ⟨s6, e6, g6, _⟩ := slS_to (hi := 16) (Y := 16) hs rfl (by omega) (by omega)
  obtain ⟨s7, e7, g7, _⟩ := slS_from (lo := 24) (X := 24) hs rfl (by omega) h24
  unfold F22_j5
  simp only [e5, e6, e7, pv_some, nilO_ptr, faO_mk, gd_yes, gd_no, gd_yes', gd_no', cnd_true, cnd_false, pick_true, pick_false, not_bool, bin_add, bin_sub, bin_mul, bin_eql, bin_neq, bin_lss, bin_leq, bin_gtr, bin_geq, ext0, ext1, ext2, lenS_mk, eqNil_none, eqNil_some, neNil_none, neNil_some, ret_k, mem, Nat.zero_add, Nat.add_zero, Nat.mul_one, drewV, Bool.not_true, Bool.not_false]
  have H0 := H.drew
  have tail : ∀ {w : World} {s8 : Value} {cs8 : List Chunk}, Hp w0 w (cs8 ++ (⟨x6, 52, frm k last m f s'⟩ :: ⟨x2, 52, zfrm⟩ :: (cs ++ F))) → Sl 5 1 s8 0 (bv []) cs8 →
      (blt Pg noR .append ⟨[24, 24]⟩ 24 ⟨[false, false]⟩ ⟨[s8, s6]⟩ fun v12 => blt Pg noR .append ⟨[24, 24]⟩ 24 ⟨[false, false]⟩ ⟨[v12, s7]⟩ fun v14 => cal Pg noR 44 ⟨[v14]⟩ fun v16 =>
        pv (bin .neq (U64 (getI ((xs.drop 16).take (24 - 16)))) v16) fun v18 => F22_j6 (DecPost w0 F xs) (ptr x2 0) (ptr x6 0) v18) w := by
    intro w s8 cs8 H h8
    refine appB H h8 (g6.mono (fun c hc => by simp [hc])) (by omega) fun w1 s1 cs1 H1 h1 => ?_
    refine appB H1 h1 (g7.mono (fun c hc => by simp [hc])) (by omega) fun w2 s2 cs2 H2 h2 => ?_
    refine cal_h (rdig_spec ((h2.rdL (L := cs2 ++ (⟨x6, 52, frm k last m f s'⟩ :: ⟨x2, 52, zfrm⟩ :: (cs ++ F))) (fun c hc => by simp [hc])).rd H2) (by omega)) ?_
    rintro e w9 ⟨rfl, rfl⟩
    simp only [pv_some, nilO_ptr, faO_mk, gd_yes, gd_no, gd_yes', gd_no', cnd_true, cnd_false, pick_true, pick_false, not_bool, bin_add, bin_sub, bin_mul, bin_eql, bin_neq, bin_lss, bin_leq, bin_gtr, bin_geq, ext0, ext1, ext2, lenS_mk, eqNil_none, eqNil_some, neNil_none, neNil_some, ret_k, mem, Nat.zero_add, Nat.add_zero, Nat.mul_one, drewV, Bool.not_true, Bool.not_false]
    exact rdec_j6 hn h24 hn2 hok hk hl hm hf hc (by rw [decide_eq_true_iff]; exact Iff.rfl) (H2.to (by intro f; simp only [I, U8, U64, ptr, List.set_cons_zero, List.set_cons_succ, List.eraseIdx_cons_zero, List.eraseIdx_cons_succ, List.map_append, List.map_cons, List.map_nil, List.sum_append, List.sum_cons, List.sum_nil]; omega))
  refine allW2 ?_ ?_
  · refine cal_h (rget_spec (g5.rd' H0 (fun c hc => by simp [hc])) (by omega)) ?_
    rintro e w9 ⟨rfl, rfl⟩
    simp only [ret_k]
    refine lit0_h elT24 H0 fun w1 s8 H1 h8 => ?_
    exact tail (cs8 := []) H1 h8
  · refine lit0_h elT24 H0 fun w1 s8 H1 h8 => ?_
    refine cal_h (rget_spec (g5.rd' H1 (fun c hc => by simp [hc])) (by omega)) ?_
    rintro e w9 ⟨rfl, rfl⟩
    simp only [ret_k]
    exact tail (cs8 := []) H1 h8
theorem rdec_j2 {x2 x6 : Nat} {s' : Value} {k m f : Int} {last : Bool} {cs : List Chunk} (hs : RdL w0 F 1 s n (bv xs)) (hn : xs.length = n) (h24 : 24 ≤ n) (hn2 : n ≤ 4120) (hL : dL xs = (xs.length : Int) - 24) (hby : 0 ≤ dB xs)
    (hk : k = dK xs) (hl : last = decide (dB xs = 1)) (hm : m = dM xs) (hf : f = dF xs) (hc : Sl 5 1 s' (n - 24) (bv (xs.drop 24)) cs)
    (H : Hp w0 w (⟨x6, 52, frm k last m f s'⟩ :: ⟨x2, 52, zfrm⟩ :: (cs ++ F))) : F22_j2 (DecPost w0 F xs) s (ptr x2 0) (ptr x6 0) w := by
  unfold F22_j2 F22_j7
  obtain ⟨a1, ea1, ca1⟩ := el1 (i := 1) (X := 1) hs rfl (by omega)
  have hb12 : ¬ dOk xs → decE xs = 12 := fun h => by unfold decE; rw [if_pos (.inr (.inr h))]
  have bad : ¬ dOk xs → (pv (bldO [I 0, .bool false, I 0, I 0, .slice none 0 0] []) fun v => stN 5 (ptr x2 0) v fun _ => ldN 5 (ptr x2 0) fun v36 => DecPost w0 F xs (.returned (.tuple ⟨[v36, I 12]⟩))) w := by
    intro h
    exact rdec_bad (L := ⟨x6, 52, frm k last m f s'⟩ :: cs) (l0 := zfrm) rfl (hb12 h) (H.to (by intro f; simp only [I, U8, U64, ptr, List.set_cons_zero, List.set_cons_succ, List.eraseIdx_cons_zero, List.eraseIdx_cons_succ, List.map_append, List.map_cons, List.map_nil, List.sum_append, List.sum_cons, List.sum_nil]; omega))
  -- the numbers
  have p4 : (dK xs = 1 ∨ dK xs = 2 ∧ dB xs = 0 ∧ xs.length = 24) → dB xs ≤ 1 → ∀ {x : Value}, x = .bool false →
      (gd x false (pv (faO 2 (ptr x6 0))) fun v56 => gd x false (ld1 v56) fun v57 => gd x false (pv (bin .lss v57 (I 1))) fun v58 => pv (pickO x (.bool true) v58) fun v59 =>
        gd v59 false (pv (faO 3 (ptr x6 0))) fun v60 => gd v59 false (ld1 v60) fun v61 => gd v59 false (pv (bin .gtr v61 (I 2147483647))) fun v62 => pv (pickO v59 (.bool true) v62) fun v63 =>
        cnd v63 (pv (bldO [I 0, .bool false, I 0, I 0, .slice none 0 0] []) fun v64 => stN 5 (ptr x2 0) v64 fun _ => ldN 5 (ptr x2 0) fun v65 => DecPost w0 F xs (.returned (.tuple ⟨[v65, I 12]⟩)))
          (F22_j3 (DecPost w0 F xs) s (ptr x2 0) (ptr x6 0))) w := by
    rintro h1 h2 x rfl
    simp only [pv_some, nilO_ptr, faO_mk, gd_yes, gd_no, gd_yes', gd_no', cnd_true, cnd_false, pick_true, pick_false, not_bool, bin_add, bin_sub, bin_mul, bin_eql, bin_neq, bin_lss, bin_leq, bin_gtr, bin_geq, ext0, ext1, ext2, lenS_mk, eqNil_none, eqNil_some, neNil_none, neNil_some, ret_k, mem, Nat.zero_add, Nat.add_zero, Nat.mul_one, drewV, Bool.not_true, Bool.not_false]
    refine ld_h H 0 rfl rfl ?_
    by_cases h3 : m < 1
    · simp only [decide_eq_true h3, pv_some, nilO_ptr, faO_mk, gd_yes, gd_no, gd_yes', gd_no', cnd_true, cnd_false, pick_true, pick_false, not_bool, bin_add, bin_sub, bin_mul, bin_eql, bin_neq, bin_lss, bin_leq, bin_gtr, bin_geq, ext0, ext1, ext2, lenS_mk, eqNil_none, eqNil_some, neNil_none, neNil_some, ret_k, mem, Nat.zero_add, Nat.add_zero, Nat.mul_one, drewV, Bool.not_true, Bool.not_false]
      exact bad (fun h => by have := h.2.2.2.1; omega)
    · simp only [decide_eq_false h3, pv_some, nilO_ptr, faO_mk, gd_yes, gd_no, gd_yes', gd_no', cnd_true, cnd_false, pick_true, pick_false, not_bool, bin_add, bin_sub, bin_mul, bin_eql, bin_neq, bin_lss, bin_leq, bin_gtr, bin_geq, ext0, ext1, ext2, lenS_mk, eqNil_none, eqNil_some, neNil_none, neNil_some, ret_k, mem, Nat.zero_add, Nat.add_zero, Nat.mul_one, drewV, Bool.not_true, Bool.not_false]
      refine ld_h H 0 rfl rfl ?_
      by_cases h4 : 2147483647 < f
      · simp only [decide_eq_true h4, pv_some, nilO_ptr, faO_mk, gd_yes, gd_no, gd_yes', gd_no', cnd_true, cnd_false, pick_true, pick_false, not_bool, bin_add, bin_sub, bin_mul, bin_eql, bin_neq, bin_lss, bin_leq, bin_gtr, bin_geq, ext0, ext1, ext2, lenS_mk, eqNil_none, eqNil_some, neNil_none, neNil_some, ret_k, mem, Nat.zero_add, Nat.add_zero, Nat.mul_one, drewV, Bool.not_true, Bool.not_false]
        exact bad (fun h => by have := h.2.2.2.2; omega)
      · simp only [decide_eq_false h4, pv_some, nilO_ptr, faO_mk, gd_yes, gd_no, gd_yes', gd_no', cnd_true, cnd_false, pick_true, pick_false, not_bool, bin_add, bin_sub, bin_mul, bin_eql, bin_neq, bin_lss, bin_leq, bin_gtr, bin_geq, ext0, ext1, ext2, lenS_mk, eqNil_none, eqNil_some, neNil_none, neNil_some, ret_k, mem, Nat.zero_add, Nat.add_zero, Nat.mul_one, drewV, Bool.not_true, Bool.not_false]
        unfold F22_j3
        exact rdec_j5 hs hn h24 hn2 ⟨h1, h2, hL, by omega, by omega⟩ hk hl hm hf hc H
  simp only [pv_some, nilO_ptr, faO_mk, gd_yes, gd_no, gd_yes', gd_no', cnd_true, cnd_false, pick_true, pick_false, not_bool, bin_add, bin_sub, bin_mul, bin_eql, bin_neq, bin_lss, bin_leq, bin_gtr, bin_geq, ext0, ext1, ext2, lenS_mk, eqNil_none, eqNil_some, neNil_none, neNil_some, ret_k, mem, Nat.zero_add, Nat.add_zero, Nat.mul_one, drewV, Bool.not_true, Bool.not_false]
  refine ld_h H 0 rfl rfl ?_
  -- the kind, as both ways have it
  have kind : ∀ {x : Bool}, (x = true ↔ k ≠ 1 ∧ k ≠ 2) →
      (gd (.bool x) false (pv (some s)) fun v37 => gd (.bool x) false (pv (ixS 1 v37 (I 1))) fun v38 => gd (.bool x) false (ld1 v38) fun v39 => gd (.bool x) false (pv (bin .gtr v39 (U8 1))) fun v40 =>
        pv (pickO (.bool x) (.bool true) v40) fun v41 =>
        gd v41 false (pv (faO 0 (ptr x6 0))) fun v42 => gd v41 false (ld1 v42) fun v43 => gd v41 false (pv (bin .eql v43 (I 2))) fun v44 => gd v41 false (pv (some v44)) fun v45 =>
        gd v45 true (pv (faO 1 (ptr x6 0))) fun v46 => gd v45 true (ld1 v46) fun v47 => gd v45 true (pv (some v47)) fun v48 =>
        gd v48 false (pv (faO 4 (ptr x6 0))) fun v49 => gd v48 false (ld1 v49) fun v50 => gd v48 false (pv (lenS v50)) fun v51 => gd v48 false (pv (bin .gtr v51 (I 0))) fun v52 =>
        gd v45 true (pv (pickO v48 (.bool true) v52)) fun v53 => gd v41 false (pv (pickO v45 v53 (.bool false))) fun v54 => pv (pickO v41 (.bool true) v54) fun x =>
        gd x false (pv (faO 2 (ptr x6 0))) fun v56 => gd x false (ld1 v56) fun v57 => gd x false (pv (bin .lss v57 (I 1))) fun v58 => pv (pickO x (.bool true) v58) fun v59 =>
        gd v59 false (pv (faO 3 (ptr x6 0))) fun v60 => gd v59 false (ld1 v60) fun v61 => gd v59 false (pv (bin .gtr v61 (I 2147483647))) fun v62 => pv (pickO v59 (.bool true) v62) fun v63 =>
        cnd v63 (pv (bldO [I 0, .bool false, I 0, I 0, .slice none 0 0] []) fun v64 => stN 5 (ptr x2 0) v64 fun _ => ldN 5 (ptr x2 0) fun v65 => DecPost w0 F xs (.returned (.tuple ⟨[v65, I 12]⟩)))
          (F22_j3 (DecPost w0 F xs) s (ptr x2 0) (ptr x6 0))) w := by
    intro x hx
    cases hv : x with
    | true =>
      simp only [pv_some, nilO_ptr, faO_mk, gd_yes, gd_no, gd_yes', gd_no', cnd_true, cnd_false, pick_true, pick_false, not_bool, bin_add, bin_sub, bin_mul, bin_eql, bin_neq, bin_lss, bin_leq, bin_gtr, bin_geq, ext0, ext1, ext2, lenS_mk, eqNil_none, eqNil_some, neNil_none, neNil_some, ret_k, mem, Nat.zero_add, Nat.add_zero, Nat.mul_one, drewV, Bool.not_true, Bool.not_false]
      exact bad (fun h => by have := hx.1 hv; have := h.1; omega)
    | false =>
      have hk2 : k = 1 ∨ k = 2 := by
        by_cases h1 : k = 1
        · exact .inl h1
        · by_cases h2 : k = 2
          · exact .inr h2
          · have := hx.2 ⟨h1, h2⟩; rw [hv] at this; cases this
      simp only [ea1, pv_some, nilO_ptr, faO_mk, gd_yes, gd_no, gd_yes', gd_no', cnd_true, cnd_false, pick_true, pick_false, not_bool, bin_add, bin_sub, bin_mul, bin_eql, bin_neq, bin_lss, bin_leq, bin_gtr, bin_geq, ext0, ext1, ext2, lenS_mk, eqNil_none, eqNil_some, neNil_none, neNil_some, ret_k, mem, Nat.zero_add, Nat.add_zero, Nat.mul_one, drewV, Bool.not_true, Bool.not_false]
      refine ld1_a (ca1 H (fun c hc => by simp [hc])) ?_
      simp only [pv_some, nilO_ptr, faO_mk, gd_yes, gd_no, gd_yes', gd_no', cnd_true, cnd_false, pick_true, pick_false, not_bool, bin_add, bin_sub, bin_mul, bin_eql, bin_neq, bin_lss, bin_leq, bin_gtr, bin_geq, ext0, ext1, ext2, lenS_mk, eqNil_none, eqNil_some, neNil_none, neNil_some, ret_k, mem, Nat.zero_add, Nat.add_zero, Nat.mul_one, drewV, Bool.not_true, Bool.not_false]
      by_cases hb : 1 < dB xs
      · simp only [show decide (1 < xs.getD 1 0) = true from decide_eq_true hb, pv_some, nilO_ptr, faO_mk, gd_yes, gd_no, gd_yes', gd_no', cnd_true, cnd_false, pick_true, pick_false, not_bool, bin_add, bin_sub, bin_mul, bin_eql, bin_neq, bin_lss, bin_leq, bin_gtr, bin_geq, ext0, ext1, ext2, lenS_mk, eqNil_none, eqNil_some, neNil_none, neNil_some, ret_k, mem, Nat.zero_add, Nat.add_zero, Nat.mul_one, drewV, Bool.not_true, Bool.not_false]
        exact bad (fun h => by have := h.2.1; omega)
      · simp only [show decide (1 < xs.getD 1 0) = false from decide_eq_false hb, pv_some, nilO_ptr, faO_mk, gd_yes, gd_no, gd_yes', gd_no', cnd_true, cnd_false, pick_true, pick_false, not_bool, bin_add, bin_sub, bin_mul, bin_eql, bin_neq, bin_lss, bin_leq, bin_gtr, bin_geq, ext0, ext1, ext2, lenS_mk, eqNil_none, eqNil_some, neNil_none, neNil_some, ret_k, mem, Nat.zero_add, Nat.add_zero, Nat.mul_one, drewV, Bool.not_true, Bool.not_false]
        refine ld_h H 0 rfl rfl ?_
        by_cases h2 : k = 2
        · simp only [decide_eq_true h2, pv_some, nilO_ptr, faO_mk, gd_yes, gd_no, gd_yes', gd_no', cnd_true, cnd_false, pick_true, pick_false, not_bool, bin_add, bin_sub, bin_mul, bin_eql, bin_neq, bin_lss, bin_leq, bin_gtr, bin_geq, ext0, ext1, ext2, lenS_mk, eqNil_none, eqNil_some, neNil_none, neNil_some, ret_k, mem, Nat.zero_add, Nat.add_zero, Nat.mul_one, drewV, Bool.not_true, Bool.not_false]
          refine ld_h H 0 rfl rfl ?_
          by_cases hb1 : dB xs = 1
          · have hlt : last = true := by rw [hl]; exact decide_eq_true hb1
            simp only [hlt, pv_some, nilO_ptr, faO_mk, gd_yes, gd_no, gd_yes', gd_no', cnd_true, cnd_false, pick_true, pick_false, not_bool, bin_add, bin_sub, bin_mul, bin_eql, bin_neq, bin_lss, bin_leq, bin_gtr, bin_geq, ext0, ext1, ext2, lenS_mk, eqNil_none, eqNil_some, neNil_none, neNil_some, ret_k, mem, Nat.zero_add, Nat.add_zero, Nat.mul_one, drewV, Bool.not_true, Bool.not_false]
            exact bad (fun h => by have := h.1; omega)
          · have hlt : last = false := by rw [hl]; exact decide_eq_false hb1
            simp only [hlt, pv_some, nilO_ptr, faO_mk, gd_yes, gd_no, gd_yes', gd_no', cnd_true, cnd_false, pick_true, pick_false, not_bool, bin_add, bin_sub, bin_mul, bin_eql, bin_neq, bin_lss, bin_leq, bin_gtr, bin_geq, ext0, ext1, ext2, lenS_mk, eqNil_none, eqNil_some, neNil_none, neNil_some, ret_k, mem, Nat.zero_add, Nat.add_zero, Nat.mul_one, drewV, Bool.not_true, Bool.not_false]
            refine ld_h H 0 rfl rfl ?_
            simp only [lenS_sl hc, pv_some, nilO_ptr, faO_mk, gd_yes, gd_no, gd_yes', gd_no', cnd_true, cnd_false, pick_true, pick_false, not_bool, bin_add, bin_sub, bin_mul, bin_eql, bin_neq, bin_lss, bin_leq, bin_gtr, bin_geq, ext0, ext1, ext2, lenS_mk, eqNil_none, eqNil_some, neNil_none, neNil_some, ret_k, mem, Nat.zero_add, Nat.add_zero, Nat.mul_one, drewV, Bool.not_true, Bool.not_false]
            by_cases h0 : n = 24
            · simp only [show decide ((0 : Int) < ((n - 24 : Nat) : Int)) = false from decide_eq_false (by omega), pv_some, nilO_ptr, faO_mk, gd_yes, gd_no, gd_yes', gd_no', cnd_true, cnd_false, pick_true, pick_false, not_bool, bin_add, bin_sub, bin_mul, bin_eql, bin_neq, bin_lss, bin_leq, bin_gtr, bin_geq, ext0, ext1, ext2, lenS_mk, eqNil_none, eqNil_some, neNil_none, neNil_some, ret_k, mem, Nat.zero_add, Nat.add_zero, Nat.mul_one, drewV, Bool.not_true, Bool.not_false]
              have q := p4 (.inr ⟨by omega, by omega, by omega⟩) (by omega) (x := .bool false) rfl
              simp only [pv_some, nilO_ptr, faO_mk, gd_yes, gd_no, gd_yes', gd_no', cnd_true, cnd_false, pick_true, pick_false, not_bool, bin_add, bin_sub, bin_mul, bin_eql, bin_neq, bin_lss, bin_leq, bin_gtr, bin_geq, ext0, ext1, ext2, lenS_mk, eqNil_none, eqNil_some, neNil_none, neNil_some, ret_k, mem, Nat.zero_add, Nat.add_zero, Nat.mul_one, drewV, Bool.not_true, Bool.not_false] at q
              exact q
            · simp only [show decide ((0 : Int) < ((n - 24 : Nat) : Int)) = true from decide_eq_true (by omega), pv_some, nilO_ptr, faO_mk, gd_yes, gd_no, gd_yes', gd_no', cnd_true, cnd_false, pick_true, pick_false, not_bool, bin_add, bin_sub, bin_mul, bin_eql, bin_neq, bin_lss, bin_leq, bin_gtr, bin_geq, ext0, ext1, ext2, lenS_mk, eqNil_none, eqNil_some, neNil_none, neNil_some, ret_k, mem, Nat.zero_add, Nat.add_zero, Nat.mul_one, drewV, Bool.not_true, Bool.not_false]
              exact bad (fun h => by have := h.1; omega)
        · simp only [decide_eq_false h2, pv_some, nilO_ptr, faO_mk, gd_yes, gd_no, gd_yes', gd_no', cnd_true, cnd_false, pick_true, pick_false, not_bool, bin_add, bin_sub, bin_mul, bin_eql, bin_neq, bin_lss, bin_leq, bin_gtr, bin_geq, ext0, ext1, ext2, lenS_mk, eqNil_none, eqNil_some, neNil_none, neNil_some, ret_k, mem, Nat.zero_add, Nat.add_zero, Nat.mul_one, drewV, Bool.not_true, Bool.not_false]
          have q := p4 (.inl (by omega)) (by omega) (x := .bool false) rfl
          simp only [pv_some, nilO_ptr, faO_mk, gd_yes, gd_no, gd_yes', gd_no', cnd_true, cnd_false, pick_true, pick_false, not_bool, bin_add, bin_sub, bin_mul, bin_eql, bin_neq, bin_lss, bin_leq, bin_gtr, bin_geq, ext0, ext1, ext2, lenS_mk, eqNil_none, eqNil_some, neNil_none, neNil_some, ret_k, mem, Nat.zero_add, Nat.add_zero, Nat.mul_one, drewV, Bool.not_true, Bool.not_false] at q
          exact q
  by_cases h1 : k = 1
  · simp only [show decide (k ≠ 1) = false from decide_eq_false (by omega), pv_some, nilO_ptr, faO_mk, gd_yes, gd_no, gd_yes', gd_no', cnd_true, cnd_false, pick_true, pick_false, not_bool, bin_add, bin_sub, bin_mul, bin_eql, bin_neq, bin_lss, bin_leq, bin_gtr, bin_geq, ext0, ext1, ext2, lenS_mk, eqNil_none, eqNil_some, neNil_none, neNil_some, ret_k, mem, Nat.zero_add, Nat.add_zero, Nat.mul_one, drewV, Bool.not_true, Bool.not_false]
    have q := kind (x := false) (by simp; omega)
    simp only [pv_some, nilO_ptr, faO_mk, gd_yes, gd_no, gd_yes', gd_no', cnd_true, cnd_false, pick_true, pick_false, not_bool, bin_add, bin_sub, bin_mul, bin_eql, bin_neq, bin_lss, bin_leq, bin_gtr, bin_geq, ext0, ext1, ext2, lenS_mk, eqNil_none, eqNil_some, neNil_none, neNil_some, ret_k, mem, Nat.zero_add, Nat.add_zero, Nat.mul_one, drewV, Bool.not_true, Bool.not_false] at q
    exact q
  · simp only [show decide (k ≠ 1) = true from decide_eq_true (by omega), pv_some, nilO_ptr, faO_mk, gd_yes, gd_no, gd_yes', gd_no', cnd_true, cnd_false, pick_true, pick_false, not_bool, bin_add, bin_sub, bin_mul, bin_eql, bin_neq, bin_lss, bin_leq, bin_gtr, bin_geq, ext0, ext1, ext2, lenS_mk, eqNil_none, eqNil_some, neNil_none, neNil_some, ret_k, mem, Nat.zero_add, Nat.add_zero, Nat.mul_one, drewV, Bool.not_true, Bool.not_false]
    refine ld_h H 0 rfl rfl ?_
    by_cases h2 : k = 2
    · simp only [show decide (k ≠ 2) = false from decide_eq_false (by omega), pv_some, nilO_ptr, faO_mk, gd_yes, gd_no, gd_yes', gd_no', cnd_true, cnd_false, pick_true, pick_false, not_bool, bin_add, bin_sub, bin_mul, bin_eql, bin_neq, bin_lss, bin_leq, bin_gtr, bin_geq, ext0, ext1, ext2, lenS_mk, eqNil_none, eqNil_some, neNil_none, neNil_some, ret_k, mem, Nat.zero_add, Nat.add_zero, Nat.mul_one, drewV, Bool.not_true, Bool.not_false]
      have q := kind (x := false) (by simp; omega)
      simp only [pv_some, nilO_ptr, faO_mk, gd_yes, gd_no, gd_yes', gd_no', cnd_true, cnd_false, pick_true, pick_false, not_bool, bin_add, bin_sub, bin_mul, bin_eql, bin_neq, bin_lss, bin_leq, bin_gtr, bin_geq, ext0, ext1, ext2, lenS_mk, eqNil_none, eqNil_some, neNil_none, neNil_some, ret_k, mem, Nat.zero_add, Nat.add_zero, Nat.mul_one, drewV, Bool.not_true, Bool.not_false] at q
      exact q
    · simp only [show decide (k ≠ 2) = true from decide_eq_true (by omega), pv_some, nilO_ptr, faO_mk, gd_yes, gd_no, gd_yes', gd_no', cnd_true, cnd_false, pick_true, pick_false, not_bool, bin_add, bin_sub, bin_mul, bin_eql, bin_neq, bin_lss, bin_leq, bin_gtr, bin_geq, ext0, ext1, ext2, lenS_mk, eqNil_none, eqNil_some, neNil_none, neNil_some, ret_k, mem, Nat.zero_add, Nat.add_zero, Nat.mul_one, drewV, Bool.not_true, Bool.not_false]
      have q := kind (x := true) (by simp; omega)
      simp only [pv_some, nilO_ptr, faO_mk, gd_yes, gd_no, gd_yes', gd_no', cnd_true, cnd_false, pick_true, pick_false, not_bool, bin_add, bin_sub, bin_mul, bin_eql, bin_neq, bin_lss, bin_leq, bin_gtr, bin_geq, ext0, ext1, ext2, lenS_mk, eqNil_none, eqNil_some, neNil_none, neNil_some, ret_k, mem, Nat.zero_add, Nat.add_zero, Nat.mul_one, drewV, Bool.not_true, Bool.not_false] at q
      exact q
set_option maxHeartbeats 2000000 in
theorem rdec_j1 {x2 : Nat} (hs : RdL w0 F 1 s n (bv xs)) (hn : xs.length = n) (h24 : 24 ≤ n) (hn2 : n ≤ 4120) (hL : dL xs = (xs.length : Int) - 24) (hby : 0 ≤ dB xs)
    (H0 : Hp w0 w (⟨x2, 52, zfrm⟩ :: F)) : F22_j1 (DecPost w0 F xs) s (ptr x2 0) w := by
  obtain ⟨a0, ea0, v0⟩ := el1 (i := 0) (X := 0) hs rfl (by omega)
  obtain ⟨a1, ea1, v1⟩ := el1 (i := 1) (X := 1) hs rfl (by omega)
  obtain ⟨sa, esa, ga, _⟩ := slS_rd (lo := 4) (hi := 12) (X := 4) (Y := 12) hs rfl rfl (by omega) (by omega) (by omega)
  obtain ⟨sb, esb, gb, _⟩ := slS_rd (lo := 12) (hi := 16) (X := 12) (Y := 16) hs rfl rfl (by omega) (by omega) (by omega)
  obtain ⟨sd, esd, gd, _⟩ := slS_from (lo := 24) (X := 24) hs rfl (by omega) h24
  have H := H0.drew
  unfold F22_j1
  simp only [ea0, ea1, esa, esb, esd, pv_some, nilO_ptr, faO_mk, gd_yes, gd_no, gd_yes', gd_no', cnd_true, cnd_false, pick_true, pick_false, not_bool, bin_add, bin_sub, bin_mul, bin_eql, bin_neq, bin_lss, bin_leq, bin_gtr, bin_geq, ext0, ext1, ext2, lenS_mk, eqNil_none, eqNil_some, neNil_none, neNil_some, ret_k, mem, Nat.zero_add, Nat.add_zero, Nat.mul_one, drewV, Bool.not_true, Bool.not_false]
  refine ld1_a (v0 H (fun c hc => by simp [hc])) ?_
  simp only [cvI64, pv_some, nilO_ptr, faO_mk, gd_yes, gd_no, gd_yes', gd_no', cnd_true, cnd_false, pick_true, pick_false, not_bool, bin_add, bin_sub, bin_mul, bin_eql, bin_neq, bin_lss, bin_leq, bin_gtr, bin_geq, ext0, ext1, ext2, lenS_mk, eqNil_none, eqNil_some, neNil_none, neNil_some, ret_k, mem, Nat.zero_add, Nat.add_zero, Nat.mul_one, drewV, Bool.not_true, Bool.not_false]
  refine ld1_a (v1 H (fun c hc => by simp [hc])) ?_
  simp only [pv_some, nilO_ptr, faO_mk, gd_yes, gd_no, gd_yes', gd_no', cnd_true, cnd_false, pick_true, pick_false, not_bool, bin_add, bin_sub, bin_mul, bin_eql, bin_neq, bin_lss, bin_leq, bin_gtr, bin_geq, ext0, ext1, ext2, lenS_mk, eqNil_none, eqNil_some, neNil_none, neNil_some, ret_k, mem, Nat.zero_add, Nat.add_zero, Nat.mul_one, drewV, Bool.not_true, Bool.not_false]
  refine allW3 ?_ ?_ ?_
  · refine cal_h (rget_spec (ga.rd' H (fun c hc => by simp [hc])) (by omega)) ?_; rintro e w9 ⟨rfl, rfl⟩; simp only [ret_k]; try simp only [rd1_a (v0 H (fun c hc => by simp [hc])), rd1_a (v1 H (fun c hc => by simp [hc])), cvI64, pv_some, nilO_ptr, faO_mk, gd_yes, gd_no, gd_yes', gd_no', cnd_true, cnd_false, pick_true, pick_false, not_bool, bin_add, bin_sub, bin_mul, bin_eql, bin_neq, bin_lss, bin_leq, bin_gtr, bin_geq, ext0, ext1, ext2, lenS_mk, eqNil_none, eqNil_some, neNil_none, neNil_some, ret_k, mem, Nat.zero_add, Nat.add_zero, Nat.mul_one, drewV, Bool.not_true, Bool.not_false]
    refine allW3 ?_ ?_ ?_
    · refine cal_h (rget_spec (gb.rd' H (fun c hc => by simp [hc])) (by omega)) ?_; rintro e w9 ⟨rfl, rfl⟩; simp only [ret_k]; try simp only [rd1_a (v0 H (fun c hc => by simp [hc])), rd1_a (v1 H (fun c hc => by simp [hc])), cvI64, pv_some, nilO_ptr, faO_mk, gd_yes, gd_no, gd_yes', gd_no', cnd_true, cnd_false, pick_true, pick_false, not_bool, bin_add, bin_sub, bin_mul, bin_eql, bin_neq, bin_lss, bin_leq, bin_gtr, bin_geq, ext0, ext1, ext2, lenS_mk, eqNil_none, eqNil_some, neNil_none, neNil_some, ret_k, mem, Nat.zero_add, Nat.add_zero, Nat.mul_one, drewV, Bool.not_true, Bool.not_false]
      refine allW2 ?_ ?_
      · refine lit0c_h elT24 H fun w9 cb H hc => ?_; replace H := H.rot1; try simp only [rd1_a (v0 H (fun c hc => by simp [hc])), rd1_a (v1 H (fun c hc => by simp [hc])), cvI64, pv_some, nilO_ptr, faO_mk, gd_yes, gd_no, gd_yes', gd_no', cnd_true, cnd_false, pick_true, pick_false, not_bool, bin_add, bin_sub, bin_mul, bin_eql, bin_neq, bin_lss, bin_leq, bin_gtr, bin_geq, ext0, ext1, ext2, lenS_mk, eqNil_none, eqNil_some, neNil_none, neNil_some, ret_k, mem, Nat.zero_add, Nat.add_zero, Nat.mul_one, drewV, Bool.not_true, Bool.not_false]
        refine allW2 ?_ ?_
        · replace H := H.pull (i := 1) rfl; refine append_h' (cs := [⟨cb, 5, []⟩]) elT24 H hc (gd.mono (fun c hc => by simp [hc])) bv_scalar (by omega) (by omega) fun w9 s' cs' H hc h1 => ?_
          rcases h1 with ⟨h1, _⟩ | ⟨⟨c1, c2, c3⟩, rfl⟩
          · cases h1
          replace H := H.rot1; rw [Nat.zero_add] at hc; simp only [bldF (sl_cells hc)]; try simp only [rd1_a (v0 H (fun c hc => by simp [hc])), rd1_a (v1 H (fun c hc => by simp [hc])), cvI64, pv_some, nilO_ptr, faO_mk, gd_yes, gd_no, gd_yes', gd_no', cnd_true, cnd_false, pick_true, pick_false, not_bool, bin_add, bin_sub, bin_mul, bin_eql, bin_neq, bin_lss, bin_leq, bin_gtr, bin_geq, ext0, ext1, ext2, lenS_mk, eqNil_none, eqNil_some, neNil_none, neNil_some, ret_k, mem, Nat.zero_add, Nat.add_zero, Nat.mul_one, drewV, Bool.not_true, Bool.not_false]
          refine al_h H (z := zfrm) (by kernel_rfl) fun w9 x6 H => ?_; replace H := H.rot1; try simp only [rd1_a (v0 H (fun c hc => by simp [hc])), rd1_a (v1 H (fun c hc => by simp [hc])), cvI64, pv_some, nilO_ptr, faO_mk, gd_yes, gd_no, gd_yes', gd_no', cnd_true, cnd_false, pick_true, pick_false, not_bool, bin_add, bin_sub, bin_mul, bin_eql, bin_neq, bin_lss, bin_leq, bin_gtr, bin_geq, ext0, ext1, ext2, lenS_mk, eqNil_none, eqNil_some, neNil_none, neNil_some, ret_k, mem, Nat.zero_add, Nat.add_zero, Nat.mul_one, drewV, Bool.not_true, Bool.not_false]
          refine stA_h H 1 rfl rfl rfl (frm_scalar (sl_scalar hc)) fun w9 H => ?_; try simp only [rd1_a (v0 H (fun c hc => by simp [hc])), rd1_a (v1 H (fun c hc => by simp [hc])), cvI64, pv_some, nilO_ptr, faO_mk, gd_yes, gd_no, gd_yes', gd_no', cnd_true, cnd_false, pick_true, pick_false, not_bool, bin_add, bin_sub, bin_mul, bin_eql, bin_neq, bin_lss, bin_leq, bin_gtr, bin_geq, ext0, ext1, ext2, lenS_mk, eqNil_none, eqNil_some, neNil_none, neNil_some, ret_k, mem, Nat.zero_add, Nat.add_zero, Nat.mul_one, drewV, Bool.not_true, Bool.not_false]
          exact rdec_j2 (k := i64 (xs.getD 0 0)) (last := decide (xs.getD 1 0 = 1)) (m := i64 (getI ((xs.drop 4).take (12 - 4)))) (f := i64 (getI ((xs.drop 12).take (16 - 12)))) hs hn h24 hn2 hL hby rfl rfl rfl rfl hc (H.to (by intro f; simp only [I, U8, U64, ptr, List.set_cons_zero, List.set_cons_succ, List.eraseIdx_cons_zero, List.eraseIdx_cons_succ, List.map_append, List.map_cons, List.map_nil, List.sum_append, List.sum_cons, List.sum_nil]; omega))
        · refine al_h H (z := zfrm) (by kernel_rfl) fun w9 x6 H => ?_; replace H := H.rot1; try simp only [rd1_a (v0 H (fun c hc => by simp [hc])), rd1_a (v1 H (fun c hc => by simp [hc])), cvI64, pv_some, nilO_ptr, faO_mk, gd_yes, gd_no, gd_yes', gd_no', cnd_true, cnd_false, pick_true, pick_false, not_bool, bin_add, bin_sub, bin_mul, bin_eql, bin_neq, bin_lss, bin_leq, bin_gtr, bin_geq, ext0, ext1, ext2, lenS_mk, eqNil_none, eqNil_some, neNil_none, neNil_some, ret_k, mem, Nat.zero_add, Nat.add_zero, Nat.mul_one, drewV, Bool.not_true, Bool.not_false]
          replace H := H.pull (i := 2) rfl; refine append_h' (cs := [⟨cb, 5, []⟩]) elT24 H hc (gd.mono (fun c hc => by simp [hc])) bv_scalar (by omega) (by omega) fun w9 s' cs' H hc h1 => ?_
          rcases h1 with ⟨h1, _⟩ | ⟨⟨c1, c2, c3⟩, rfl⟩
          · cases h1
          replace H := H.rot1; rw [Nat.zero_add] at hc; simp only [bldF (sl_cells hc)]; try simp only [rd1_a (v0 H (fun c hc => by simp [hc])), rd1_a (v1 H (fun c hc => by simp [hc])), cvI64, pv_some, nilO_ptr, faO_mk, gd_yes, gd_no, gd_yes', gd_no', cnd_true, cnd_false, pick_true, pick_false, not_bool, bin_add, bin_sub, bin_mul, bin_eql, bin_neq, bin_lss, bin_leq, bin_gtr, bin_geq, ext0, ext1, ext2, lenS_mk, eqNil_none, eqNil_some, neNil_none, neNil_some, ret_k, mem, Nat.zero_add, Nat.add_zero, Nat.mul_one, drewV, Bool.not_true, Bool.not_false]
          refine stA_h H 2 rfl rfl rfl (frm_scalar (sl_scalar hc)) fun w9 H => ?_; try simp only [rd1_a (v0 H (fun c hc => by simp [hc])), rd1_a (v1 H (fun c hc => by simp [hc])), cvI64, pv_some, nilO_ptr, faO_mk, gd_yes, gd_no, gd_yes', gd_no', cnd_true, cnd_false, pick_true, pick_false, not_bool, bin_add, bin_sub, bin_mul, bin_eql, bin_neq, bin_lss, bin_leq, bin_gtr, bin_geq, ext0, ext1, ext2, lenS_mk, eqNil_none, eqNil_some, neNil_none, neNil_some, ret_k, mem, Nat.zero_add, Nat.add_zero, Nat.mul_one, drewV, Bool.not_true, Bool.not_false]
          exact rdec_j2 (k := i64 (xs.getD 0 0)) (last := decide (xs.getD 1 0 = 1)) (m := i64 (getI ((xs.drop 4).take (12 - 4)))) (f := i64 (getI ((xs.drop 12).take (16 - 12)))) hs hn h24 hn2 hL hby rfl rfl rfl rfl hc (H.to (by intro f; simp only [I, U8, U64, ptr, List.set_cons_zero, List.set_cons_succ, List.eraseIdx_cons_zero, List.eraseIdx_cons_succ, List.map_append, List.map_cons, List.map_nil, List.sum_append, List.sum_cons, List.sum_nil]; omega))
      · refine al_h H (z := zfrm) (by kernel_rfl) fun w9 x6 H => ?_; replace H := H.rot1; try simp only [rd1_a (v0 H (fun c hc => by simp [hc])), rd1_a (v1 H (fun c hc => by simp [hc])), cvI64, pv_some, nilO_ptr, faO_mk, gd_yes, gd_no, gd_yes', gd_no', cnd_true, cnd_false, pick_true, pick_false, not_bool, bin_add, bin_sub, bin_mul, bin_eql, bin_neq, bin_lss, bin_leq, bin_gtr, bin_geq, ext0, ext1, ext2, lenS_mk, eqNil_none, eqNil_some, neNil_none, neNil_some, ret_k, mem, Nat.zero_add, Nat.add_zero, Nat.mul_one, drewV, Bool.not_true, Bool.not_false]
        refine lit0c_h elT24 H fun w9 cb H hc => ?_; replace H := H.rot1; try simp only [rd1_a (v0 H (fun c hc => by simp [hc])), rd1_a (v1 H (fun c hc => by simp [hc])), cvI64, pv_some, nilO_ptr, faO_mk, gd_yes, gd_no, gd_yes', gd_no', cnd_true, cnd_false, pick_true, pick_false, not_bool, bin_add, bin_sub, bin_mul, bin_eql, bin_neq, bin_lss, bin_leq, bin_gtr, bin_geq, ext0, ext1, ext2, lenS_mk, eqNil_none, eqNil_some, neNil_none, neNil_some, ret_k, mem, Nat.zero_add, Nat.add_zero, Nat.mul_one, drewV, Bool.not_true, Bool.not_false]
        replace H := H.pull (i := 1) rfl; refine append_h' (cs := [⟨cb, 5, []⟩]) elT24 H hc (gd.mono (fun c hc => by simp [hc])) bv_scalar (by omega) (by omega) fun w9 s' cs' H hc h1 => ?_
        rcases h1 with ⟨h1, _⟩ | ⟨⟨c1, c2, c3⟩, rfl⟩
        · cases h1
        replace H := H.rot1; rw [Nat.zero_add] at hc; simp only [bldF (sl_cells hc)]; try simp only [rd1_a (v0 H (fun c hc => by simp [hc])), rd1_a (v1 H (fun c hc => by simp [hc])), cvI64, pv_some, nilO_ptr, faO_mk, gd_yes, gd_no, gd_yes', gd_no', cnd_true, cnd_false, pick_true, pick_false, not_bool, bin_add, bin_sub, bin_mul, bin_eql, bin_neq, bin_lss, bin_leq, bin_gtr, bin_geq, ext0, ext1, ext2, lenS_mk, eqNil_none, eqNil_some, neNil_none, neNil_some, ret_k, mem, Nat.zero_add, Nat.add_zero, Nat.mul_one, drewV, Bool.not_true, Bool.not_false]
        refine stA_h H 2 rfl rfl rfl (frm_scalar (sl_scalar hc)) fun w9 H => ?_; try simp only [rd1_a (v0 H (fun c hc => by simp [hc])), rd1_a (v1 H (fun c hc => by simp [hc])), cvI64, pv_some, nilO_ptr, faO_mk, gd_yes, gd_no, gd_yes', gd_no', cnd_true, cnd_false, pick_true, pick_false, not_bool, bin_add, bin_sub, bin_mul, bin_eql, bin_neq, bin_lss, bin_leq, bin_gtr, bin_geq, ext0, ext1, ext2, lenS_mk, eqNil_none, eqNil_some, neNil_none, neNil_some, ret_k, mem, Nat.zero_add, Nat.add_zero, Nat.mul_one, drewV, Bool.not_true, Bool.not_false]
        exact rdec_j2 (k := i64 (xs.getD 0 0)) (last := decide (xs.getD 1 0 = 1)) (m := i64 (getI ((xs.drop 4).take (12 - 4)))) (f := i64 (getI ((xs.drop 12).take (16 - 12)))) hs hn h24 hn2 hL hby rfl rfl rfl rfl hc (H.to (by intro f; simp only [I, U8, U64, ptr, List.set_cons_zero, List.set_cons_succ, List.eraseIdx_cons_zero, List.eraseIdx_cons_succ, List.map_append, List.map_cons, List.map_nil, List.sum_append, List.sum_cons, List.sum_nil]; omega))
    · refine lit0c_h elT24 H fun w9 cb H hc => ?_; replace H := H.rot1; try simp only [rd1_a (v0 H (fun c hc => by simp [hc])), rd1_a (v1 H (fun c hc => by simp [hc])), cvI64, pv_some, nilO_ptr, faO_mk, gd_yes, gd_no, gd_yes', gd_no', cnd_true, cnd_false, pick_true, pick_false, not_bool, bin_add, bin_sub, bin_mul, bin_eql, bin_neq, bin_lss, bin_leq, bin_gtr, bin_geq, ext0, ext1, ext2, lenS_mk, eqNil_none, eqNil_some, neNil_none, neNil_some, ret_k, mem, Nat.zero_add, Nat.add_zero, Nat.mul_one, drewV, Bool.not_true, Bool.not_false]
      refine allW2 ?_ ?_
      · refine cal_h (rget_spec (gb.rd' H (fun c hc => by simp [hc])) (by omega)) ?_; rintro e w9 ⟨rfl, rfl⟩; simp only [ret_k]; try simp only [rd1_a (v0 H (fun c hc => by simp [hc])), rd1_a (v1 H (fun c hc => by simp [hc])), cvI64, pv_some, nilO_ptr, faO_mk, gd_yes, gd_no, gd_yes', gd_no', cnd_true, cnd_false, pick_true, pick_false, not_bool, bin_add, bin_sub, bin_mul, bin_eql, bin_neq, bin_lss, bin_leq, bin_gtr, bin_geq, ext0, ext1, ext2, lenS_mk, eqNil_none, eqNil_some, neNil_none, neNil_some, ret_k, mem, Nat.zero_add, Nat.add_zero, Nat.mul_one, drewV, Bool.not_true, Bool.not_false]
        refine allW2 ?_ ?_
        · replace H := H.pull (i := 1) rfl; refine append_h' (cs := [⟨cb, 5, []⟩]) elT24 H hc (gd.mono (fun c hc => by simp [hc])) bv_scalar (by omega) (by omega) fun w9 s' cs' H hc h1 => ?_
          rcases h1 with ⟨h1, _⟩ | ⟨⟨c1, c2, c3⟩, rfl⟩
          · cases h1
          replace H := H.rot1; rw [Nat.zero_add] at hc; simp only [bldF (sl_cells hc)]; try simp only [rd1_a (v0 H (fun c hc => by simp [hc])), rd1_a (v1 H (fun c hc => by simp [hc])), cvI64, pv_some, nilO_ptr, faO_mk, gd_yes, gd_no, gd_yes', gd_no', cnd_true, cnd_false, pick_true, pick_false, not_bool, bin_add, bin_sub, bin_mul, bin_eql, bin_neq, bin_lss, bin_leq, bin_gtr, bin_geq, ext0, ext1, ext2, lenS_mk, eqNil_none, eqNil_some, neNil_none, neNil_some, ret_k, mem, Nat.zero_add, Nat.add_zero, Nat.mul_one, drewV, Bool.not_true, Bool.not_false]
          refine al_h H (z := zfrm) (by kernel_rfl) fun w9 x6 H => ?_; replace H := H.rot1; try simp only [rd1_a (v0 H (fun c hc => by simp [hc])), rd1_a (v1 H (fun c hc => by simp [hc])), cvI64, pv_some, nilO_ptr, faO_mk, gd_yes, gd_no, gd_yes', gd_no', cnd_true, cnd_false, pick_true, pick_false, not_bool, bin_add, bin_sub, bin_mul, bin_eql, bin_neq, bin_lss, bin_leq, bin_gtr, bin_geq, ext0, ext1, ext2, lenS_mk, eqNil_none, eqNil_some, neNil_none, neNil_some, ret_k, mem, Nat.zero_add, Nat.add_zero, Nat.mul_one, drewV, Bool.not_true, Bool.not_false]
          refine stA_h H 1 rfl rfl rfl (frm_scalar (sl_scalar hc)) fun w9 H => ?_; try simp only [rd1_a (v0 H (fun c hc => by simp [hc])), rd1_a (v1 H (fun c hc => by simp [hc])), cvI64, pv_some, nilO_ptr, faO_mk, gd_yes, gd_no, gd_yes', gd_no', cnd_true, cnd_false, pick_true, pick_false, not_bool, bin_add, bin_sub, bin_mul, bin_eql, bin_neq, bin_lss, bin_leq, bin_gtr, bin_geq, ext0, ext1, ext2, lenS_mk, eqNil_none, eqNil_some, neNil_none, neNil_some, ret_k, mem, Nat.zero_add, Nat.add_zero, Nat.mul_one, drewV, Bool.not_true, Bool.not_false]
          exact rdec_j2 (k := i64 (xs.getD 0 0)) (last := decide (xs.getD 1 0 = 1)) (m := i64 (getI ((xs.drop 4).take (12 - 4)))) (f := i64 (getI ((xs.drop 12).take (16 - 12)))) hs hn h24 hn2 hL hby rfl rfl rfl rfl hc (H.to (by intro f; simp only [I, U8, U64, ptr, List.set_cons_zero, List.set_cons_succ, List.eraseIdx_cons_zero, List.eraseIdx_cons_succ, List.map_append, List.map_cons, List.map_nil, List.sum_append, List.sum_cons, List.sum_nil]; omega))
        · refine al_h H (z := zfrm) (by kernel_rfl) fun w9 x6 H => ?_; replace H := H.rot1; try simp only [rd1_a (v0 H (fun c hc => by simp [hc])), rd1_a (v1 H (fun c hc => by simp [hc])), cvI64, pv_some, nilO_ptr, faO_mk, gd_yes, gd_no, gd_yes', gd_no', cnd_true, cnd_false, pick_true, pick_false, not_bool, bin_add, bin_sub, bin_mul, bin_eql, bin_neq, bin_lss, bin_leq, bin_gtr, bin_geq, ext0, ext1, ext2, lenS_mk, eqNil_none, eqNil_some, neNil_none, neNil_some, ret_k, mem, Nat.zero_add, Nat.add_zero, Nat.mul_one, drewV, Bool.not_true, Bool.not_false]
          replace H := H.pull (i := 2) rfl; refine append_h' (cs := [⟨cb, 5, []⟩]) elT24 H hc (gd.mono (fun c hc => by simp [hc])) bv_scalar (by omega) (by omega) fun w9 s' cs' H hc h1 => ?_
          rcases h1 with ⟨h1, _⟩ | ⟨⟨c1, c2, c3⟩, rfl⟩
          · cases h1
          replace H := H.rot1; rw [Nat.zero_add] at hc; simp only [bldF (sl_cells hc)]; try simp only [rd1_a (v0 H (fun c hc => by simp [hc])), rd1_a (v1 H (fun c hc => by simp [hc])), cvI64, pv_some, nilO_ptr, faO_mk, gd_yes, gd_no, gd_yes', gd_no', cnd_true, cnd_false, pick_true, pick_false, not_bool, bin_add, bin_sub, bin_mul, bin_eql, bin_neq, bin_lss, bin_leq, bin_gtr, bin_geq, ext0, ext1, ext2, lenS_mk, eqNil_none, eqNil_some, neNil_none, neNil_some, ret_k, mem, Nat.zero_add, Nat.add_zero, Nat.mul_one, drewV, Bool.not_true, Bool.not_false]
          refine stA_h H 2 rfl rfl rfl (frm_scalar (sl_scalar hc)) fun w9 H => ?_; try simp only [rd1_a (v0 H (fun c hc => by simp [hc])), rd1_a (v1 H (fun c hc => by simp [hc])), cvI64, pv_some, nilO_ptr, faO_mk, gd_yes, gd_no, gd_yes', gd_no', cnd_true, cnd_false, pick_true, pick_false, not_bool, bin_add, bin_sub, bin_mul, bin_eql, bin_neq, bin_lss, bin_leq, bin_gtr, bin_geq, ext0, ext1, ext2, lenS_mk, eqNil_none, eqNil_some, neNil_none, neNil_some, ret_k, mem, Nat.zero_add, Nat.add_zero, Nat.mul_one, drewV, Bool.not_true, Bool.not_false]
          exact rdec_j2 (k := i64 (xs.getD 0 0)) (last := decide (xs.getD 1 0 = 1)) (m := i64 (getI ((xs.drop 4).take (12 - 4)))) (f := i64 (getI ((xs.drop 12).take (16 - 12)))) hs hn h24 hn2 hL hby rfl rfl rfl rfl hc (H.to (by intro f; simp only [I, U8, U64, ptr, List.set_cons_zero, List.set_cons_succ, List.eraseIdx_cons_zero, List.eraseIdx_cons_succ, List.map_append, List.map_cons, List.map_nil, List.sum_append, List.sum_cons, List.sum_nil]; omega))
      · refine al_h H (z := zfrm) (by kernel_rfl) fun w9 x6 H => ?_; replace H := H.rot1; try simp only [rd1_a (v0 H (fun c hc => by simp [hc])), rd1_a (v1 H (fun c hc => by simp [hc])), cvI64, pv_some, nilO_ptr, faO_mk, gd_yes, gd_no, gd_yes', gd_no', cnd_true, cnd_false, pick_true, pick_false, not_bool, bin_add, bin_sub, bin_mul, bin_eql, bin_neq, bin_lss, bin_leq, bin_gtr, bin_geq, ext0, ext1, ext2, lenS_mk, eqNil_none, eqNil_some, neNil_none, neNil_some, ret_k, mem, Nat.zero_add, Nat.add_zero, Nat.mul_one, drewV, Bool.not_true, Bool.not_false]
        refine cal_h (rget_spec (gb.rd' H (fun c hc => by simp [hc])) (by omega)) ?_; rintro e w9 ⟨rfl, rfl⟩; simp only [ret_k]; try simp only [rd1_a (v0 H (fun c hc => by simp [hc])), rd1_a (v1 H (fun c hc => by simp [hc])), cvI64, pv_some, nilO_ptr, faO_mk, gd_yes, gd_no, gd_yes', gd_no', cnd_true, cnd_false, pick_true, pick_false, not_bool, bin_add, bin_sub, bin_mul, bin_eql, bin_neq, bin_lss, bin_leq, bin_gtr, bin_geq, ext0, ext1, ext2, lenS_mk, eqNil_none, eqNil_some, neNil_none, neNil_some, ret_k, mem, Nat.zero_add, Nat.add_zero, Nat.mul_one, drewV, Bool.not_true, Bool.not_false]
        replace H := H.pull (i := 2) rfl; refine append_h' (cs := [⟨cb, 5, []⟩]) elT24 H hc (gd.mono (fun c hc => by simp [hc])) bv_scalar (by omega) (by omega) fun w9 s' cs' H hc h1 => ?_
        rcases h1 with ⟨h1, _⟩ | ⟨⟨c1, c2, c3⟩, rfl⟩
        · cases h1
        replace H := H.rot1; rw [Nat.zero_add] at hc; simp only [bldF (sl_cells hc)]; try simp only [rd1_a (v0 H (fun c hc => by simp [hc])), rd1_a (v1 H (fun c hc => by simp [hc])), cvI64, pv_some, nilO_ptr, faO_mk, gd_yes, gd_no, gd_yes', gd_no', cnd_true, cnd_false, pick_true, pick_false, not_bool, bin_add, bin_sub, bin_mul, bin_eql, bin_neq, bin_lss, bin_leq, bin_gtr, bin_geq, ext0, ext1, ext2, lenS_mk, eqNil_none, eqNil_some, neNil_none, neNil_some, ret_k, mem, Nat.zero_add, Nat.add_zero, Nat.mul_one, drewV, Bool.not_true, Bool.not_false]
        refine stA_h H 2 rfl rfl rfl (frm_scalar (sl_scalar hc)) fun w9 H => ?_; try simp only [rd1_a (v0 H (fun c hc => by simp [hc])), rd1_a (v1 H (fun c hc => by simp [hc])), cvI64, pv_some, nilO_ptr, faO_mk, gd_yes, gd_no, gd_yes', gd_no', cnd_true, cnd_false, pick_true, pick_false, not_bool, bin_add, bin_sub, bin_mul, bin_eql, bin_neq, bin_lss, bin_leq, bin_gtr, bin_geq, ext0, ext1, ext2, lenS_mk, eqNil_none, eqNil_some, neNil_none, neNil_some, ret_k, mem, Nat.zero_add, Nat.add_zero, Nat.mul_one, drewV, Bool.not_true, Bool.not_false]
        exact rdec_j2 (k := i64 (xs.getD 0 0)) (last := decide (xs.getD 1 0 = 1)) (m := i64 (getI ((xs.drop 4).take (12 - 4)))) (f := i64 (getI ((xs.drop 12).take (16 - 12)))) hs hn h24 hn2 hL hby rfl rfl rfl rfl hc (H.to (by intro f; simp only [I, U8, U64, ptr, List.set_cons_zero, List.set_cons_succ, List.eraseIdx_cons_zero, List.eraseIdx_cons_succ, List.map_append, List.map_cons, List.map_nil, List.sum_append, List.sum_cons, List.sum_nil]; omega))
    · refine al_h H (z := zfrm) (by kernel_rfl) fun w9 x6 H => ?_; replace H := H.rot1; try simp only [rd1_a (v0 H (fun c hc => by simp [hc])), rd1_a (v1 H (fun c hc => by simp [hc])), cvI64, pv_some, nilO_ptr, faO_mk, gd_yes, gd_no, gd_yes', gd_no', cnd_true, cnd_false, pick_true, pick_false, not_bool, bin_add, bin_sub, bin_mul, bin_eql, bin_neq, bin_lss, bin_leq, bin_gtr, bin_geq, ext0, ext1, ext2, lenS_mk, eqNil_none, eqNil_some, neNil_none, neNil_some, ret_k, mem, Nat.zero_add, Nat.add_zero, Nat.mul_one, drewV, Bool.not_true, Bool.not_false]
      refine allW2 ?_ ?_
      · refine cal_h (rget_spec (gb.rd' H (fun c hc => by simp [hc])) (by omega)) ?_; rintro e w9 ⟨rfl, rfl⟩; simp only [ret_k]; try simp only [rd1_a (v0 H (fun c hc => by simp [hc])), rd1_a (v1 H (fun c hc => by simp [hc])), cvI64, pv_some, nilO_ptr, faO_mk, gd_yes, gd_no, gd_yes', gd_no', cnd_true, cnd_false, pick_true, pick_false, not_bool, bin_add, bin_sub, bin_mul, bin_eql, bin_neq, bin_lss, bin_leq, bin_gtr, bin_geq, ext0, ext1, ext2, lenS_mk, eqNil_none, eqNil_some, neNil_none, neNil_some, ret_k, mem, Nat.zero_add, Nat.add_zero, Nat.mul_one, drewV, Bool.not_true, Bool.not_false]
        refine lit0c_h elT24 H fun w9 cb H hc => ?_; replace H := H.rot1; try simp only [rd1_a (v0 H (fun c hc => by simp [hc])), rd1_a (v1 H (fun c hc => by simp [hc])), cvI64, pv_some, nilO_ptr, faO_mk, gd_yes, gd_no, gd_yes', gd_no', cnd_true, cnd_false, pick_true, pick_false, not_bool, bin_add, bin_sub, bin_mul, bin_eql, bin_neq, bin_lss, bin_leq, bin_gtr, bin_geq, ext0, ext1, ext2, lenS_mk, eqNil_none, eqNil_some, neNil_none, neNil_some, ret_k, mem, Nat.zero_add, Nat.add_zero, Nat.mul_one, drewV, Bool.not_true, Bool.not_false]
        replace H := H.pull (i := 1) rfl; refine append_h' (cs := [⟨cb, 5, []⟩]) elT24 H hc (gd.mono (fun c hc => by simp [hc])) bv_scalar (by omega) (by omega) fun w9 s' cs' H hc h1 => ?_
        rcases h1 with ⟨h1, _⟩ | ⟨⟨c1, c2, c3⟩, rfl⟩
        · cases h1
        replace H := H.rot1; rw [Nat.zero_add] at hc; simp only [bldF (sl_cells hc)]; try simp only [rd1_a (v0 H (fun c hc => by simp [hc])), rd1_a (v1 H (fun c hc => by simp [hc])), cvI64, pv_some, nilO_ptr, faO_mk, gd_yes, gd_no, gd_yes', gd_no', cnd_true, cnd_false, pick_true, pick_false, not_bool, bin_add, bin_sub, bin_mul, bin_eql, bin_neq, bin_lss, bin_leq, bin_gtr, bin_geq, ext0, ext1, ext2, lenS_mk, eqNil_none, eqNil_some, neNil_none, neNil_some, ret_k, mem, Nat.zero_add, Nat.add_zero, Nat.mul_one, drewV, Bool.not_true, Bool.not_false]
        refine stA_h H 2 rfl rfl rfl (frm_scalar (sl_scalar hc)) fun w9 H => ?_; try simp only [rd1_a (v0 H (fun c hc => by simp [hc])), rd1_a (v1 H (fun c hc => by simp [hc])), cvI64, pv_some, nilO_ptr, faO_mk, gd_yes, gd_no, gd_yes', gd_no', cnd_true, cnd_false, pick_true, pick_false, not_bool, bin_add, bin_sub, bin_mul, bin_eql, bin_neq, bin_lss, bin_leq, bin_gtr, bin_geq, ext0, ext1, ext2, lenS_mk, eqNil_none, eqNil_some, neNil_none, neNil_some, ret_k, mem, Nat.zero_add, Nat.add_zero, Nat.mul_one, drewV, Bool.not_true, Bool.not_false]
        exact rdec_j2 (k := i64 (xs.getD 0 0)) (last := decide (xs.getD 1 0 = 1)) (m := i64 (getI ((xs.drop 4).take (12 - 4)))) (f := i64 (getI ((xs.drop 12).take (16 - 12)))) hs hn h24 hn2 hL hby rfl rfl rfl rfl hc (H.to (by intro f; simp only [I, U8, U64, ptr, List.set_cons_zero, List.set_cons_succ, List.eraseIdx_cons_zero, List.eraseIdx_cons_succ, List.map_append, List.map_cons, List.map_nil, List.sum_append, List.sum_cons, List.sum_nil]; omega))
      · refine lit0c_h elT24 H fun w9 cb H hc => ?_; replace H := H.rot1; try simp only [rd1_a (v0 H (fun c hc => by simp [hc])), rd1_a (v1 H (fun c hc => by simp [hc])), cvI64, pv_some, nilO_ptr, faO_mk, gd_yes, gd_no, gd_yes', gd_no', cnd_true, cnd_false, pick_true, pick_false, not_bool, bin_add, bin_sub, bin_mul, bin_eql, bin_neq, bin_lss, bin_leq, bin_gtr, bin_geq, ext0, ext1, ext2, lenS_mk, eqNil_none, eqNil_some, neNil_none, neNil_some, ret_k, mem, Nat.zero_add, Nat.add_zero, Nat.mul_one, drewV, Bool.not_true, Bool.not_false]
        refine cal_h (rget_spec (gb.rd' H (fun c hc => by simp [hc])) (by omega)) ?_; rintro e w9 ⟨rfl, rfl⟩; simp only [ret_k]; try simp only [rd1_a (v0 H (fun c hc => by simp [hc])), rd1_a (v1 H (fun c hc => by simp [hc])), cvI64, pv_some, nilO_ptr, faO_mk, gd_yes, gd_no, gd_yes', gd_no', cnd_true, cnd_false, pick_true, pick_false, not_bool, bin_add, bin_sub, bin_mul, bin_eql, bin_neq, bin_lss, bin_leq, bin_gtr, bin_geq, ext0, ext1, ext2, lenS_mk, eqNil_none, eqNil_some, neNil_none, neNil_some, ret_k, mem, Nat.zero_add, Nat.add_zero, Nat.mul_one, drewV, Bool.not_true, Bool.not_false]
        replace H := H.pull (i := 1) rfl; refine append_h' (cs := [⟨cb, 5, []⟩]) elT24 H hc (gd.mono (fun c hc => by simp [hc])) bv_scalar (by omega) (by omega) fun w9 s' cs' H hc h1 => ?_
        rcases h1 with ⟨h1, _⟩ | ⟨⟨c1, c2, c3⟩, rfl⟩
        · cases h1
        replace H := H.rot1; rw [Nat.zero_add] at hc; simp only [bldF (sl_cells hc)]; try simp only [rd1_a (v0 H (fun c hc => by simp [hc])), rd1_a (v1 H (fun c hc => by simp [hc])), cvI64, pv_some, nilO_ptr, faO_mk, gd_yes, gd_no, gd_yes', gd_no', cnd_true, cnd_false, pick_true, pick_false, not_bool, bin_add, bin_sub, bin_mul, bin_eql, bin_neq, bin_lss, bin_leq, bin_gtr, bin_geq, ext0, ext1, ext2, lenS_mk, eqNil_none, eqNil_some, neNil_none, neNil_some, ret_k, mem, Nat.zero_add, Nat.add_zero, Nat.mul_one, drewV, Bool.not_true, Bool.not_false]
        refine stA_h H 2 rfl rfl rfl (frm_scalar (sl_scalar hc)) fun w9 H => ?_; try simp only [rd1_a (v0 H (fun c hc => by simp [hc])), rd1_a (v1 H (fun c hc => by simp [hc])), cvI64, pv_some, nilO_ptr, faO_mk, gd_yes, gd_no, gd_yes', gd_no', cnd_true, cnd_false, pick_true, pick_false, not_bool, bin_add, bin_sub, bin_mul, bin_eql, bin_neq, bin_lss, bin_leq, bin_gtr, bin_geq, ext0, ext1, ext2, lenS_mk, eqNil_none, eqNil_some, neNil_none, neNil_some, ret_k, mem, Nat.zero_add, Nat.add_zero, Nat.mul_one, drewV, Bool.not_true, Bool.not_false]
        exact rdec_j2 (k := i64 (xs.getD 0 0)) (last := decide (xs.getD 1 0 = 1)) (m := i64 (getI ((xs.drop 4).take (12 - 4)))) (f := i64 (getI ((xs.drop 12).take (16 - 12)))) hs hn h24 hn2 hL hby rfl rfl rfl rfl hc (H.to (by intro f; simp only [I, U8, U64, ptr, List.set_cons_zero, List.set_cons_succ, List.eraseIdx_cons_zero, List.eraseIdx_cons_succ, List.map_append, List.map_cons, List.map_nil, List.sum_append, List.sum_cons, List.sum_nil]; omega))
  · refine lit0c_h elT24 H fun w9 cb H hc => ?_; replace H := H.rot1; try simp only [rd1_a (v0 H (fun c hc => by simp [hc])), rd1_a (v1 H (fun c hc => by simp [hc])), cvI64, pv_some, nilO_ptr, faO_mk, gd_yes, gd_no, gd_yes', gd_no', cnd_true, cnd_false, pick_true, pick_false, not_bool, bin_add, bin_sub, bin_mul, bin_eql, bin_neq, bin_lss, bin_leq, bin_gtr, bin_geq, ext0, ext1, ext2, lenS_mk, eqNil_none, eqNil_some, neNil_none, neNil_some, ret_k, mem, Nat.zero_add, Nat.add_zero, Nat.mul_one, drewV, Bool.not_true, Bool.not_false]
    refine allW2 ?_ ?_
    · refine cal_h (rget_spec (ga.rd' H (fun c hc => by simp [hc])) (by omega)) ?_; rintro e w9 ⟨rfl, rfl⟩; simp only [ret_k]; try simp only [rd1_a (v0 H (fun c hc => by simp [hc])), rd1_a (v1 H (fun c hc => by simp [hc])), cvI64, pv_some, nilO_ptr, faO_mk, gd_yes, gd_no, gd_yes', gd_no', cnd_true, cnd_false, pick_true, pick_false, not_bool, bin_add, bin_sub, bin_mul, bin_eql, bin_neq, bin_lss, bin_leq, bin_gtr, bin_geq, ext0, ext1, ext2, lenS_mk, eqNil_none, eqNil_some, neNil_none, neNil_some, ret_k, mem, Nat.zero_add, Nat.add_zero, Nat.mul_one, drewV, Bool.not_true, Bool.not_false]
      refine allW2 ?_ ?_
      · refine cal_h (rget_spec (gb.rd' H (fun c hc => by simp [hc])) (by omega)) ?_; rintro e w9 ⟨rfl, rfl⟩; simp only [ret_k]; try simp only [rd1_a (v0 H (fun c hc => by simp [hc])), rd1_a (v1 H (fun c hc => by simp [hc])), cvI64, pv_some, nilO_ptr, faO_mk, gd_yes, gd_no, gd_yes', gd_no', cnd_true, cnd_false, pick_true, pick_false, not_bool, bin_add, bin_sub, bin_mul, bin_eql, bin_neq, bin_lss, bin_leq, bin_gtr, bin_geq, ext0, ext1, ext2, lenS_mk, eqNil_none, eqNil_some, neNil_none, neNil_some, ret_k, mem, Nat.zero_add, Nat.add_zero, Nat.mul_one, drewV, Bool.not_true, Bool.not_false]
        refine allW2 ?_ ?_
        · replace H := H.pull (i := 1) rfl; refine append_h' (cs := [⟨cb, 5, []⟩]) elT24 H hc (gd.mono (fun c hc => by simp [hc])) bv_scalar (by omega) (by omega) fun w9 s' cs' H hc h1 => ?_
          rcases h1 with ⟨h1, _⟩ | ⟨⟨c1, c2, c3⟩, rfl⟩
          · cases h1
          replace H := H.rot1; rw [Nat.zero_add] at hc; simp only [bldF (sl_cells hc)]; try simp only [rd1_a (v0 H (fun c hc => by simp [hc])), rd1_a (v1 H (fun c hc => by simp [hc])), cvI64, pv_some, nilO_ptr, faO_mk, gd_yes, gd_no, gd_yes', gd_no', cnd_true, cnd_false, pick_true, pick_false, not_bool, bin_add, bin_sub, bin_mul, bin_eql, bin_neq, bin_lss, bin_leq, bin_gtr, bin_geq, ext0, ext1, ext2, lenS_mk, eqNil_none, eqNil_some, neNil_none, neNil_some, ret_k, mem, Nat.zero_add, Nat.add_zero, Nat.mul_one, drewV, Bool.not_true, Bool.not_false]
          refine al_h H (z := zfrm) (by kernel_rfl) fun w9 x6 H => ?_; replace H := H.rot1; try simp only [rd1_a (v0 H (fun c hc => by simp [hc])), rd1_a (v1 H (fun c hc => by simp [hc])), cvI64, pv_some, nilO_ptr, faO_mk, gd_yes, gd_no, gd_yes', gd_no', cnd_true, cnd_false, pick_true, pick_false, not_bool, bin_add, bin_sub, bin_mul, bin_eql, bin_neq, bin_lss, bin_leq, bin_gtr, bin_geq, ext0, ext1, ext2, lenS_mk, eqNil_none, eqNil_some, neNil_none, neNil_some, ret_k, mem, Nat.zero_add, Nat.add_zero, Nat.mul_one, drewV, Bool.not_true, Bool.not_false]
          refine stA_h H 1 rfl rfl rfl (frm_scalar (sl_scalar hc)) fun w9 H => ?_; try simp only [rd1_a (v0 H (fun c hc => by simp [hc])), rd1_a (v1 H (fun c hc => by simp [hc])), cvI64, pv_some, nilO_ptr, faO_mk, gd_yes, gd_no, gd_yes', gd_no', cnd_true, cnd_false, pick_true, pick_false, not_bool, bin_add, bin_sub, bin_mul, bin_eql, bin_neq, bin_lss, bin_leq, bin_gtr, bin_geq, ext0, ext1, ext2, lenS_mk, eqNil_none, eqNil_some, neNil_none, neNil_some, ret_k, mem, Nat.zero_add, Nat.add_zero, Nat.mul_one, drewV, Bool.not_true, Bool.not_false]
          exact rdec_j2 (k := i64 (xs.getD 0 0)) (last := decide (xs.getD 1 0 = 1)) (m := i64 (getI ((xs.drop 4).take (12 - 4)))) (f := i64 (getI ((xs.drop 12).take (16 - 12)))) hs hn h24 hn2 hL hby rfl rfl rfl rfl hc (H.to (by intro f; simp only [I, U8, U64, ptr, List.set_cons_zero, List.set_cons_succ, List.eraseIdx_cons_zero, List.eraseIdx_cons_succ, List.map_append, List.map_cons, List.map_nil, List.sum_append, List.sum_cons, List.sum_nil]; omega))
        · refine al_h H (z := zfrm) (by kernel_rfl) fun w9 x6 H => ?_; replace H := H.rot1; try simp only [rd1_a (v0 H (fun c hc => by simp [hc])), rd1_a (v1 H (fun c hc => by simp [hc])), cvI64, pv_some, nilO_ptr, faO_mk, gd_yes, gd_no, gd_yes', gd_no', cnd_true, cnd_false, pick_true, pick_false, not_bool, bin_add, bin_sub, bin_mul, bin_eql, bin_neq, bin_lss, bin_leq, bin_gtr, bin_geq, ext0, ext1, ext2, lenS_mk, eqNil_none, eqNil_some, neNil_none, neNil_some, ret_k, mem, Nat.zero_add, Nat.add_zero, Nat.mul_one, drewV, Bool.not_true, Bool.not_false]
          replace H := H.pull (i := 2) rfl; refine append_h' (cs := [⟨cb, 5, []⟩]) elT24 H hc (gd.mono (fun c hc => by simp [hc])) bv_scalar (by omega) (by omega) fun w9 s' cs' H hc h1 => ?_
          rcases h1 with ⟨h1, _⟩ | ⟨⟨c1, c2, c3⟩, rfl⟩
          · cases h1
          replace H := H.rot1; rw [Nat.zero_add] at hc; simp only [bldF (sl_cells hc)]; try simp only [rd1_a (v0 H (fun c hc => by simp [hc])), rd1_a (v1 H (fun c hc => by simp [hc])), cvI64, pv_some, nilO_ptr, faO_mk, gd_yes, gd_no, gd_yes', gd_no', cnd_true, cnd_false, pick_true, pick_false, not_bool, bin_add, bin_sub, bin_mul, bin_eql, bin_neq, bin_lss, bin_leq, bin_gtr, bin_geq, ext0, ext1, ext2, lenS_mk, eqNil_none, eqNil_some, neNil_none, neNil_some, ret_k, mem, Nat.zero_add, Nat.add_zero, Nat.mul_one, drewV, Bool.not_true, Bool.not_false]
          refine stA_h H 2 rfl rfl rfl (frm_scalar (sl_scalar hc)) fun w9 H => ?_; try simp only [rd1_a (v0 H (fun c hc => by simp [hc])), rd1_a (v1 H (fun c hc => by simp [hc])), cvI64, pv_some, nilO_ptr, faO_mk, gd_yes, gd_no, gd_yes', gd_no', cnd_true, cnd_false, pick_true, pick_false, not_bool, bin_add, bin_sub, bin_mul, bin_eql, bin_neq, bin_lss, bin_leq, bin_gtr, bin_geq, ext0, ext1, ext2, lenS_mk, eqNil_none, eqNil_some, neNil_none, neNil_some, ret_k, mem, Nat.zero_add, Nat.add_zero, Nat.mul_one, drewV, Bool.not_true, Bool.not_false]
          exact rdec_j2 (k := i64 (xs.getD 0 0)) (last := decide (xs.getD 1 0 = 1)) (m := i64 (getI ((xs.drop 4).take (12 - 4)))) (f := i64 (getI ((xs.drop 12).take (16 - 12)))) hs hn h24 hn2 hL hby rfl rfl rfl rfl hc (H.to (by intro f; simp only [I, U8, U64, ptr, List.set_cons_zero, List.set_cons_succ, List.eraseIdx_cons_zero, List.eraseIdx_cons_succ, List.map_append, List.map_cons, List.map_nil, List.sum_append, List.sum_cons, List.sum_nil]; omega))
      · refine al_h H (z := zfrm) (by kernel_rfl) fun w9 x6 H => ?_; replace H := H.rot1; try simp only [rd1_a (v0 H (fun c hc => by simp [hc])), rd1_a (v1 H (fun c hc => by simp [hc])), cvI64, pv_some, nilO_ptr, faO_mk, gd_yes, gd_no, gd_yes', gd_no', cnd_true, cnd_false, pick_true, pick_false, not_bool, bin_add, bin_sub, bin_mul, bin_eql, bin_neq, bin_lss, bin_leq, bin_gtr, bin_geq, ext0, ext1, ext2, lenS_mk, eqNil_none, eqNil_some, neNil_none, neNil_some, ret_k, mem, Nat.zero_add, Nat.add_zero, Nat.mul_one, drewV, Bool.not_true, Bool.not_false]
        refine cal_h (rget_spec (gb.rd' H (fun c hc => by simp [hc])) (by omega)) ?_; rintro e w9 ⟨rfl, rfl⟩; simp only [ret_k]; try simp only [rd1_a (v0 H (fun c hc => by simp [hc])), rd1_a (v1 H (fun c hc => by simp [hc])), cvI64, pv_some, nilO_ptr, faO_mk, gd_yes, gd_no, gd_yes', gd_no', cnd_true, cnd_false, pick_true, pick_false, not_bool, bin_add, bin_sub, bin_mul, bin_eql, bin_neq, bin_lss, bin_leq, bin_gtr, bin_geq, ext0, ext1, ext2, lenS_mk, eqNil_none, eqNil_some, neNil_none, neNil_some, ret_k, mem, Nat.zero_add, Nat.add_zero, Nat.mul_one, drewV, Bool.not_true, Bool.not_false]
        replace H := H.pull (i := 2) rfl; refine append_h' (cs := [⟨cb, 5, []⟩]) elT24 H hc (gd.mono (fun c hc => by simp [hc])) bv_scalar (by omega) (by omega) fun w9 s' cs' H hc h1 => ?_
        rcases h1 with ⟨h1, _⟩ | ⟨⟨c1, c2, c3⟩, rfl⟩
        · cases h1
        replace H := H.rot1; rw [Nat.zero_add] at hc; simp only [bldF (sl_cells hc)]; try simp only [rd1_a (v0 H (fun c hc => by simp [hc])), rd1_a (v1 H (fun c hc => by simp [hc])), cvI64, pv_some, nilO_ptr, faO_mk, gd_yes, gd_no, gd_yes', gd_no', cnd_true, cnd_false, pick_true, pick_false, not_bool, bin_add, bin_sub, bin_mul, bin_eql, bin_neq, bin_lss, bin_leq, bin_gtr, bin_geq, ext0, ext1, ext2, lenS_mk, eqNil_none, eqNil_some, neNil_none, neNil_some, ret_k, mem, Nat.zero_add, Nat.add_zero, Nat.mul_one, drewV, Bool.not_true, Bool.not_false]
        refine stA_h H 2 rfl rfl rfl (frm_scalar (sl_scalar hc)) fun w9 H => ?_; try simp only [rd1_a (v0 H (fun c hc => by simp [hc])), rd1_a (v1 H (fun c hc => by simp [hc])), cvI64, pv_some, nilO_ptr, faO_mk, gd_yes, gd_no, gd_yes', gd_no', cnd_true, cnd_false, pick_true, pick_false, not_bool, bin_add, bin_sub, bin_mul, bin_eql, bin_neq, bin_lss, bin_leq, bin_gtr, bin_geq, ext0, ext1, ext2, lenS_mk, eqNil_none, eqNil_some, neNil_none, neNil_some, ret_k, mem, Nat.zero_add, Nat.add_zero, Nat.mul_one, drewV, Bool.not_true, Bool.not_false]
        exact rdec_j2 (k := i64 (xs.getD 0 0)) (last := decide (xs.getD 1 0 = 1)) (m := i64 (getI ((xs.drop 4).take (12 - 4)))) (f := i64 (getI ((xs.drop 12).take (16 - 12)))) hs hn h24 hn2 hL hby rfl rfl rfl rfl hc (H.to (by intro f; simp only [I, U8, U64, ptr, List.set_cons_zero, List.set_cons_succ, List.eraseIdx_cons_zero, List.eraseIdx_cons_succ, List.map_append, List.map_cons, List.map_nil, List.sum_append, List.sum_cons, List.sum_nil]; omega))
    · refine al_h H (z := zfrm) (by kernel_rfl) fun w9 x6 H => ?_; replace H := H.rot1; try simp only [rd1_a (v0 H (fun c hc => by simp [hc])), rd1_a (v1 H (fun c hc => by simp [hc])), cvI64, pv_some, nilO_ptr, faO_mk, gd_yes, gd_no, gd_yes', gd_no', cnd_true, cnd_false, pick_true, pick_false, not_bool, bin_add, bin_sub, bin_mul, bin_eql, bin_neq, bin_lss, bin_leq, bin_gtr, bin_geq, ext0, ext1, ext2, lenS_mk, eqNil_none, eqNil_some, neNil_none, neNil_some, ret_k, mem, Nat.zero_add, Nat.add_zero, Nat.mul_one, drewV, Bool.not_true, Bool.not_false]
      refine cal_h (rget_spec (ga.rd' H (fun c hc => by simp [hc])) (by omega)) ?_; rintro e w9 ⟨rfl, rfl⟩; simp only [ret_k]; try simp only [rd1_a (v0 H (fun c hc => by simp [hc])), rd1_a (v1 H (fun c hc => by simp [hc])), cvI64, pv_some, nilO_ptr, faO_mk, gd_yes, gd_no, gd_yes', gd_no', cnd_true, cnd_false, pick_true, pick_false, not_bool, bin_add, bin_sub, bin_mul, bin_eql, bin_neq, bin_lss, bin_leq, bin_gtr, bin_geq, ext0, ext1, ext2, lenS_mk, eqNil_none, eqNil_some, neNil_none, neNil_some, ret_k, mem, Nat.zero_add, Nat.add_zero, Nat.mul_one, drewV, Bool.not_true, Bool.not_false]
      refine cal_h (rget_spec (gb.rd' H (fun c hc => by simp [hc])) (by omega)) ?_; rintro e w9 ⟨rfl, rfl⟩; simp only [ret_k]; try simp only [rd1_a (v0 H (fun c hc => by simp [hc])), rd1_a (v1 H (fun c hc => by simp [hc])), cvI64, pv_some, nilO_ptr, faO_mk, gd_yes, gd_no, gd_yes', gd_no', cnd_true, cnd_false, pick_true, pick_false, not_bool, bin_add, bin_sub, bin_mul, bin_eql, bin_neq, bin_lss, bin_leq, bin_gtr, bin_geq, ext0, ext1, ext2, lenS_mk, eqNil_none, eqNil_some, neNil_none, neNil_some, ret_k, mem, Nat.zero_add, Nat.add_zero, Nat.mul_one, drewV, Bool.not_true, Bool.not_false]
      replace H := H.pull (i := 2) rfl; refine append_h' (cs := [⟨cb, 5, []⟩]) elT24 H hc (gd.mono (fun c hc => by simp [hc])) bv_scalar (by omega) (by omega) fun w9 s' cs' H hc h1 => ?_
      rcases h1 with ⟨h1, _⟩ | ⟨⟨c1, c2, c3⟩, rfl⟩
      · cases h1
      replace H := H.rot1; rw [Nat.zero_add] at hc; simp only [bldF (sl_cells hc)]; try simp only [rd1_a (v0 H (fun c hc => by simp [hc])), rd1_a (v1 H (fun c hc => by simp [hc])), cvI64, pv_some, nilO_ptr, faO_mk, gd_yes, gd_no, gd_yes', gd_no', cnd_true, cnd_false, pick_true, pick_false, not_bool, bin_add, bin_sub, bin_mul, bin_eql, bin_neq, bin_lss, bin_leq, bin_gtr, bin_geq, ext0, ext1, ext2, lenS_mk, eqNil_none, eqNil_some, neNil_none, neNil_some, ret_k, mem, Nat.zero_add, Nat.add_zero, Nat.mul_one, drewV, Bool.not_true, Bool.not_false]
      refine stA_h H 2 rfl rfl rfl (frm_scalar (sl_scalar hc)) fun w9 H => ?_; try simp only [rd1_a (v0 H (fun c hc => by simp [hc])), rd1_a (v1 H (fun c hc => by simp [hc])), cvI64, pv_some, nilO_ptr, faO_mk, gd_yes, gd_no, gd_yes', gd_no', cnd_true, cnd_false, pick_true, pick_false, not_bool, bin_add, bin_sub, bin_mul, bin_eql, bin_neq, bin_lss, bin_leq, bin_gtr, bin_geq, ext0, ext1, ext2, lenS_mk, eqNil_none, eqNil_some, neNil_none, neNil_some, ret_k, mem, Nat.zero_add, Nat.add_zero, Nat.mul_one, drewV, Bool.not_true, Bool.not_false]
      exact rdec_j2 (k := i64 (xs.getD 0 0)) (last := decide (xs.getD 1 0 = 1)) (m := i64 (getI ((xs.drop 4).take (12 - 4)))) (f := i64 (getI ((xs.drop 12).take (16 - 12)))) hs hn h24 hn2 hL hby rfl rfl rfl rfl hc (H.to (by intro f; simp only [I, U8, U64, ptr, List.set_cons_zero, List.set_cons_succ, List.eraseIdx_cons_zero, List.eraseIdx_cons_succ, List.map_append, List.map_cons, List.map_nil, List.sum_append, List.sum_cons, List.sum_nil]; omega))
  · refine al_h H (z := zfrm) (by kernel_rfl) fun w9 x6 H => ?_; replace H := H.rot1; try simp only [rd1_a (v0 H (fun c hc => by simp [hc])), rd1_a (v1 H (fun c hc => by simp [hc])), cvI64, pv_some, nilO_ptr, faO_mk, gd_yes, gd_no, gd_yes', gd_no', cnd_true, cnd_false, pick_true, pick_false, not_bool, bin_add, bin_sub, bin_mul, bin_eql, bin_neq, bin_lss, bin_leq, bin_gtr, bin_geq, ext0, ext1, ext2, lenS_mk, eqNil_none, eqNil_some, neNil_none, neNil_some, ret_k, mem, Nat.zero_add, Nat.add_zero, Nat.mul_one, drewV, Bool.not_true, Bool.not_false]
    refine allW2 ?_ ?_
    · refine cal_h (rget_spec (ga.rd' H (fun c hc => by simp [hc])) (by omega)) ?_; rintro e w9 ⟨rfl, rfl⟩; simp only [ret_k]; try simp only [rd1_a (v0 H (fun c hc => by simp [hc])), rd1_a (v1 H (fun c hc => by simp [hc])), cvI64, pv_some, nilO_ptr, faO_mk, gd_yes, gd_no, gd_yes', gd_no', cnd_true, cnd_false, pick_true, pick_false, not_bool, bin_add, bin_sub, bin_mul, bin_eql, bin_neq, bin_lss, bin_leq, bin_gtr, bin_geq, ext0, ext1, ext2, lenS_mk, eqNil_none, eqNil_some, neNil_none, neNil_some, ret_k, mem, Nat.zero_add, Nat.add_zero, Nat.mul_one, drewV, Bool.not_true, Bool.not_false]
      refine allW2 ?_ ?_
      · refine cal_h (rget_spec (gb.rd' H (fun c hc => by simp [hc])) (by omega)) ?_; rintro e w9 ⟨rfl, rfl⟩; simp only [ret_k]; try simp only [rd1_a (v0 H (fun c hc => by simp [hc])), rd1_a (v1 H (fun c hc => by simp [hc])), cvI64, pv_some, nilO_ptr, faO_mk, gd_yes, gd_no, gd_yes', gd_no', cnd_true, cnd_false, pick_true, pick_false, not_bool, bin_add, bin_sub, bin_mul, bin_eql, bin_neq, bin_lss, bin_leq, bin_gtr, bin_geq, ext0, ext1, ext2, lenS_mk, eqNil_none, eqNil_some, neNil_none, neNil_some, ret_k, mem, Nat.zero_add, Nat.add_zero, Nat.mul_one, drewV, Bool.not_true, Bool.not_false]
        refine lit0c_h elT24 H fun w9 cb H hc => ?_; replace H := H.rot1; try simp only [rd1_a (v0 H (fun c hc => by simp [hc])), rd1_a (v1 H (fun c hc => by simp [hc])), cvI64, pv_some, nilO_ptr, faO_mk, gd_yes, gd_no, gd_yes', gd_no', cnd_true, cnd_false, pick_true, pick_false, not_bool, bin_add, bin_sub, bin_mul, bin_eql, bin_neq, bin_lss, bin_leq, bin_gtr, bin_geq, ext0, ext1, ext2, lenS_mk, eqNil_none, eqNil_some, neNil_none, neNil_some, ret_k, mem, Nat.zero_add, Nat.add_zero, Nat.mul_one, drewV, Bool.not_true, Bool.not_false]
        replace H := H.pull (i := 1) rfl; refine append_h' (cs := [⟨cb, 5, []⟩]) elT24 H hc (gd.mono (fun c hc => by simp [hc])) bv_scalar (by omega) (by omega) fun w9 s' cs' H hc h1 => ?_
        rcases h1 with ⟨h1, _⟩ | ⟨⟨c1, c2, c3⟩, rfl⟩
        · cases h1
        replace H := H.rot1; rw [Nat.zero_add] at hc; simp only [bldF (sl_cells hc)]; try simp only [rd1_a (v0 H (fun c hc => by simp [hc])), rd1_a (v1 H (fun c hc => by simp [hc])), cvI64, pv_some, nilO_ptr, faO_mk, gd_yes, gd_no, gd_yes', gd_no', cnd_true, cnd_false, pick_true, pick_false, not_bool, bin_add, bin_sub, bin_mul, bin_eql, bin_neq, bin_lss, bin_leq, bin_gtr, bin_geq, ext0, ext1, ext2, lenS_mk, eqNil_none, eqNil_some, neNil_none, neNil_some, ret_k, mem, Nat.zero_add, Nat.add_zero, Nat.mul_one, drewV, Bool.not_true, Bool.not_false]
        refine stA_h H 2 rfl rfl rfl (frm_scalar (sl_scalar hc)) fun w9 H => ?_; try simp only [rd1_a (v0 H (fun c hc => by simp [hc])), rd1_a (v1 H (fun c hc => by simp [hc])), cvI64, pv_some, nilO_ptr, faO_mk, gd_yes, gd_no, gd_yes', gd_no', cnd_true, cnd_false, pick_true, pick_false, not_bool, bin_add, bin_sub, bin_mul, bin_eql, bin_neq, bin_lss, bin_leq, bin_gtr, bin_geq, ext0, ext1, ext2, lenS_mk, eqNil_none, eqNil_some, neNil_none, neNil_some, ret_k, mem, Nat.zero_add, Nat.add_zero, Nat.mul_one, drewV, Bool.not_true, Bool.not_false]
        exact rdec_j2 (k := i64 (xs.getD 0 0)) (last := decide (xs.getD 1 0 = 1)) (m := i64 (getI ((xs.drop 4).take (12 - 4)))) (f := i64 (getI ((xs.drop 12).take (16 - 12)))) hs hn h24 hn2 hL hby rfl rfl rfl rfl hc (H.to (by intro f; simp only [I, U8, U64, ptr, List.set_cons_zero, List.set_cons_succ, List.eraseIdx_cons_zero, List.eraseIdx_cons_succ, List.map_append, List.map_cons, List.map_nil, List.sum_append, List.sum_cons, List.sum_nil]; omega))
      · refine lit0c_h elT24 H fun w9 cb H hc => ?_; replace H := H.rot1; try simp only [rd1_a (v0 H (fun c hc => by simp [hc])), rd1_a (v1 H (fun c hc => by simp [hc])), cvI64, pv_some, nilO_ptr, faO_mk, gd_yes, gd_no, gd_yes', gd_no', cnd_true, cnd_false, pick_true, pick_false, not_bool, bin_add, bin_sub, bin_mul, bin_eql, bin_neq, bin_lss, bin_leq, bin_gtr, bin_geq, ext0, ext1, ext2, lenS_mk, eqNil_none, eqNil_some, neNil_none, neNil_some, ret_k, mem, Nat.zero_add, Nat.add_zero, Nat.mul_one, drewV, Bool.not_true, Bool.not_false]
        refine cal_h (rget_spec (gb.rd' H (fun c hc => by simp [hc])) (by omega)) ?_; rintro e w9 ⟨rfl, rfl⟩; simp only [ret_k]; try simp only [rd1_a (v0 H (fun c hc => by simp [hc])), rd1_a (v1 H (fun c hc => by simp [hc])), cvI64, pv_some, nilO_ptr, faO_mk, gd_yes, gd_no, gd_yes', gd_no', cnd_true, cnd_false, pick_true, pick_false, not_bool, bin_add, bin_sub, bin_mul, bin_eql, bin_neq, bin_lss, bin_leq, bin_gtr, bin_geq, ext0, ext1, ext2, lenS_mk, eqNil_none, eqNil_some, neNil_none, neNil_some, ret_k, mem, Nat.zero_add, Nat.add_zero, Nat.mul_one, drewV, Bool.not_true, Bool.not_false]
        replace H := H.pull (i := 1) rfl; refine append_h' (cs := [⟨cb, 5, []⟩]) elT24 H hc (gd.mono (fun c hc => by simp [hc])) bv_scalar (by omega) (by omega) fun w9 s' cs' H hc h1 => ?_
        rcases h1 with ⟨h1, _⟩ | ⟨⟨c1, c2, c3⟩, rfl⟩
        · cases h1
        replace H := H.rot1; rw [Nat.zero_add] at hc; simp only [bldF (sl_cells hc)]; try simp only [rd1_a (v0 H (fun c hc => by simp [hc])), rd1_a (v1 H (fun c hc => by simp [hc])), cvI64, pv_some, nilO_ptr, faO_mk, gd_yes, gd_no, gd_yes', gd_no', cnd_true, cnd_false, pick_true, pick_false, not_bool, bin_add, bin_sub, bin_mul, bin_eql, bin_neq, bin_lss, bin_leq, bin_gtr, bin_geq, ext0, ext1, ext2, lenS_mk, eqNil_none, eqNil_some, neNil_none, neNil_some, ret_k, mem, Nat.zero_add, Nat.add_zero, Nat.mul_one, drewV, Bool.not_true, Bool.not_false]
        refine stA_h H 2 rfl rfl rfl (frm_scalar (sl_scalar hc)) fun w9 H => ?_; try simp only [rd1_a (v0 H (fun c hc => by simp [hc])), rd1_a (v1 H (fun c hc => by simp [hc])), cvI64, pv_some, nilO_ptr, faO_mk, gd_yes, gd_no, gd_yes', gd_no', cnd_true, cnd_false, pick_true, pick_false, not_bool, bin_add, bin_sub, bin_mul, bin_eql, bin_neq, bin_lss, bin_leq, bin_gtr, bin_geq, ext0, ext1, ext2, lenS_mk, eqNil_none, eqNil_some, neNil_none, neNil_some, ret_k, mem, Nat.zero_add, Nat.add_zero, Nat.mul_one, drewV, Bool.not_true, Bool.not_false]
        exact rdec_j2 (k := i64 (xs.getD 0 0)) (last := decide (xs.getD 1 0 = 1)) (m := i64 (getI ((xs.drop 4).take (12 - 4)))) (f := i64 (getI ((xs.drop 12).take (16 - 12)))) hs hn h24 hn2 hL hby rfl rfl rfl rfl hc (H.to (by intro f; simp only [I, U8, U64, ptr, List.set_cons_zero, List.set_cons_succ, List.eraseIdx_cons_zero, List.eraseIdx_cons_succ, List.map_append, List.map_cons, List.map_nil, List.sum_append, List.sum_cons, List.sum_nil]; omega))
    · refine lit0c_h elT24 H fun w9 cb H hc => ?_; replace H := H.rot1; try simp only [rd1_a (v0 H (fun c hc => by simp [hc])), rd1_a (v1 H (fun c hc => by simp [hc])), cvI64, pv_some, nilO_ptr, faO_mk, gd_yes, gd_no, gd_yes', gd_no', cnd_true, cnd_false, pick_true, pick_false, not_bool, bin_add, bin_sub, bin_mul, bin_eql, bin_neq, bin_lss, bin_leq, bin_gtr, bin_geq, ext0, ext1, ext2, lenS_mk, eqNil_none, eqNil_some, neNil_none, neNil_some, ret_k, mem, Nat.zero_add, Nat.add_zero, Nat.mul_one, drewV, Bool.not_true, Bool.not_false]
      refine cal_h (rget_spec (ga.rd' H (fun c hc => by simp [hc])) (by omega)) ?_; rintro e w9 ⟨rfl, rfl⟩; simp only [ret_k]; try simp only [rd1_a (v0 H (fun c hc => by simp [hc])), rd1_a (v1 H (fun c hc => by simp [hc])), cvI64, pv_some, nilO_ptr, faO_mk, gd_yes, gd_no, gd_yes', gd_no', cnd_true, cnd_false, pick_true, pick_false, not_bool, bin_add, bin_sub, bin_mul, bin_eql, bin_neq, bin_lss, bin_leq, bin_gtr, bin_geq, ext0, ext1, ext2, lenS_mk, eqNil_none, eqNil_some, neNil_none, neNil_some, ret_k, mem, Nat.zero_add, Nat.add_zero, Nat.mul_one, drewV, Bool.not_true, Bool.not_false]
      refine cal_h (rget_spec (gb.rd' H (fun c hc => by simp [hc])) (by omega)) ?_; rintro e w9 ⟨rfl, rfl⟩; simp only [ret_k]; try simp only [rd1_a (v0 H (fun c hc => by simp [hc])), rd1_a (v1 H (fun c hc => by simp [hc])), cvI64, pv_some, nilO_ptr, faO_mk, gd_yes, gd_no, gd_yes', gd_no', cnd_true, cnd_false, pick_true, pick_false, not_bool, bin_add, bin_sub, bin_mul, bin_eql, bin_neq, bin_lss, bin_leq, bin_gtr, bin_geq, ext0, ext1, ext2, lenS_mk, eqNil_none, eqNil_some, neNil_none, neNil_some, ret_k, mem, Nat.zero_add, Nat.add_zero, Nat.mul_one, drewV, Bool.not_true, Bool.not_false]
      replace H := H.pull (i := 1) rfl; refine append_h' (cs := [⟨cb, 5, []⟩]) elT24 H hc (gd.mono (fun c hc => by simp [hc])) bv_scalar (by omega) (by omega) fun w9 s' cs' H hc h1 => ?_
      rcases h1 with ⟨h1, _⟩ | ⟨⟨c1, c2, c3⟩, rfl⟩
      · cases h1
      replace H := H.rot1; rw [Nat.zero_add] at hc; simp only [bldF (sl_cells hc)]; try simp only [rd1_a (v0 H (fun c hc => by simp [hc])), rd1_a (v1 H (fun c hc => by simp [hc])), cvI64, pv_some, nilO_ptr, faO_mk, gd_yes, gd_no, gd_yes', gd_no', cnd_true, cnd_false, pick_true, pick_false, not_bool, bin_add, bin_sub, bin_mul, bin_eql, bin_neq, bin_lss, bin_leq, bin_gtr, bin_geq, ext0, ext1, ext2, lenS_mk, eqNil_none, eqNil_some, neNil_none, neNil_some, ret_k, mem, Nat.zero_add, Nat.add_zero, Nat.mul_one, drewV, Bool.not_true, Bool.not_false]
      refine stA_h H 2 rfl rfl rfl (frm_scalar (sl_scalar hc)) fun w9 H => ?_; try simp only [rd1_a (v0 H (fun c hc => by simp [hc])), rd1_a (v1 H (fun c hc => by simp [hc])), cvI64, pv_some, nilO_ptr, faO_mk, gd_yes, gd_no, gd_yes', gd_no', cnd_true, cnd_false, pick_true, pick_false, not_bool, bin_add, bin_sub, bin_mul, bin_eql, bin_neq, bin_lss, bin_leq, bin_gtr, bin_geq, ext0, ext1, ext2, lenS_mk, eqNil_none, eqNil_some, neNil_none, neNil_some, ret_k, mem, Nat.zero_add, Nat.add_zero, Nat.mul_one, drewV, Bool.not_true, Bool.not_false]
      exact rdec_j2 (k := i64 (xs.getD 0 0)) (last := decide (xs.getD 1 0 = 1)) (m := i64 (getI ((xs.drop 4).take (12 - 4)))) (f := i64 (getI ((xs.drop 12).take (16 - 12)))) hs hn h24 hn2 hL hby rfl rfl rfl rfl hc (H.to (by intro f; simp only [I, U8, U64, ptr, List.set_cons_zero, List.set_cons_succ, List.eraseIdx_cons_zero, List.eraseIdx_cons_succ, List.map_append, List.map_cons, List.map_nil, List.sum_append, List.sum_cons, List.sum_nil]; omega))
theorem rDecode_spec (hs : RdL w0 F 1 s n (bv xs)) (hn : n < 2 ^ 40) (hby : 0 ≤ dB xs) (H : Hp w0 w F) : Calls Pg 22 ⟨[s]⟩ w (DecPost w0 F xs) := by
  have hl : xs.length = n := by have := hs.length; rw [bv_length] at this; omega
  apply F22_calls
  unfold F22 F22_j8
  refine al_h H (z := zfrm) (by kernel_rfl) fun w1 x2 H1 => ?_
  simp only [lenS_rdL hs, pv_some, nilO_ptr, faO_mk, gd_yes, gd_no, gd_yes', gd_no', cnd_true, cnd_false, pick_true, pick_false, not_bool, bin_add, bin_sub, bin_mul, bin_eql, bin_neq, bin_lss, bin_leq, bin_gtr, bin_geq, ext0, ext1, ext2, lenS_mk, eqNil_none, eqNil_some, neNil_none, neNil_some, ret_k, mem, Nat.zero_add, Nat.add_zero, Nat.mul_one, drewV, Bool.not_true, Bool.not_false]
  have bad : ∀ {w1}, Hp w0 w1 (⟨x2, 52, zfrm⟩ :: F) → (xs.length < 24 ∨ 4120 < xs.length ∨ ¬ dOk xs) → (pv (bldO [I 0, .bool false, I 0, I 0, .slice none 0 0] []) fun v => stN 5 (ptr x2 0) v fun _ => ldN 5 (ptr x2 0) fun v36 => DecPost w0 F xs (.returned (.tuple ⟨[v36, I 12]⟩))) w1 := by
    intro w1 H1 h
    refine rdec_bad (L := []) (l0 := zfrm) rfl ?_ H1
    unfold decE; rw [if_pos h]
  by_cases h1 : (n : Int) < 24
  · simp only [decide_eq_true h1, pv_some, nilO_ptr, faO_mk, gd_yes, gd_no, gd_yes', gd_no', cnd_true, cnd_false, pick_true, pick_false, not_bool, bin_add, bin_sub, bin_mul, bin_eql, bin_neq, bin_lss, bin_leq, bin_gtr, bin_geq, ext0, ext1, ext2, lenS_mk, eqNil_none, eqNil_some, neNil_none, neNil_some, ret_k, mem, Nat.zero_add, Nat.add_zero, Nat.mul_one, drewV, Bool.not_true, Bool.not_false]
    exact bad H1 (by omega)
  · obtain ⟨sc, esc, gc, _⟩ := slS_rd (lo := 2) (hi := 4) (X := 2) (Y := 4) hs rfl rfl (by omega) (by omega) (by omega)
    simp only [decide_eq_false h1, esc, pv_some, nilO_ptr, faO_mk, gd_yes, gd_no, gd_yes', gd_no', cnd_true, cnd_false, pick_true, pick_false, not_bool, bin_add, bin_sub, bin_mul, bin_eql, bin_neq, bin_lss, bin_leq, bin_gtr, bin_geq, ext0, ext1, ext2, lenS_mk, eqNil_none, eqNil_some, neNil_none, neNil_some, ret_k, mem, Nat.zero_add, Nat.add_zero, Nat.mul_one, drewV, Bool.not_true, Bool.not_false]
    refine cal_h (rget_spec (gc.rd' H1 (fun c hc => by simp [hc])) (by omega)) ?_
    rintro e w9 ⟨rfl, rfl⟩
    simp only [lenS_rdL hs, cvI64, pv_some, nilO_ptr, faO_mk, gd_yes, gd_no, gd_yes', gd_no', cnd_true, cnd_false, pick_true, pick_false, not_bool, bin_add, bin_sub, bin_mul, bin_eql, bin_neq, bin_lss, bin_leq, bin_gtr, bin_geq, ext0, ext1, ext2, lenS_mk, eqNil_none, eqNil_some, neNil_none, neNil_some, ret_k, mem, Nat.zero_add, Nat.add_zero, Nat.mul_one, drewV, Bool.not_true, Bool.not_false]
    rw [wrap64_id (by omega) (by omega)]
    by_cases h2 : dL xs = (n : Int) - 24
    · have : decide (i64 (getI ((xs.drop 2).take (4 - 2))) ≠ (n : Int) - 24) = false := decide_eq_false (by rw [Decidable.not_not]; exact h2)
      simp only [this, lenS_rdL hs, pv_some, nilO_ptr, faO_mk, gd_yes, gd_no, gd_yes', gd_no', cnd_true, cnd_false, pick_true, pick_false, not_bool, bin_add, bin_sub, bin_mul, bin_eql, bin_neq, bin_lss, bin_leq, bin_gtr, bin_geq, ext0, ext1, ext2, lenS_mk, eqNil_none, eqNil_some, neNil_none, neNil_some, ret_k, mem, Nat.zero_add, Nat.add_zero, Nat.mul_one, drewV, Bool.not_true, Bool.not_false]
      try rw [wrap64_id (by omega) (by omega)]
      by_cases h3 : (4096 : Int) < (n : Int) - 24
      · simp only [decide_eq_true h3, pv_some, nilO_ptr, faO_mk, gd_yes, gd_no, gd_yes', gd_no', cnd_true, cnd_false, pick_true, pick_false, not_bool, bin_add, bin_sub, bin_mul, bin_eql, bin_neq, bin_lss, bin_leq, bin_gtr, bin_geq, ext0, ext1, ext2, lenS_mk, eqNil_none, eqNil_some, neNil_none, neNil_some, ret_k, mem, Nat.zero_add, Nat.add_zero, Nat.mul_one, drewV, Bool.not_true, Bool.not_false]
        exact bad H1 (by omega)
      · simp only [decide_eq_false h3, pv_some, nilO_ptr, faO_mk, gd_yes, gd_no, gd_yes', gd_no', cnd_true, cnd_false, pick_true, pick_false, not_bool, bin_add, bin_sub, bin_mul, bin_eql, bin_neq, bin_lss, bin_leq, bin_gtr, bin_geq, ext0, ext1, ext2, lenS_mk, eqNil_none, eqNil_some, neNil_none, neNil_some, ret_k, mem, Nat.zero_add, Nat.add_zero, Nat.mul_one, drewV, Bool.not_true, Bool.not_false]
        exact rdec_j1 hs hl (by omega) (by omega) (by rw [hl]; exact h2) hby H1
    · have : decide (i64 (getI ((xs.drop 2).take (4 - 2))) ≠ (n : Int) - 24) = true := decide_eq_true h2
      simp only [this, pv_some, nilO_ptr, faO_mk, gd_yes, gd_no, gd_yes', gd_no', cnd_true, cnd_false, pick_true, pick_false, not_bool, bin_add, bin_sub, bin_mul, bin_eql, bin_neq, bin_lss, bin_leq, bin_gtr, bin_geq, ext0, ext1, ext2, lenS_mk, eqNil_none, eqNil_some, neNil_none, neNil_some, ret_k, mem, Nat.zero_add, Nat.add_zero, Nat.mul_one, drewV, Bool.not_true, Bool.not_false]
      exact bad H1 (.inr (.inr fun h => h2 (by rw [h.2.2.1, hl])))
end
end Go.Proofs.Ytmnpndgmfmjfhaa.Den
end

section
set_option linter.unusedVariables false
set_option linter.unusedSimpArgs false
set_option maxRecDepth 8000
namespace Go.Proofs.Ytmnpndgmfmjfhaa.Den
open Go Go.RowKit
structure UM where
  last : Bool
  m : Int
  f : Int
  d : List Int
  at_ : Int
structure AM where
  w : Nat
  m : Int
  f : Int
structure LM where
  up : List Bool
  size : Int
  quality : Int
  timeout : Int
  clock : Int
  us : List UM
  sent : Int
  done : Int
  repeats : Int
  turn : Int
  broken : Bool
  msg : Int
  frag : Int
  part : List Int
  acks : List AM
def ucell (u : UM) (s : Value) : List Value := [I 1, .bool u.last, I u.m, I u.f, s, I u.at_]
def ucells (us : List UM) (sv : List Value) : List Value := (List.zipWith ucell us sv).flatten
def acell (a : AM) : List Value := [I (a.w : Int), I 2, .bool false, I a.m, I a.f, .slice none 0 0]
def acells (l : List AM) : List Value := (l.map acell).flatten
def lkc (M : LM) (su sus sp sa : Value) : List Value :=
  [su, I M.size, I M.quality, I M.timeout, I M.clock, sus, I M.sent, I M.done, I M.repeats, I M.turn, .bool M.broken, I 2, .bool false, I M.msg, I M.frag, .slice none 0 0, sp, sa]
/-- The parts of a link in memory; D: the chunks of its units' data. tu, ta: the types of units and acknowledgments. -/
structure LkP (tu ta : Nat) (w0 : Base) (M : LM) (su sus sp sa : Value) (cu cus cp ca D : List Chunk) (sv : List Value) : Prop where
  up : Sl 4 1 su M.up.length (M.up.map .bool) cu
  us : Sl tu 6 sus M.us.length (ucells M.us sv) cus
  svl : sv.length = M.us.length
  dat : ∀ (i : Nat) (u : UM) (s : Value), M.us[i]? = some u → sv[i]? = some s → RdL w0 D 1 s u.d.length (bv u.d) ∧ s.cells = #[s] ∧ scalar s = true
  part : Sl 5 1 sp M.part.length (bv M.part) cp
  acks : Sl ta 6 sa M.acks.length (acells M.acks) ca
/-- A link of the program stands at block b in the chunks L. -/
def Lk (w0 : Base) (b : Nat) (M : LM) (L : List Chunk) : Prop :=
  ∃ su sus sp sa cu cus cp ca D sv, LkP 101 107 w0 M su sus sp sa cu cus cp ca D sv ∧ L = ⟨b, 96, lkc M su sus sp sa⟩ :: (cu ++ (cus ++ (cp ++ (ca ++ D))))
theorem elT92 : ElT 92 4 1 1 [.bool false] := ⟨by kernel_rfl, by kernel_rfl, rfl⟩
theorem elT93 : ElT 93 101 6 64 [I 0, .bool false, I 0, I 0, .slice none 0 0, I 0] := ⟨by kernel_rfl, by kernel_rfl, rfl⟩
theorem elT94 : ElT 94 107 6 64 [I 0, I 0, .bool false, I 0, I 0, .slice none 0 0] := ⟨by kernel_rfl, by kernel_rfl, rfl⟩
theorem elT104 : ElT 104 3 1 8 [I 0] := ⟨by kernel_rfl, by kernel_rfl, rfl⟩
theorem elT43 : ElT 43 90 2 32 [I 0, .slice none 0 0] := ⟨by kernel_rfl, by kernel_rfl, rfl⟩
theorem elT36 : ElT 36 24 1 24 [.slice none 0 0] := ⟨by kernel_rfl, by kernel_rfl, rfl⟩
theorem flat_length {α : Type} {sz : Nat} : ∀ {L : List (List α)}, (∀ l ∈ L, l.length = sz) → L.flatten.length = L.length * sz
  | [], _ => by simp
  | a :: L, h => by
    rw [List.flatten_cons, List.length_append, h a (by simp), flat_length (fun l hl => h l (by simp [hl])), List.length_cons, Nat.add_mul]; omega
theorem flat_get {α : Type} {sz : Nat} : ∀ {L : List (List α)}, (∀ l ∈ L, l.length = sz) → ∀ {i j : Nat} {l : List α}, L[i]? = some l → j < sz → L.flatten[i * sz + j]? = l[j]?
  | [], _, i, j, l, h, _ => by simp at h
  | a :: L, hL, 0, j, l, h, hj => by
    simp only [List.getElem?_cons_zero, Option.some.injEq] at h; subst h
    rw [List.flatten_cons, Nat.zero_mul, Nat.zero_add, List.getElem?_append_left (by rw [hL a (by simp)]; exact hj)]
  | a :: L, hL, i + 1, j, l, h, hj => by
    simp only [List.getElem?_cons_succ] at h
    have ha := hL a (by simp)
    rw [List.flatten_cons, List.getElem?_append_right (by rw [ha, Nat.add_mul]; omega), ha]
    have : (i + 1) * sz + j - sz = i * sz + j := by rw [Nat.add_mul]; omega
    rw [this]
    exact flat_get (fun l hl => hL l (by simp [hl])) h hj
theorem zip_len : ∀ (us : List UM) (sv : List Value), ∀ l ∈ List.zipWith ucell us sv, l.length = 6
  | [], _, l, h => by simp at h
  | _ :: _, [], l, h => by simp at h
  | u :: us, s :: sv, l, h => by
    simp only [List.zipWith_cons_cons, List.mem_cons] at h
    rcases h with rfl | h
    · rfl
    · exact zip_len us sv l h
theorem ucells_len {us : List UM} {sv : List Value} (h : sv.length = us.length) : (ucells us sv).length = us.length * 6 := by
  unfold ucells
  rw [flat_length (sz := 6) (zip_len us sv)]
  simp [h]
theorem zip_get {us : List UM} {sv : List Value} {i : Nat} {u : UM} {s : Value} (hu : us[i]? = some u) (hs : sv[i]? = some s) : (List.zipWith ucell us sv)[i]? = some (ucell u s) := by
  simp [List.getElem?_zipWith, hu, hs]
theorem ucells_get {us : List UM} {sv : List Value} {i j : Nat} {u : UM} {s : Value} (hu : us[i]? = some u) (hs : sv[i]? = some s) (hj : j < 6) : (ucells us sv)[i * 6 + j]? = (ucell u s)[j]? :=
  flat_get (sz := 6) (zip_len us sv) (zip_get hu hs) hj
theorem ucells_append {us us' : List UM} {sv sv' : List Value} (h : sv.length = us.length) : ucells (us ++ us') (sv ++ sv') = ucells us sv ++ ucells us' sv' := by
  unfold ucells; rw [List.zipWith_append (by rw [h]), List.flatten_append]
theorem flat_set {α : Type} {sz : Nat} : ∀ {L : List (List α)}, (∀ l ∈ L, l.length = sz) → ∀ {i j : Nat} {l : List α} {v : α}, L[i]? = some l → j < sz → L.flatten.set (i * sz + j) v = (L.set i (l.set j v)).flatten
  | [], _, i, j, l, v, h, _ => by simp at h
  | a :: L, hL, 0, j, l, v, h, hj => by
    simp only [List.getElem?_cons_zero, Option.some.injEq] at h; subst h
    rw [List.flatten_cons, Nat.zero_mul, Nat.zero_add, List.set_append_left _ _ (by rw [hL a (by simp)]; exact hj)]; rfl
  | a :: L, hL, i + 1, j, l, v, h, hj => by
    simp only [List.getElem?_cons_succ] at h
    have ha := hL a (by simp)
    rw [List.flatten_cons, List.set_append_right _ _ (by rw [ha, Nat.add_mul]; omega), ha]
    have : (i + 1) * sz + j - sz = i * sz + j := by rw [Nat.add_mul]; omega
    rw [this, flat_set (fun l hl => hL l (by simp [hl])) h hj]; rfl
theorem zip_set {us : List UM} {sv : List Value} {i : Nat} {u u' : UM} {s : Value} (hu : us[i]? = some u) (hs : sv[i]? = some s) : List.zipWith ucell (us.set i u') sv = (List.zipWith ucell us sv).set i (ucell u' s) := by
  apply List.ext_getElem?
  intro k
  by_cases hk : k = i
  · subst hk
    have h1 : k < us.length := by have := (List.getElem?_eq_some_iff.1 hu).1; exact this
    have h2 : k < sv.length := by have := (List.getElem?_eq_some_iff.1 hs).1; exact this
    rw [List.getElem?_eq_getElem h2] at hs
    injection hs with hs
    subst hs
    simp [List.getElem?_zipWith, List.getElem?_set, h1, h2]
    omega
  · simp [List.getElem?_zipWith, List.getElem?_set, Ne.symm hk]
/-- One unit is sent: its cell of time. -/
theorem ucells_at {us : List UM} {sv : List Value} {i : Nat} {u : UM} {s : Value} (hu : us[i]? = some u) (hs : sv[i]? = some s) (t : Int) :
    (ucells us sv).set (i * 6 + 5) (I t) = ucells (us.set i { u with at_ := t }) sv := by
  unfold ucells
  rw [zip_set hu hs]
  exact flat_set (sz := 6) (l := ucell u s) (zip_len us sv) (zip_get hu hs) (by omega)
theorem ucells_last {us : List UM} {sv : List Value} {i : Nat} {u : UM} {s : Value} (hu : us[i]? = some u) (hs : sv[i]? = some s) (b : Bool) :
    (ucells us sv).set (i * 6 + 1) (.bool b) = ucells (us.set i { u with last := b }) sv := by
  unfold ucells
  rw [zip_set hu hs]
  exact flat_set (sz := 6) (l := ucell u s) (zip_len us sv) (zip_get hu hs) (by omega)
theorem acells_get {l : List AM} {i j : Nat} {a : AM} (ha : l[i]? = some a) (hj : j < 6) : (acells l)[i * 6 + j]? = (acell a)[j]? :=
  flat_get (sz := 6) (by intro x hx; obtain ⟨_, _, rfl⟩ := List.mem_map.1 hx; rfl) (by simp [ha]) hj
theorem acells_len (l : List AM) : (acells l).length = l.length * 6 := by
  unfold acells
  rw [flat_length (sz := 6) (by intro x hx; obtain ⟨_, _, rfl⟩ := List.mem_map.1 hx; rfl), List.length_map]
/-- An element of a slice of the run's own. -/
theorem Sl.elem {el sz n : Nat} {s : Value} {xs : List Value} {cs : List Chunk} (h : Sl el sz s n xs cs) {i : Nat} (hi : i < n) : ∃ b cap rest, cs = [⟨b, el, xs ++ rest⟩] ∧ s = .slice (some ⟨b, 0, none⟩) n cap ∧
    ∀ k : IntKind, ixS sz s (.int k (i : Int)) = some (ptr b (i * sz)) := by
  obtain ⟨b, cap, rest, rfl, rfl, h1, h2, h3⟩ := h.chunk (by omega)
  exact ⟨b, cap, rest, rfl, rfl, fun k => by rw [ixS_mk hi, Nat.zero_add]⟩
/-- A cell ahead of what is behind it. -/
theorem get_left {α : Type} {l r : List α} {i : Nat} {v : α} (h : l[i]? = some v) : (l ++ r)[i]? = some v := by
  rw [List.getElem?_append_left (List.getElem?_eq_some_iff.1 h).1]; exact h
theorem set_left {α : Type} {l r : List α} {i : Nat} {v : α} (h : i < l.length) : (l ++ r).set i v = l.set i v ++ r := List.set_append_left _ _ h
/-! ### New -/
def newM (wires : Nat) (size quality timeout : Int) : LM :=
  { up := List.replicate wires true, size := size, quality := quality, timeout := timeout, clock := 0, us := [], sent := 0, done := 0, repeats := 0, turn := 0, broken := false, msg := 1, frag := 0, part := [], acks := [] }
def newE (wires size quality timeout : Int) : Int := if wires < 1 ∨ 8 < wires ∨ size < 32 ∨ 4096 < size ∨ timeout < 1 ∨ 1099511627776 < timeout then 34 else if quality < 0 ∨ 2 < quality then 17 else 0
section
variable {w : World} {w0 : Base} {F L : List Chunk} {R : ER}
theorem mul64_1 (R : ER) : F73 R (U64 1) (U64 1) = R (.returned (.tuple ⟨[U64 0, U64 1]⟩)) := by kernel_rfl
theorem mul64_2 (R : ER) : F73 R (U64 1) (U64 2) = R (.returned (.tuple ⟨[U64 0, U64 2]⟩)) := by kernel_rfl
theorem mul64_3 (R : ER) : F73 R (U64 1) (U64 3) = R (.returned (.tuple ⟨[U64 0, U64 3]⟩)) := by kernel_rfl
theorem mul64_4 (R : ER) : F73 R (U64 1) (U64 4) = R (.returned (.tuple ⟨[U64 0, U64 4]⟩)) := by kernel_rfl
theorem mul64_5 (R : ER) : F73 R (U64 1) (U64 5) = R (.returned (.tuple ⟨[U64 0, U64 5]⟩)) := by kernel_rfl
theorem mul64_6 (R : ER) : F73 R (U64 1) (U64 6) = R (.returned (.tuple ⟨[U64 0, U64 6]⟩)) := by kernel_rfl
theorem mul64_7 (R : ER) : F73 R (U64 1) (U64 7) = R (.returned (.tuple ⟨[U64 0, U64 7]⟩)) := by kernel_rfl
theorem mul64_8 (R : ER) : F73 R (U64 1) (U64 8) = R (.returned (.tuple ⟨[U64 0, U64 8]⟩)) := by kernel_rfl
theorem mul64_small {n : Nat} (h1 : 1 ≤ n) (h8 : n ≤ 8) (R : ER) : F73 R (U64 1) (U64 (n : Int)) = R (.returned (.tuple ⟨[U64 0, U64 (n : Int)]⟩)) := by
  have : n = 1 ∨ n = 2 ∨ n = 3 ∨ n = 4 ∨ n = 5 ∨ n = 6 ∨ n = 7 ∨ n = 8 := by omega
  rcases this with rfl | rfl | rfl | rfl | rfl | rfl | rfl | rfl
  · exact mul64_1 R
  · exact mul64_2 R
  · exact mul64_3 R
  · exact mul64_4 R
  · exact mul64_5 R
  · exact mul64_6 R
  · exact mul64_7 R
  · exact mul64_8 R
theorem mul_small {n : Nat} (h1 : 1 ≤ n) (h8 : n ≤ 8) : Calls Pg 65 ⟨[U64 1, U64 (n : Int)]⟩ w fun e w' => e = .returned (.tuple ⟨[U64 0, U64 (n : Int)]⟩) ∧ w' = w := by
  apply F65_calls
  unfold F65 F65_j2 F65_j1
  simp only [pv_some, nilO_ptr, faO_mk, gd_yes, gd_no, gd_yes', gd_no', cnd_true, cnd_false, pick_true, pick_false, not_bool, bin_add, bin_sub, bin_mul, bin_eql, bin_neq, bin_lss, bin_leq, bin_gtr, bin_geq, ext0, ext1, ext2, lenS_mk, eqNil_none, eqNil_some, neNil_none, neNil_some, ret_k, mem, Nat.zero_add, Nat.add_zero, Nat.mul_one, drewV, Bool.not_true, Bool.not_false]
  refine cal_h (F73_calls (R := fun e w' => e = .returned (.tuple ⟨[U64 0, U64 (n : Int)]⟩) ∧ w' = w) ?_) ?_
  · rw [mul64_small h1 h8]; exact ⟨rfl, rfl⟩
  · rintro e w' ⟨rfl, rfl⟩
    simp only [pv_some, nilO_ptr, faO_mk, gd_yes, gd_no, gd_yes', gd_no', cnd_true, cnd_false, pick_true, pick_false, not_bool, bin_add, bin_sub, bin_mul, bin_eql, bin_neq, bin_lss, bin_leq, bin_gtr, bin_geq, ext0, ext1, ext2, lenS_mk, eqNil_none, eqNil_some, neNil_none, neNil_some, ret_k, mem, Nat.zero_add, Nat.add_zero, Nat.mul_one, drewV, Bool.not_true, Bool.not_false]
    exact ⟨trivial, trivial⟩
theorem tf_lay {j n k : Nat} (hk : k = min j (n - j)) (hj : j ≤ n) : lay (List.replicate j (Value.bool true) ++ List.replicate (n - j) (Value.bool false)) j ((List.replicate j (Value.bool true)).take (k * 1)) = List.replicate (j + k) (Value.bool true) ++ List.replicate (n - (j + k)) (Value.bool false) := by
  unfold lay
  rw [List.take_left' (by simp), Nat.mul_one, List.take_replicate, List.length_replicate, Nat.min_eq_left (by omega), List.drop_append, List.length_replicate, List.drop_replicate, List.drop_replicate]
  rw [show j - (j + k) = 0 from by omega, show n - j - (j + k - j) = n - (j + k) from by omega]
  simp only [List.replicate_zero, List.nil_append]
  rw [List.replicate_append_replicate]
theorem repeat_l {n nb : Nat} (hn : n ≤ 8) (hq : ∀ w', Hp w0 w' (⟨nb, 4, List.replicate n (Value.bool true)⟩ :: F) → R (.returned (.slice (some ⟨nb, 0, none⟩) n n)) w') :
    ∀ (d j : Nat) (w : World), 1 ≤ j → j ≤ n → n - j < d → Hp w0 w (⟨nb, 4, List.replicate j (Value.bool true) ++ List.replicate (n - j) (Value.bool false)⟩ :: F) →
      F48_l1 R d (.slice (some ⟨nb, 0, none⟩) n n) (I (j : Int)) w
  | 0, j, w, h1, h2, h3, H => by omega
  | d + 1, j, w, h1, h2, h3, H => by
    rw [F48_l1_succ]
    unfold F48_b1 F48_j5 F48_j3
    simp only [pv_some, nilO_ptr, faO_mk, gd_yes, gd_no, gd_yes', gd_no', cnd_true, cnd_false, pick_true, pick_false, not_bool, bin_add, bin_sub, bin_mul, bin_eql, bin_neq, bin_lss, bin_leq, bin_gtr, bin_geq, ext0, ext1, ext2, lenS_mk, eqNil_none, eqNil_some, neNil_none, neNil_some, ret_k, mem, Nat.zero_add, Nat.add_zero, Nat.mul_one, drewV, Bool.not_true, Bool.not_false]
    refine cnd_decide (fun h => ?_) (fun h => ?_)
    · have hjn : j < n := by omega
      have e1 : slS 1 (.slice (some ⟨nb, 0, none⟩) n n) (some (I (j : Int))) none = some (.slice (some ⟨nb, j, none⟩) (n - j) (n - j)) := by
        simp only [slS, boundO]
        rw [if_pos (by omega)]
        simp only [Int.toNat_natCast, Option.map_some, add_mk, Nat.mul_one, Nat.zero_add]
        rw [if_neg (by omega)]
      have e2 : slS 1 (.slice (some ⟨nb, 0, none⟩) n n) none (some (I (j : Int))) = some (.slice (some ⟨nb, 0, none⟩) j n) := by
        simp only [slS, boundO]
        rw [if_pos (by omega)]
        simp only [Int.toNat_natCast, Option.map_some, Nat.zero_mul, Nat.sub_zero]
        rw [if_neg (by omega)]; rfl
      simp only [e1, e2, pv_some, nilO_ptr, faO_mk, gd_yes, gd_no, gd_yes', gd_no', cnd_true, cnd_false, pick_true, pick_false, not_bool, bin_add, bin_sub, bin_mul, bin_eql, bin_neq, bin_lss, bin_leq, bin_gtr, bin_geq, ext0, ext1, ext2, lenS_mk, eqNil_none, eqNil_some, neNil_none, neNil_some, ret_k, mem, Nat.zero_add, Nat.add_zero, Nat.mul_one, drewV, Bool.not_true, Bool.not_false]
      refine copy_h (m := j) (ys := List.replicate j (.bool true)) elT92 H.drew 0 rfl (by simp) (.inr ⟨nb, 0, n, 4, List.replicate j (.bool true) ++ List.replicate (n - j) (.bool false), rfl, by omega, by simp, by simp, by simp⟩) (by intro c hc; rw [List.eq_of_mem_replicate hc]; rfl) fun w2 H2 => ?_
      rw [tf_lay rfl h2] at H2
      simp only [pv_some, nilO_ptr, faO_mk, gd_yes, gd_no, gd_yes', gd_no', cnd_true, cnd_false, pick_true, pick_false, not_bool, bin_add, bin_sub, bin_mul, bin_eql, bin_neq, bin_lss, bin_leq, bin_gtr, bin_geq, ext0, ext1, ext2, lenS_mk, eqNil_none, eqNil_some, neNil_none, neNil_some, ret_k, mem, Nat.zero_add, Nat.add_zero, Nat.mul_one, drewV, Bool.not_true, Bool.not_false]
      have hmin : 1 ≤ min j (n - j) := by omega
      rw [wrap64_id (by omega) (by omega), show (j : Int) + ((min j (n - j) : Nat) : Int) = ((j + min j (n - j) : Nat) : Int) from by omega]
      exact repeat_l hn hq d _ w2 (by omega) (by omega) (by omega) H2
    · have hjn : j = n := by omega
      subst hjn
      rw [Nat.sub_self, List.replicate_zero, List.append_nil] at H
      exact hq w H
theorem Repeat_spec {n b : Nat} (h1 : 1 ≤ n) (h8 : n ≤ 8) (H : Hp w0 w (⟨b, 4, [.bool true]⟩ :: F)) :
    Calls Pg 48 ⟨[.slice (some ⟨b, 0, none⟩) 1 1, I (n : Int)]⟩ w fun e w' => ∃ nb, e = .returned (.slice (some ⟨nb, 0, none⟩) n n) ∧ Hp w0 w' (⟨nb, 4, List.replicate n (.bool true)⟩ :: F) := by
  apply F48_calls
  unfold F48
  simp only [pv_some, nilO_ptr, faO_mk, gd_yes, gd_no, gd_yes', gd_no', cnd_true, cnd_false, pick_true, pick_false, not_bool, bin_add, bin_sub, bin_mul, bin_eql, bin_neq, bin_lss, bin_leq, bin_gtr, bin_geq, ext0, ext1, ext2, lenS_mk, eqNil_none, eqNil_some, neNil_none, neNil_some, ret_k, mem, Nat.zero_add, Nat.add_zero, Nat.mul_one, drewV, Bool.not_true, Bool.not_false, show decide ((n : Int) < 0) = false from decide_eq_false (by omega)]
  unfold F48_j1
  simp only [pv_some, nilO_ptr, faO_mk, gd_yes, gd_no, gd_yes', gd_no', cnd_true, cnd_false, pick_true, pick_false, not_bool, bin_add, bin_sub, bin_mul, bin_eql, bin_neq, bin_lss, bin_leq, bin_gtr, bin_geq, ext0, ext1, ext2, lenS_mk, eqNil_none, eqNil_some, neNil_none, neNil_some, ret_k, mem, Nat.zero_add, Nat.add_zero, Nat.mul_one, drewV, Bool.not_true, Bool.not_false, cvU64]
  have e1 : u64 ((1 : Nat) : Int) = 1 := rfl
  have e2 : u64 (n : Int) = (n : Int) := Int.emod_eq_of_lt (by omega) (by omega)
  rw [e1, e2]
  refine cal_h (mul_small h1 h8) ?_
  rintro e w1 ⟨rfl, rfl⟩
  simp only [pv_some, nilO_ptr, faO_mk, gd_yes, gd_no, gd_yes', gd_no', cnd_true, cnd_false, pick_true, pick_false, not_bool, bin_add, bin_sub, bin_mul, bin_eql, bin_neq, bin_lss, bin_leq, bin_gtr, bin_geq, ext0, ext1, ext2, lenS_mk, eqNil_none, eqNil_some, neNil_none, neNil_some, ret_k, mem, Nat.zero_add, Nat.add_zero, Nat.mul_one, drewV, Bool.not_true, Bool.not_false]
  simp only [show decide ((0 : Int) < 0) = false from rfl, show decide ((9223372036854775807 : Int) < (n : Int)) = false from decide_eq_false (by omega), pv_some, nilO_ptr, faO_mk, gd_yes, gd_no, gd_yes', gd_no', cnd_true, cnd_false, pick_true, pick_false, not_bool, bin_add, bin_sub, bin_mul, bin_eql, bin_neq, bin_lss, bin_leq, bin_gtr, bin_geq, ext0, ext1, ext2, lenS_mk, eqNil_none, eqNil_some, neNil_none, neNil_some, ret_k, mem, Nat.zero_add, Nat.add_zero, Nat.mul_one, drewV, Bool.not_true, Bool.not_false]
  unfold F48_j2
  have e3 : cvI .i64 (U64 (n : Int)) = some (I (n : Int)) := by simp only [cvI]; rw [wrap64_id (by omega) (by omega)]
  simp only [e3, pv_some, nilO_ptr, faO_mk, gd_yes, gd_no, gd_yes', gd_no', cnd_true, cnd_false, pick_true, pick_false, not_bool, bin_add, bin_sub, bin_mul, bin_eql, bin_neq, bin_lss, bin_leq, bin_gtr, bin_geq, ext0, ext1, ext2, lenS_mk, eqNil_none, eqNil_some, neNil_none, neNil_some, ret_k, mem, Nat.zero_add, Nat.add_zero, Nat.mul_one, drewV, Bool.not_true, Bool.not_false]
  refine make_h elT92 H (n := n) (c := n) rfl rfl (Nat.le_refl _) (by omega) (by omega) fun w2 nb H2 => ?_
  have hz : (List.replicate n [Value.bool false]).flatten = List.replicate n (.bool false) := by simp
  rw [hz] at H2
  refine copy_h (m := 1) (ys := [.bool true]) elT92 H2 0 rfl (by simp) (.inr ⟨b, 0, 1, 4, [.bool true], rfl, by omega, by simp, by simp, rfl⟩) (by simp [scalar]) fun w3 H3 => ?_
  have hl : lay (List.replicate n (Value.bool false)) 0 ([Value.bool true].take (min 1 n * 1)) = List.replicate 1 (.bool true) ++ List.replicate (n - 1) (.bool false) := by
    rw [Nat.min_eq_left h1]
    unfold lay; simp
  rw [hl] at H3
  rw [Nat.min_eq_left h1]
  unfold F48_j4
  refine ⟨n + 1, ?_⟩
  exact repeat_l (F := ⟨b, 4, [.bool true]⟩ :: F) h8 (fun w' H' => ⟨nb, rfl, H'.to (by intro f; simp only [I, U8, U64, ptr, List.set_cons_zero, List.set_cons_succ, List.eraseIdx_cons_zero, List.eraseIdx_cons_succ, List.map_append, List.map_cons, List.map_nil, List.sum_append, List.sum_cons, List.sum_nil]; omega)⟩) (n + 1) 1 w3 (by omega) h1 (by omega) H3
end
end Go.Proofs.Ytmnpndgmfmjfhaa.Den
end
