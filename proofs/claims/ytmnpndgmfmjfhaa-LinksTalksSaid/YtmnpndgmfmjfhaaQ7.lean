/- Links: the program's Decode, walked. Conditions: none. -/
import Derived.Test.YtmnpndgmfmjfhaaQ6
section
set_option linter.unusedVariables false
set_option linter.unusedSimpArgs false
set_option maxRecDepth 8000
namespace Go.Proofs.Ytmnpndgmfmjfhaa.Den
open Go Go.RowKit
section
variable {w : World} {w0 : Base} {F L : List Chunk} {R : ER} {s : Value} {n b : Nat} {xs : List Int}
theorem getD_take {xs : List Int} {i n : Nat} (h : i < n) : (xs.take n).getD i 0 = xs.getD i 0 := by
  simp [List.getD_eq_getElem?_getD, List.getElem?_take, h]
theorem take_part (xs : List Int) (a m n : Nat) (h : a + m ≤ n) : ((xs.take n).drop a).take m = (xs.drop a).take m := by
  rw [List.drop_take, List.take_take, Nat.min_eq_left (by omega)]
theorem bv_getD {xs : List Int} {i : Nat} (h : i < xs.length) : (bv xs)[i]? = some (U8 (xs.getD i 0)) := by
  simp [bv, List.getD_eq_getElem?_getD, h]
/-- Decode's last part: the checksum. -/
theorem dec_j4 {x2 x6 hb fb cb : Nat} {s' : Value} {l : List Value} {k m f : Int} {last : Bool} (hs : RdL w0 F 1 s n (bv xs)) (hn : xs.length = n) (h24 : 24 ≤ n) (hn2 : n ≤ 4120) (hok : dOk xs)
    (hk : k = dK xs) (hl : last = decide (dB xs = 1)) (hm : m = dM xs) (hf : f = dF xs)
    (hc : Sl 5 1 s' (n - 24) (bv (xs.drop 24)) [⟨cb, 5, l⟩])
    (H : Hp w0 w (⟨x6, 48, frm k last m f s'⟩ :: ⟨hb, 117, bv (xs.take 24)⟩ :: ⟨fb, 112, [I 2, I 2, I 4, I 8, I 12, I 4, I 16, I 8]⟩ :: ⟨x2, 48, zfrm⟩ :: ⟨cb, 5, l⟩ :: F)) :
    F20_j4 (DecPost w0 F xs) s (ptr x2 0) (ptr hb 0) (ptr fb 0) (ptr x6 0) w := by
  have hlt : (xs.take 24).length = 24 := by rw [List.length_take]; omega
  unfold F20_j4
  simp only [ixA42_3, WKt, mem, drewV]
  refine ldN_h H 2 rfl (by decide) ?_
  refine ldA_h H 1 rfl (by rw [bv_length, hlt]) ?_
  refine cal_h (get_spec (at_ := 16) (n := 8) H hlt (by omega) (by omega)) ?_
  rintro e w1 ⟨rfl, H1⟩
  simp only [WKt, mem, drewV]
  refine cal_h (dig_spec (hs.mono (fun c hc => by simp [hc]) |>.rd H1) (by omega) (by omega)) ?_
  rintro e w2 ⟨rfl, rfl⟩
  rw [take_part _ _ _ _ (by omega)]
  simp only [WKt, mem, drewV]
  have he : ¬ (xs.length < 24 ∨ 4120 < xs.length ∨ ¬ dOk xs) := by
    rintro (h | h | h)
    · omega
    · omega
    · exact h hok
  refine cnd_decide (fun hne => ?_) (fun heq => ?_)
  · have e6 : decE xs = 6 := by unfold decE; rw [if_neg he, if_pos (show dS xs ≠ _ from hne)]
    simp only [bld0, WKt, mem, drewV]
    refine stA_h H1 3 rfl rfl rfl (by decide) fun w3 H3 => ?_
    refine ldA_h H3 3 rfl rfl ?_
    refine ⟨0, false, 0, 0, .slice none 0 0, 0, [], [], by rw [e6]; rfl, H3.to (by intro f; simp only [I, U8, U64, ptr, List.set_cons_zero, List.set_cons_succ, List.eraseIdx_cons_zero, List.eraseIdx_cons_succ, List.map_append, List.map_cons, List.map_nil, List.sum_append, List.sum_cons, List.sum_nil]; omega), Sl.nil, fun _ => ⟨rfl, rfl, rfl, rfl, rfl, rfl, rfl⟩, fun h => ?_⟩
    rw [e6] at h; exact absurd h (by decide)
  · have e0 : decE xs = 0 := by unfold decE; rw [if_neg he, if_neg (show ¬ dS xs ≠ _ from heq)]
    refine ldA_h H1 0 rfl rfl ?_
    refine stA_h H1 3 rfl rfl rfl (frm_scalar (sl_scalar hc)) fun w3 H3 => ?_
    refine ldA_h H3 3 rfl rfl ?_
    refine ⟨k, last, m, f, s', n - 24, _, [⟨cb, 5, l⟩], by rw [e0], H3.to (by intro f; simp only [I, U8, U64, ptr, List.set_cons_zero, List.set_cons_succ, List.eraseIdx_cons_zero, List.eraseIdx_cons_succ, List.map_append, List.map_cons, List.map_nil, List.sum_append, List.sum_cons, List.sum_nil]; omega), hc, fun h => absurd e0 h, fun _ => ⟨hk, hl, hm, hf, by omega, rfl⟩⟩
/-- An error of the form: the zero frame. -/
theorem dec_bad {x2 : Nat} {L : List Chunk} {l0 : List Value} (hl0 : l0.length = 5) (hb : decE xs = 12) (H : Hp w0 w (⟨x2, 48, l0⟩ :: (L ++ F))) :
    (pv (bldO [I 0, .bool false, I 0, I 0, .slice none 0 0] []) fun v => stN 5 (ptr x2 0) v fun _ => ldN 5 (ptr x2 0) fun v36 => DecPost w0 F xs (.returned (.tuple ⟨[v36, I 12]⟩))) w := by
  simp only [bld0, WKt, mem, drewV]
  refine stA_h H 0 rfl rfl hl0 (by decide) fun w3 H3 => ?_
  refine ldA_h H3 0 rfl rfl ?_
  refine ⟨0, false, 0, 0, .slice none 0 0, 0, [], [], by rw [hb]; rfl, H3.to (by intro f; simp only [I, U8, U64, ptr, List.set_cons_zero, List.set_cons_succ, List.eraseIdx_cons_zero, List.eraseIdx_cons_succ, List.map_append, List.map_cons, List.map_nil, List.sum_append, List.sum_cons, List.sum_nil]; omega), Sl.nil, fun _ => ⟨rfl, rfl, rfl, rfl, rfl, rfl, rfl⟩, fun h => ?_⟩
  rw [hb] at h; exact absurd h (by decide)
theorem dec_j5 {x2 x6 hb fb cb : Nat} {s' : Value} {l : List Value} {k m f : Int} {last : Bool} {ok : Bool} (hs : RdL w0 F 1 s n (bv xs)) (hn : xs.length = n) (h24 : 24 ≤ n) (hn2 : n ≤ 4120)
    (hk : k = dK xs) (hl : last = decide (dB xs = 1)) (hm : m = dM xs) (hf : f = dF xs)
    (hc : Sl 5 1 s' (n - 24) (bv (xs.drop 24)) [⟨cb, 5, l⟩]) (hok : ok = true ↔ (dK xs = 1 ∨ dK xs = 2 ∧ dB xs = 0 ∧ xs.length = 24))
    (H : Hp w0 w (⟨x6, 48, frm k last m f s'⟩ :: ⟨hb, 117, bv (xs.take 24)⟩ :: ⟨fb, 112, [I 2, I 2, I 4, I 8, I 12, I 4, I 16, I 8]⟩ :: ⟨x2, 48, zfrm⟩ :: ⟨cb, 5, l⟩ :: F)) :
    F20_j5 (DecPost w0 F xs) s (ptr x2 0) (ptr hb 0) (ptr fb 0) (ptr x6 0) (.bool ok) w := by
  have hlt : (xs.take 24).length = 24 := by rw [List.length_take]; omega
  have hb12 : ¬ dOk xs → decE xs = 12 := fun h => by unfold decE; rw [if_pos (.inr (.inr h))]
  have bad : ∀ {w}, ¬ dOk xs → Hp w0 w (⟨x6, 48, frm k last m f s'⟩ :: ⟨hb, 117, bv (xs.take 24)⟩ :: ⟨fb, 112, [I 2, I 2, I 4, I 8, I 12, I 4, I 16, I 8]⟩ :: ⟨x2, 48, zfrm⟩ :: ⟨cb, 5, l⟩ :: F) →
      (pv (bldO [I 0, .bool false, I 0, I 0, .slice none 0 0] []) fun v => stN 5 (ptr x2 0) v fun _ => ldN 5 (ptr x2 0) fun v36 => DecPost w0 F xs (.returned (.tuple ⟨[v36, I 12]⟩))) w := by
    intro w h H
    exact dec_bad (L := [⟨x6, 48, frm k last m f s'⟩, ⟨hb, 117, bv (xs.take 24)⟩, ⟨fb, 112, [I 2, I 2, I 4, I 8, I 12, I 4, I 16, I 8]⟩, ⟨cb, 5, l⟩]) (l0 := zfrm) rfl (hb12 h) (H.to (by intro f; simp only [I, U8, U64, ptr, List.set_cons_zero, List.set_cons_succ, List.eraseIdx_cons_zero, List.eraseIdx_cons_succ, List.map_append, List.map_cons, List.map_nil, List.sum_append, List.sum_cons, List.sum_nil]; omega))
  unfold F20_j5
  simp only [ixA24_1, ixA42_0, WKt, mem, drewV]
  have H0 := H.drew
  cases hv : ok with
  | false =>
    simp only [WKt, mem, drewV]
    refine bad (fun h => ?_) H0
    have := hok.2 h.1
    rw [hv] at this; cases this
  | true =>
    simp only [WKt, mem, drewV]
    refine ld_h H0 1 rfl (bv_getD (i := 1) (by omega)) ?_
    rw [getD_take (by omega)]
    simp only [WKt, mem, drewV]
    by_cases h1 : 1 < dB xs
    · have : decide (1 < xs.getD 1 0) = true := decide_eq_true h1
      simp only [this, WKt, mem, drewV]
      exact bad (fun h => by have := h.2.1; omega) H0
    · have : decide (1 < xs.getD 1 0) = false := decide_eq_false h1
      simp only [this, WKt, mem, drewV]
      refine ldN_h H0 2 rfl (by decide) ?_
      refine ldA_h H0 1 rfl (by rw [bv_length, hlt]) ?_
      refine cal_h (get_spec (at_ := 2) (n := 2) H0 hlt (by omega) (by omega)) ?_
      rintro e w1 ⟨rfl, H1⟩
      rw [take_part _ _ _ _ (by omega)]
      simp only [cvI64, WKt, mem, drewV]
      refine ldS_h H1 0 rfl rfl (mem1 (H0.cell 0 rfl rfl)) ?_
      simp only [lenS_sl hc, WKt, mem, drewV]
      have hd : ∀ x : Int, decide (i64 x ≠ ((n - 24 : Nat) : Int)) = decide (¬ i64 x = (n : Int) - 24) := by
        intro x; congr 1; rw [show ((n - 24 : Nat) : Int) = (n : Int) - 24 from by omega]
      by_cases h2 : dL xs = (n : Int) - 24
      · have : decide (i64 (getI ((xs.drop 2).take 2)) ≠ ((n - 24 : Nat) : Int)) = false := by rw [hd]; exact decide_eq_false (by rw [Decidable.not_not]; exact h2)
        simp only [this, WKt, mem, drewV]
        refine ld_h H1 0 rfl rfl ?_
        by_cases h3 : m < 1
        · simp only [decide_eq_true h3, WKt, mem, drewV]
          exact bad (fun h => by have := h.2.2.2.1; omega) H1
        · simp only [decide_eq_false h3, WKt, mem, drewV]
          refine ld_h H1 0 rfl rfl ?_
          by_cases h4 : 2147483647 < f
          · simp only [decide_eq_true h4, WKt, mem, drewV]
            exact bad (fun h => by have := h.2.2.2.2; omega) H1
          · simp only [decide_eq_false h4, WKt, mem, drewV]
            exact dec_j4 hs hn h24 hn2 ⟨hok.1 hv, by omega, by rw [hn]; exact h2, by omega, by omega⟩ hk hl hm hf hc H1
      · have : decide (i64 (getI ((xs.drop 2).take 2)) ≠ ((n - 24 : Nat) : Int)) = true := by rw [hd]; exact decide_eq_true h2
        simp only [this, WKt, mem, drewV]
        exact bad (fun h => h2 (by rw [h.2.2.1, hn])) H1
theorem dec_j3 {x2 x6 hb fb cb : Nat} {s' : Value} {l : List Value} {k m f : Int} {last : Bool} (hs : RdL w0 F 1 s n (bv xs)) (hn : xs.length = n) (h24 : 24 ≤ n) (hn2 : n ≤ 4120)
    (hk : k = dK xs) (hl : last = decide (dB xs = 1)) (hm : m = dM xs) (hf : f = dF xs)
    (hc : Sl 5 1 s' (n - 24) (bv (xs.drop 24)) [⟨cb, 5, l⟩])
    (H : Hp w0 w (⟨x6, 48, frm k last m f s'⟩ :: ⟨hb, 117, bv (xs.take 24)⟩ :: ⟨fb, 112, [I 2, I 2, I 4, I 8, I 12, I 4, I 16, I 8]⟩ :: ⟨x2, 48, zfrm⟩ :: ⟨cb, 5, l⟩ :: F)) :
    F20_j3 (DecPost w0 F xs) s (ptr x2 0) (ptr hb 0) (ptr fb 0) (ptr x6 0) w := by
  unfold F20_j3
  have hlt : (xs.take 24).length = 24 := by rw [List.length_take]; omega
  have fin : ∀ ok, (ok = true ↔ (dK xs = 1 ∨ dK xs = 2 ∧ dB xs = 0 ∧ xs.length = 24)) → F20_j5 (DecPost w0 F xs) s (ptr x2 0) (ptr hb 0) (ptr fb 0) (ptr x6 0) (.bool ok) w :=
    fun ok hok => dec_j5 hs hn h24 hn2 hk hl hm hf hc hok H
  simp only [ixA24_1, WKt, mem, drewV]
  refine ld_h H 0 rfl rfl ?_
  by_cases h1 : k = 1
  · simp only [decide_eq_true h1, WKt, mem, drewV]
    exact fin true (by simp; exact .inl (by omega))
  · simp only [decide_eq_false h1, WKt, mem, drewV]
    refine ld_h H 0 rfl rfl ?_
    by_cases h2 : k = 2
    · simp only [decide_eq_true h2, WKt, mem, drewV]
      refine ld_h H 1 rfl (bv_getD (i := 1) (by omega)) ?_
      rw [getD_take (by omega)]
      simp only [WKt, mem, drewV]
      by_cases h3 : dB xs = 0
      · have : decide (xs.getD 1 0 = 0) = true := decide_eq_true h3
        simp only [this, WKt, mem, drewV]
        refine ld_h H 0 rfl rfl ?_
        simp only [lenS_sl hc, WKt, mem, drewV]
        by_cases h4 : n = 24
        · have : decide (((n - 24 : Nat) : Int) = 0) = true := decide_eq_true (by omega)
          simp only [this, WKt, mem, drewV]
          exact fin true (by simp; exact .inr ⟨by omega, h3, by omega⟩)
        · have : decide (((n - 24 : Nat) : Int) = 0) = false := decide_eq_false (by omega)
          simp only [this, WKt, mem, drewV]
          exact fin false (by simp; omega)
      · have : decide (xs.getD 1 0 = 0) = false := decide_eq_false h3
        simp only [this, WKt, mem, drewV]
        exact fin false (by simp; omega)
    · simp only [decide_eq_false h2, WKt, mem, drewV]
      exact fin false (by simp; omega)
set_option maxHeartbeats 1000000 in
theorem dec_j2 {x2 hb fb : Nat} (hs : RdL w0 F 1 s n (bv xs)) (hn : xs.length = n) (h24 : 24 ≤ n) (hn2 : n ≤ 4120)
    (H0 : Hp w0 w (⟨hb, 117, bv (xs.take 24)⟩ :: ⟨fb, 112, [I 2, I 2, I 4, I 8, I 12, I 4, I 16, I 8]⟩ :: ⟨x2, 48, zfrm⟩ :: F)) :
    F20_j2 (DecPost w0 F xs) s (ptr x2 0) (ptr hb 0) (ptr fb 0) w := by
  have hlt : (xs.take 24).length = 24 := by rw [List.length_take]; omega
  have hlb : (bv (xs.take 24)).length = 24 := by rw [bv_length, hlt]
  have H := H0.drew
  obtain ⟨s1, e1, g1, g2⟩ := slS_from (lo := 24) (X := 24) hs rfl (by omega) h24
  unfold F20_j2
  simp only [ixA24_0, ixA24_1, ixA42_1, ixA42_2, e1, WKt, mem, drewV]
  have v0 := bv_getD (xs := xs.take 24) (i := 0) (by omega)
  have v1 := bv_getD (xs := xs.take 24) (i := 1) (by omega)
  rw [getD_take (by omega)] at v0 v1
  refine ld_h H 0 rfl v0 ?_
  simp only [cvI64, WKt, mem, drewV]
  refine ld_h H 0 rfl v1 ?_
  simp only [WKt, mem, drewV]
  refine ldN_h H 1 rfl (by decide) ?_
  refine ldA_h H 0 rfl hlb ?_
  refine ldN_h H 1 rfl (by decide) ?_
  refine ldA_h H 0 rfl hlb ?_
  refine allW2 ?_ ?_
  · refine cal_h (get_spec (at_ := 4) (n := 8) H hlt (by omega) (by omega)) ?_; rintro e w9 ⟨rfl, H⟩; simp only [ret_k]; simp only [rd1_t (H.cell 0 rfl v0), rd1_t (H.cell 0 rfl v1), rdN_t (H.cells 0 rfl hlb), rdN_t' (H.part 1 2 2 rfl (by decide)), rdN_t' (H.part 1 4 2 rfl (by decide)), cvI64, WKt, mem, drewV]
    refine allW2 ?_ ?_
    · refine cal_h (get_spec (at_ := 12) (n := 4) H hlt (by omega) (by omega)) ?_; rintro e w9 ⟨rfl, H⟩; simp only [ret_k]; simp only [rd1_t (H.cell 0 rfl v0), rd1_t (H.cell 0 rfl v1), rdN_t (H.cells 0 rfl hlb), rdN_t' (H.part 1 2 2 rfl (by decide)), rdN_t' (H.part 1 4 2 rfl (by decide)), cvI64, WKt, mem, drewV]
      refine allW2 ?_ ?_
      · refine cal_h (Clone1_spec (g1.mono (fun c hc => by simp [hc])) g2 (by omega) H) ?_; rintro e w9 ⟨s', cb, l, rfl, H, hc⟩; replace H := H.rot3; simp only [ret_k]; simp only [bldF (sl_cells hc), rd1_t (H.cell 0 rfl v0), rd1_t (H.cell 0 rfl v1), rdN_t (H.cells 0 rfl hlb), rdN_t' (H.part 1 2 2 rfl (by decide)), rdN_t' (H.part 1 4 2 rfl (by decide)), cvI64, WKt, mem, drewV]
        refine al_h H (z := zfrm) (by kernel_rfl) fun w9 x6 H => ?_; replace H := H.rot3; simp only [rd1_t (H.cell 0 rfl v0), rd1_t (H.cell 0 rfl v1), rdN_t (H.cells 0 rfl hlb), rdN_t' (H.part 1 2 2 rfl (by decide)), rdN_t' (H.part 1 4 2 rfl (by decide)), cvI64, WKt, mem, drewV]
        refine stA_h H 3 rfl rfl rfl (frm_scalar (sl_scalar hc)) fun w9 H => ?_
        exact dec_j3 (k := i64 (xs.getD 0 0)) (last := decide (xs.getD 1 0 = 1)) (m := i64 (getI (((xs.take 24).drop 4).take 8))) (f := i64 (getI (((xs.take 24).drop 12).take 4))) hs hn h24 hn2 rfl rfl (by rw [take_part _ _ _ _ (by omega)]; rfl) (by rw [take_part _ _ _ _ (by omega)]; rfl) hc (H.to (by intro f; simp only [I, U8, U64, ptr, List.set_cons_zero, List.set_cons_succ, List.eraseIdx_cons_zero, List.eraseIdx_cons_succ, List.map_append, List.map_cons, List.map_nil, List.sum_append, List.sum_cons, List.sum_nil]; omega))
      · refine al_h H (z := zfrm) (by kernel_rfl) fun w9 x6 H => ?_; replace H := H.rot3; simp only [rd1_t (H.cell 0 rfl v0), rd1_t (H.cell 0 rfl v1), rdN_t (H.cells 0 rfl hlb), rdN_t' (H.part 1 2 2 rfl (by decide)), rdN_t' (H.part 1 4 2 rfl (by decide)), cvI64, WKt, mem, drewV]
        refine cal_h (Clone1_spec (g1.mono (fun c hc => by simp [hc])) g2 (by omega) H) ?_; rintro e w9 ⟨s', cb, l, rfl, H, hc⟩; replace H := H.rot3; simp only [ret_k]; simp only [bldF (sl_cells hc), rd1_t (H.cell 0 rfl v0), rd1_t (H.cell 0 rfl v1), rdN_t (H.cells 0 rfl hlb), rdN_t' (H.part 1 2 2 rfl (by decide)), rdN_t' (H.part 1 4 2 rfl (by decide)), cvI64, WKt, mem, drewV]
        refine stA_h H 4 rfl rfl rfl (frm_scalar (sl_scalar hc)) fun w9 H => ?_
        exact dec_j3 (k := i64 (xs.getD 0 0)) (last := decide (xs.getD 1 0 = 1)) (m := i64 (getI (((xs.take 24).drop 4).take 8))) (f := i64 (getI (((xs.take 24).drop 12).take 4))) hs hn h24 hn2 rfl rfl (by rw [take_part _ _ _ _ (by omega)]; rfl) (by rw [take_part _ _ _ _ (by omega)]; rfl) hc (H.to (by intro f; simp only [I, U8, U64, ptr, List.set_cons_zero, List.set_cons_succ, List.eraseIdx_cons_zero, List.eraseIdx_cons_succ, List.map_append, List.map_cons, List.map_nil, List.sum_append, List.sum_cons, List.sum_nil]; omega))
    · refine al_h H (z := zfrm) (by kernel_rfl) fun w9 x6 H => ?_; replace H := H.rot3; simp only [rd1_t (H.cell 0 rfl v0), rd1_t (H.cell 0 rfl v1), rdN_t (H.cells 0 rfl hlb), rdN_t' (H.part 1 2 2 rfl (by decide)), rdN_t' (H.part 1 4 2 rfl (by decide)), cvI64, WKt, mem, drewV]
      refine cal_h (get_spec (at_ := 12) (n := 4) H hlt (by omega) (by omega)) ?_; rintro e w9 ⟨rfl, H⟩; simp only [ret_k]; simp only [rd1_t (H.cell 0 rfl v0), rd1_t (H.cell 0 rfl v1), rdN_t (H.cells 0 rfl hlb), rdN_t' (H.part 1 2 2 rfl (by decide)), rdN_t' (H.part 1 4 2 rfl (by decide)), cvI64, WKt, mem, drewV]
      refine cal_h (Clone1_spec (g1.mono (fun c hc => by simp [hc])) g2 (by omega) H) ?_; rintro e w9 ⟨s', cb, l, rfl, H, hc⟩; replace H := H.rot3; simp only [ret_k]; simp only [bldF (sl_cells hc), rd1_t (H.cell 0 rfl v0), rd1_t (H.cell 0 rfl v1), rdN_t (H.cells 0 rfl hlb), rdN_t' (H.part 1 2 2 rfl (by decide)), rdN_t' (H.part 1 4 2 rfl (by decide)), cvI64, WKt, mem, drewV]
      refine stA_h H 4 rfl rfl rfl (frm_scalar (sl_scalar hc)) fun w9 H => ?_
      exact dec_j3 (k := i64 (xs.getD 0 0)) (last := decide (xs.getD 1 0 = 1)) (m := i64 (getI (((xs.take 24).drop 4).take 8))) (f := i64 (getI (((xs.take 24).drop 12).take 4))) hs hn h24 hn2 rfl rfl (by rw [take_part _ _ _ _ (by omega)]; rfl) (by rw [take_part _ _ _ _ (by omega)]; rfl) hc (H.to (by intro f; simp only [I, U8, U64, ptr, List.set_cons_zero, List.set_cons_succ, List.eraseIdx_cons_zero, List.eraseIdx_cons_succ, List.map_append, List.map_cons, List.map_nil, List.sum_append, List.sum_cons, List.sum_nil]; omega))
  · refine al_h H (z := zfrm) (by kernel_rfl) fun w9 x6 H => ?_; replace H := H.rot3; simp only [rd1_t (H.cell 0 rfl v0), rd1_t (H.cell 0 rfl v1), rdN_t (H.cells 0 rfl hlb), rdN_t' (H.part 1 2 2 rfl (by decide)), rdN_t' (H.part 1 4 2 rfl (by decide)), cvI64, WKt, mem, drewV]
    refine cal_h (get_spec (at_ := 4) (n := 8) H hlt (by omega) (by omega)) ?_; rintro e w9 ⟨rfl, H⟩; simp only [ret_k]; simp only [rd1_t (H.cell 0 rfl v0), rd1_t (H.cell 0 rfl v1), rdN_t (H.cells 0 rfl hlb), rdN_t' (H.part 1 2 2 rfl (by decide)), rdN_t' (H.part 1 4 2 rfl (by decide)), cvI64, WKt, mem, drewV]
    refine cal_h (get_spec (at_ := 12) (n := 4) H hlt (by omega) (by omega)) ?_; rintro e w9 ⟨rfl, H⟩; simp only [ret_k]; simp only [rd1_t (H.cell 0 rfl v0), rd1_t (H.cell 0 rfl v1), rdN_t (H.cells 0 rfl hlb), rdN_t' (H.part 1 2 2 rfl (by decide)), rdN_t' (H.part 1 4 2 rfl (by decide)), cvI64, WKt, mem, drewV]
    refine cal_h (Clone1_spec (g1.mono (fun c hc => by simp [hc])) g2 (by omega) H) ?_; rintro e w9 ⟨s', cb, l, rfl, H, hc⟩; replace H := H.rot3; simp only [ret_k]; simp only [bldF (sl_cells hc), rd1_t (H.cell 0 rfl v0), rd1_t (H.cell 0 rfl v1), rdN_t (H.cells 0 rfl hlb), rdN_t' (H.part 1 2 2 rfl (by decide)), rdN_t' (H.part 1 4 2 rfl (by decide)), cvI64, WKt, mem, drewV]
    refine stA_h H 4 rfl rfl rfl (frm_scalar (sl_scalar hc)) fun w9 H => ?_
    exact dec_j3 (k := i64 (xs.getD 0 0)) (last := decide (xs.getD 1 0 = 1)) (m := i64 (getI (((xs.take 24).drop 4).take 8))) (f := i64 (getI (((xs.take 24).drop 12).take 4))) hs hn h24 hn2 rfl rfl (by rw [take_part _ _ _ _ (by omega)]; rfl) (by rw [take_part _ _ _ _ (by omega)]; rfl) hc (H.to (by intro f; simp only [I, U8, U64, ptr, List.set_cons_zero, List.set_cons_succ, List.eraseIdx_cons_zero, List.eraseIdx_cons_succ, List.map_append, List.map_cons, List.map_nil, List.sum_append, List.sum_cons, List.sum_nil]; omega))
set_option maxHeartbeats 1000000 in
theorem dec_j1 {x2 : Nat} (hs : RdL w0 F 1 s n (bv xs)) (hn : xs.length = n) (h24 : 24 ≤ n) (hn2 : n ≤ 4120)
    (H0 : Hp w0 w (⟨x2, 48, zfrm⟩ :: F)) : F20_j1 (DecPost w0 F xs) s (ptr x2 0) w := by
  have hlt : (xs.take 24).length = 24 := by rw [List.length_take]; omega
  have hlb : (bv (xs.take 24)).length = 24 := by rw [bv_length, hlt]
  have H := H0.drew
  obtain ⟨a, ha, hc⟩ := arr24 hs h24
  unfold F20_j1
  simp only [ha, WKt, mem, drewV]
  refine ldN_a (hc H (fun c hc => by simp [hc])) ?_
  refine allW3 ?_ ?_ ?_
  · refine cal_h (fields_spec H) ?_; rintro e w9 ⟨rfl, H⟩; simp only [ret_k]; simp only [rdN_a (hc H (fun c hc => by simp [hc])), WKt, mem, drewV]
    refine allW2 ?_ ?_
    · refine al_h H (z := List.replicate 24 (U8 0)) (by kernel_rfl) fun w9 hb H => ?_; replace H := H.rot1; simp only [rdN_a (hc H (fun c hc => by simp [hc])), WKt, mem, drewV]
      refine al_h H (z := [I 0, I 0, I 0, I 0, I 0, I 0, I 0, I 0]) (by kernel_rfl) fun w9 fb H => ?_; replace H := H.rot1; simp only [rdN_a (hc H (fun c hc => by simp [hc])), WKt, mem, drewV]
      refine stA_h H 2 rfl hlb rfl bv_scalar fun w9 H => ?_; try simp only [rdN_a (hc H (fun c hc => by simp [hc, List.set])), WKt, mem, drewV]
      refine stA_h H 1 rfl rfl rfl (by decide) fun w9 H => ?_; try simp only [rdN_a (hc H (fun c hc => by simp [hc, List.set])), WKt, mem, drewV]
      exact dec_j2 hs hn h24 hn2 (H.to (by intro f; simp only [I, U8, U64, ptr, List.set_cons_zero, List.set_cons_succ, List.eraseIdx_cons_zero, List.eraseIdx_cons_succ, List.map_append, List.map_cons, List.map_nil, List.sum_append, List.sum_cons, List.sum_nil]; omega))
    · refine al_h H (z := [I 0, I 0, I 0, I 0, I 0, I 0, I 0, I 0]) (by kernel_rfl) fun w9 fb H => ?_; replace H := H.rot1; simp only [rdN_a (hc H (fun c hc => by simp [hc])), WKt, mem, drewV]
      refine al_h H (z := List.replicate 24 (U8 0)) (by kernel_rfl) fun w9 hb H => ?_; replace H := H.rot1; simp only [rdN_a (hc H (fun c hc => by simp [hc])), WKt, mem, drewV]
      refine stA_h H 1 rfl hlb rfl bv_scalar fun w9 H => ?_; try simp only [rdN_a (hc H (fun c hc => by simp [hc, List.set])), WKt, mem, drewV]
      refine stA_h H 2 rfl rfl rfl (by decide) fun w9 H => ?_; try simp only [rdN_a (hc H (fun c hc => by simp [hc, List.set])), WKt, mem, drewV]
      exact dec_j2 hs hn h24 hn2 (H.to (by intro f; simp only [I, U8, U64, ptr, List.set_cons_zero, List.set_cons_succ, List.eraseIdx_cons_zero, List.eraseIdx_cons_succ, List.map_append, List.map_cons, List.map_nil, List.sum_append, List.sum_cons, List.sum_nil]; omega))
  · refine al_h H (z := List.replicate 24 (U8 0)) (by kernel_rfl) fun w9 hb H => ?_; replace H := H.rot1; simp only [rdN_a (hc H (fun c hc => by simp [hc])), WKt, mem, drewV]
    refine allW2 ?_ ?_
    · refine cal_h (fields_spec H) ?_; rintro e w9 ⟨rfl, H⟩; simp only [ret_k]; simp only [rdN_a (hc H (fun c hc => by simp [hc])), WKt, mem, drewV]
      refine al_h H (z := [I 0, I 0, I 0, I 0, I 0, I 0, I 0, I 0]) (by kernel_rfl) fun w9 fb H => ?_; replace H := H.rot1; simp only [rdN_a (hc H (fun c hc => by simp [hc])), WKt, mem, drewV]
      refine stA_h H 2 rfl hlb rfl bv_scalar fun w9 H => ?_; try simp only [rdN_a (hc H (fun c hc => by simp [hc, List.set])), WKt, mem, drewV]
      refine stA_h H 1 rfl rfl rfl (by decide) fun w9 H => ?_; try simp only [rdN_a (hc H (fun c hc => by simp [hc, List.set])), WKt, mem, drewV]
      exact dec_j2 hs hn h24 hn2 (H.to (by intro f; simp only [I, U8, U64, ptr, List.set_cons_zero, List.set_cons_succ, List.eraseIdx_cons_zero, List.eraseIdx_cons_succ, List.map_append, List.map_cons, List.map_nil, List.sum_append, List.sum_cons, List.sum_nil]; omega))
    · refine al_h H (z := [I 0, I 0, I 0, I 0, I 0, I 0, I 0, I 0]) (by kernel_rfl) fun w9 fb H => ?_; replace H := H.rot1; simp only [rdN_a (hc H (fun c hc => by simp [hc])), WKt, mem, drewV]
      refine cal_h (fields_spec H) ?_; rintro e w9 ⟨rfl, H⟩; simp only [ret_k]; simp only [rdN_a (hc H (fun c hc => by simp [hc])), WKt, mem, drewV]
      refine stA_h H 2 rfl hlb rfl bv_scalar fun w9 H => ?_; try simp only [rdN_a (hc H (fun c hc => by simp [hc, List.set])), WKt, mem, drewV]
      refine stA_h H 1 rfl rfl rfl (by decide) fun w9 H => ?_; try simp only [rdN_a (hc H (fun c hc => by simp [hc, List.set])), WKt, mem, drewV]
      exact dec_j2 hs hn h24 hn2 (H.to (by intro f; simp only [I, U8, U64, ptr, List.set_cons_zero, List.set_cons_succ, List.eraseIdx_cons_zero, List.eraseIdx_cons_succ, List.map_append, List.map_cons, List.map_nil, List.sum_append, List.sum_cons, List.sum_nil]; omega))
  · refine al_h H (z := [I 0, I 0, I 0, I 0, I 0, I 0, I 0, I 0]) (by kernel_rfl) fun w9 fb H => ?_; replace H := H.rot1; simp only [rdN_a (hc H (fun c hc => by simp [hc])), WKt, mem, drewV]
    refine allW2 ?_ ?_
    · refine cal_h (fields_spec H) ?_; rintro e w9 ⟨rfl, H⟩; simp only [ret_k]; simp only [rdN_a (hc H (fun c hc => by simp [hc])), WKt, mem, drewV]
      refine al_h H (z := List.replicate 24 (U8 0)) (by kernel_rfl) fun w9 hb H => ?_; replace H := H.rot1; simp only [rdN_a (hc H (fun c hc => by simp [hc])), WKt, mem, drewV]
      refine stA_h H 1 rfl hlb rfl bv_scalar fun w9 H => ?_; try simp only [rdN_a (hc H (fun c hc => by simp [hc, List.set])), WKt, mem, drewV]
      refine stA_h H 2 rfl rfl rfl (by decide) fun w9 H => ?_; try simp only [rdN_a (hc H (fun c hc => by simp [hc, List.set])), WKt, mem, drewV]
      exact dec_j2 hs hn h24 hn2 (H.to (by intro f; simp only [I, U8, U64, ptr, List.set_cons_zero, List.set_cons_succ, List.eraseIdx_cons_zero, List.eraseIdx_cons_succ, List.map_append, List.map_cons, List.map_nil, List.sum_append, List.sum_cons, List.sum_nil]; omega))
    · refine al_h H (z := List.replicate 24 (U8 0)) (by kernel_rfl) fun w9 hb H => ?_; replace H := H.rot1; simp only [rdN_a (hc H (fun c hc => by simp [hc])), WKt, mem, drewV]
      refine cal_h (fields_spec H) ?_; rintro e w9 ⟨rfl, H⟩; simp only [ret_k]; simp only [rdN_a (hc H (fun c hc => by simp [hc])), WKt, mem, drewV]
      refine stA_h H 1 rfl hlb rfl bv_scalar fun w9 H => ?_; try simp only [rdN_a (hc H (fun c hc => by simp [hc, List.set])), WKt, mem, drewV]
      refine stA_h H 2 rfl rfl rfl (by decide) fun w9 H => ?_; try simp only [rdN_a (hc H (fun c hc => by simp [hc, List.set])), WKt, mem, drewV]
      exact dec_j2 hs hn h24 hn2 (H.to (by intro f; simp only [I, U8, U64, ptr, List.set_cons_zero, List.set_cons_succ, List.eraseIdx_cons_zero, List.eraseIdx_cons_succ, List.map_append, List.map_cons, List.map_nil, List.sum_append, List.sum_cons, List.sum_nil]; omega))
theorem Decode_spec (hs : RdL w0 F 1 s n (bv xs)) (hn : n < 2 ^ 40) (H : Hp w0 w F) : Calls Pg 20 ⟨[s]⟩ w (DecPost w0 F xs) := by
  have hl : xs.length = n := by have := hs.length; rw [bv_length] at this; omega
  apply F20_calls
  unfold F20
  refine al_h H (z := zfrm) (by kernel_rfl) fun w1 x2 H1 => ?_
  simp only [lenS_rdL hs, WKt, mem, drewV]
  have bad : xs.length < 24 ∨ 4120 < xs.length → (pv (bldO [I 0, .bool false, I 0, I 0, .slice none 0 0] []) fun v => stN 5 (ptr x2 0) v fun _ => ldN 5 (ptr x2 0) fun v36 => DecPost w0 F xs (.returned (.tuple ⟨[v36, I 12]⟩))) w1 := by
    intro h
    refine dec_bad (L := []) (l0 := zfrm) rfl ?_ H1
    unfold decE; rw [if_pos (by rcases h with h | h; exact .inl h; exact .inr (.inl h))]
  by_cases h1 : (n : Int) < 24
  · simp only [decide_eq_true h1, WKt, mem, drewV]
    exact bad (by omega)
  · simp only [decide_eq_false h1, lenS_rdL hs, WKt, mem, drewV]
    by_cases h2 : (4120 : Int) < n
    · simp only [decide_eq_true h2, WKt, mem, drewV]
      exact bad (by omega)
    · simp only [decide_eq_false h2, WKt, mem, drewV]
      exact dec_j1 hs hl (by omega) (by omega) H1
end
end Go.Proofs.Ytmnpndgmfmjfhaa.Den
end

section
set_option linter.unusedVariables false
set_option linter.unusedSimpArgs false
set_option maxRecDepth 8000
namespace Go.Proofs.Ytmnpndgmfmjfhaa.Den
open Go Go.RowKit
section
variable {w : World} {w0 : Base} {F L : List Chunk} {R : ER} {s : Value} {n b : Nat} {xs : List Int}
theorem RdL.rd' {sz m : Nat} {s : Value} {ys : List Value} (h : RdL w0 F sz s m ys) (H : Hp w0 w L) (hs : ∀ c ∈ F, c ∈ L) : Rd w sz s m ys := (h.mono hs).rd H
theorem rd1_a {G : WP} {a : Addr} {v : Value} (h : w.cell? a = some v) : rd1 (.pointer (some a)) v G w = G w := by
  unfold rd1; simp only [h, true_and]
theorem ld1_a {K : VK} {a : Addr} {v : Value} (h : w.cell? a = some v) (k : K v w) : ld1 (.pointer (some a)) K w := by
  simp only [ld1, h]; exact k
/-- An element of a slice of bytes. -/
theorem el1 {i : Nat} {X : Int} (hs : RdL w0 F 1 s n (bv xs)) (hX : X = (i : Int)) (hi : i < n) : ∃ a, ixS 1 s (I X) = some (.pointer (some a)) ∧ ∀ {w : World} {L : List Chunk}, Hp w0 w L → (∀ c ∈ F, c ∈ L) → w.cell? a = some (U8 (xs.getD i 0)) := by
  subst hX
  have hl := hs.length
  rw [bv_length] at hl
  have hsl : ∃ a c, s = .slice (some a) n c := by
    rcases hs with (⟨c, rfl, h0, _⟩ | ⟨a, c, rfl, _, h⟩) | ⟨b, o, c, el, l, rfl, hmc, hm, hle, _⟩
    · omega
    · exact ⟨a, c, rfl⟩
    · exact ⟨_, c, rfl⟩
  obtain ⟨a, c, rfl⟩ := hsl
  refine ⟨a.add (i * 1), by simp only [ixS]; rw [if_pos (by omega)]; simp, fun {w L} H hL => ?_⟩
  obtain ⟨a', h1, h2⟩ := (hs.rd' H hL).at hi (by omega) (k := .i64)
  have h3 : ixS 1 (.slice (some a) n c) (.int .i64 (i : Int)) = some (.pointer (some (a.add (i * 1)))) := by simp only [ixS]; rw [if_pos (by omega)]; simp
  rw [h3] at h1
  injection h1 with h1; injection h1 with h1; injection h1 with h1; subst h1
  have := h2 0 (by omega)
  rw [add_add, Nat.add_zero] at this
  rw [this, Nat.mul_one]
  exact bv_getD (by omega)
theorem rdec_bad {x2 : Nat} {L : List Chunk} {l0 : List Value} (hl0 : l0.length = 5) (hb : decE xs = 12) (H : Hp w0 w (⟨x2, 52, l0⟩ :: (L ++ F))) :
    (pv (bldO [I 0, .bool false, I 0, I 0, .slice none 0 0] []) fun v => stN 5 (ptr x2 0) v fun _ => ldN 5 (ptr x2 0) fun v36 => DecPost w0 F xs (.returned (.tuple ⟨[v36, I 12]⟩))) w := by
  simp only [bld0, WKt, mem, drewV]
  refine stA_h H 0 rfl rfl hl0 (by decide) fun w3 H3 => ?_
  refine ldA_h H3 0 rfl rfl ?_
  refine ⟨0, false, 0, 0, .slice none 0 0, 0, [], [], by rw [hb]; rfl, H3.to (by intro f; simp only [I, U8, U64, ptr, List.set_cons_zero, List.set_cons_succ, List.eraseIdx_cons_zero, List.eraseIdx_cons_succ, List.map_append, List.map_cons, List.map_nil, List.sum_append, List.sum_cons, List.sum_nil]; omega), Sl.nil, fun _ => ⟨rfl, rfl, rfl, rfl, rfl, rfl, rfl⟩, fun h => ?_⟩
  rw [hb] at h; exact absurd h (by decide)
theorem rdec_j6 {x2 x6 : Nat} {s' : Value} {k m f : Int} {last : Bool} {cs : List Chunk} {q : Bool} (hn : xs.length = n) (h24 : 24 ≤ n) (hn2 : n ≤ 4120) (hok : dOk xs)
    (hk : k = dK xs) (hl : last = decide (dB xs = 1)) (hm : m = dM xs) (hf : f = dF xs) (hc : Sl 5 1 s' (n - 24) (bv (xs.drop 24)) cs) (hq : q = true ↔ dS xs ≠ digI (xs.take 16 ++ xs.drop 24))
    (H : Hp w0 w (⟨x6, 52, frm k last m f s'⟩ :: ⟨x2, 52, zfrm⟩ :: (cs ++ F))) : F22_j6 (DecPost w0 F xs) (ptr x2 0) (ptr x6 0) (.bool q) w := by
  have he : ¬ (xs.length < 24 ∨ 4120 < xs.length ∨ ¬ dOk xs) := by
    rintro (h | h | h)
    · omega
    · omega
    · exact h hok
  unfold F22_j6 F22_j4
  cases hv : q with
  | true =>
    have e6 : decE xs = 6 := by unfold decE; rw [if_neg he, if_pos (hq.1 hv)]
    simp only [bld0, WKt, mem, drewV]
    refine stA_h H 1 rfl rfl rfl (by decide) fun w3 H3 => ?_
    refine ldA_h H3 1 rfl rfl ?_
    refine ⟨0, false, 0, 0, .slice none 0 0, 0, [], [], by rw [e6]; rfl, H3.to (by intro f; simp only [I, U8, U64, ptr, List.set_cons_zero, List.set_cons_succ, List.eraseIdx_cons_zero, List.eraseIdx_cons_succ, List.map_append, List.map_cons, List.map_nil, List.sum_append, List.sum_cons, List.sum_nil]; omega), Sl.nil, fun _ => ⟨rfl, rfl, rfl, rfl, rfl, rfl, rfl⟩, fun h => ?_⟩
    rw [e6] at h; exact absurd h (by decide)
  | false =>
    have e0 : decE xs = 0 := by unfold decE; rw [if_neg he, if_neg (fun h => by have := hq.2 h; rw [hv] at this; cases this)]
    simp only [WKt, mem, drewV]
    refine ldA_h H 0 rfl rfl ?_
    refine stA_h H 1 rfl rfl rfl (frm_scalar (sl_scalar hc)) fun w3 H3 => ?_
    refine ldA_h H3 1 rfl rfl ?_
    refine ⟨k, last, m, f, s', n - 24, _, cs, by rw [e0], H3.to (by intro f; simp only [I, U8, U64, ptr, List.set_cons_zero, List.set_cons_succ, List.eraseIdx_cons_zero, List.eraseIdx_cons_succ, List.map_append, List.map_cons, List.map_nil, List.sum_append, List.sum_cons, List.sum_nil]; omega), hc, fun h => absurd e0 h, fun _ => ⟨hk, hl, hm, hf, by omega, rfl⟩⟩
theorem rdec_j5 {x2 x6 : Nat} {s' : Value} {k m f : Int} {last : Bool} {cs : List Chunk} (hs : RdL w0 F 1 s n (bv xs)) (hn : xs.length = n) (h24 : 24 ≤ n) (hn2 : n ≤ 4120) (hok : dOk xs)
    (hk : k = dK xs) (hl : last = decide (dB xs = 1)) (hm : m = dM xs) (hf : f = dF xs) (hc : Sl 5 1 s' (n - 24) (bv (xs.drop 24)) cs)
    (H : Hp w0 w (⟨x6, 52, frm k last m f s'⟩ :: ⟨x2, 52, zfrm⟩ :: (cs ++ F))) : F22_j5 (DecPost w0 F xs) s (ptr x2 0) (ptr x6 0) w := by
  obtain ⟨s5, e5, g5, _⟩ := slS_rd (lo := 16) (hi := 24) (X := 16) (Y := 24) hs rfl rfl (by omega) (by omega) h24
  obtain ⟨s6, e6, g6, _⟩ := slS_to (hi := 16) (Y := 16) hs rfl (by omega) (by omega)
  obtain ⟨s7, e7, g7, _⟩ := slS_from (lo := 24) (X := 24) hs rfl (by omega) h24
  unfold F22_j5
  simp only [e5, e6, e7, WKt, mem, drewV]
  have H0 := H.drew
  have tail : ∀ {w : World} {s8 : Value} {cs8 : List Chunk}, Hp w0 w (cs8 ++ (⟨x6, 52, frm k last m f s'⟩ :: ⟨x2, 52, zfrm⟩ :: (cs ++ F))) → Sl 5 1 s8 0 (bv []) cs8 →
      (blt Pg noR .append ⟨[24, 24]⟩ 24 ⟨[false, false]⟩ ⟨[s8, s6]⟩ fun v12 => blt Pg noR .append ⟨[24, 24]⟩ 24 ⟨[false, false]⟩ ⟨[v12, s7]⟩ fun v14 => cal Pg noR 44 ⟨[v14]⟩ fun v16 =>
        pv (bin .neq (U64 (getI ((xs.drop 16).take (24 - 16)))) v16) fun v18 => F22_j6 (DecPost w0 F xs) (ptr x2 0) (ptr x6 0) v18) w := by
    intro w s8 cs8 H h8
    refine appB H h8 (g6.mono (fun c hc => by simp [hc])) (by omega) fun w1 s1 cs1 H1 h1 => ?_
    refine appB H1 h1 (g7.mono (fun c hc => by simp [hc])) (by omega) fun w2 s2 cs2 H2 h2 => ?_
    refine cal_h (rdig_spec ((h2.rdL (L := cs2 ++ (⟨x6, 52, frm k last m f s'⟩ :: ⟨x2, 52, zfrm⟩ :: (cs ++ F))) (fun c hc => by simp [hc])).rd H2) (by omega)) ?_
    rintro e w9 ⟨rfl, rfl⟩
    simp only [WKt, mem, drewV]
    exact rdec_j6 hn h24 hn2 hok hk hl hm hf hc (by rw [decide_eq_true_iff]; exact Iff.rfl) (H2.to (by intro f; simp only [I, U8, U64, ptr, List.set_cons_zero, List.set_cons_succ, List.eraseIdx_cons_zero, List.eraseIdx_cons_succ, List.map_append, List.map_cons, List.map_nil, List.sum_append, List.sum_cons, List.sum_nil]; omega))
  refine allW2 ?_ ?_
  · refine cal_h (rget_spec (g5.rd' H0 (fun c hc => by simp [hc])) (by omega)) ?_
    rintro e w9 ⟨rfl, rfl⟩
    simp only [ret_k]
    refine lit0_h elT24 H0 fun w1 s8 H1 h8 => ?_
    exact tail (cs8 := []) H1 h8
  · refine lit0_h elT24 H0 fun w1 s8 H1 h8 => ?_
    refine cal_h (rget_spec (g5.rd' H1 (fun c hc => by simp [hc])) (by omega)) ?_
    rintro e w9 ⟨rfl, rfl⟩
    simp only [ret_k]
    exact tail (cs8 := []) H1 h8
theorem rdec_j2 {x2 x6 : Nat} {s' : Value} {k m f : Int} {last : Bool} {cs : List Chunk} (hs : RdL w0 F 1 s n (bv xs)) (hn : xs.length = n) (h24 : 24 ≤ n) (hn2 : n ≤ 4120) (hL : dL xs = (xs.length : Int) - 24) (hby : 0 ≤ dB xs)
    (hk : k = dK xs) (hl : last = decide (dB xs = 1)) (hm : m = dM xs) (hf : f = dF xs) (hc : Sl 5 1 s' (n - 24) (bv (xs.drop 24)) cs)
    (H : Hp w0 w (⟨x6, 52, frm k last m f s'⟩ :: ⟨x2, 52, zfrm⟩ :: (cs ++ F))) : F22_j2 (DecPost w0 F xs) s (ptr x2 0) (ptr x6 0) w := by
  unfold F22_j2 F22_j7
  obtain ⟨a1, ea1, ca1⟩ := el1 (i := 1) (X := 1) hs rfl (by omega)
  have hb12 : ¬ dOk xs → decE xs = 12 := fun h => by unfold decE; rw [if_pos (.inr (.inr h))]
  have bad : ¬ dOk xs → (pv (bldO [I 0, .bool false, I 0, I 0, .slice none 0 0] []) fun v => stN 5 (ptr x2 0) v fun _ => ldN 5 (ptr x2 0) fun v36 => DecPost w0 F xs (.returned (.tuple ⟨[v36, I 12]⟩))) w := by
    intro h
    exact rdec_bad (L := ⟨x6, 52, frm k last m f s'⟩ :: cs) (l0 := zfrm) rfl (hb12 h) (H.to (by intro f; simp only [I, U8, U64, ptr, List.set_cons_zero, List.set_cons_succ, List.eraseIdx_cons_zero, List.eraseIdx_cons_succ, List.map_append, List.map_cons, List.map_nil, List.sum_append, List.sum_cons, List.sum_nil]; omega))
  -- the numbers
  have p4 : (dK xs = 1 ∨ dK xs = 2 ∧ dB xs = 0 ∧ xs.length = 24) → dB xs ≤ 1 → ∀ {x : Value}, x = .bool false →
      (gd x false (pv (faO 2 (ptr x6 0))) fun v56 => gd x false (ld1 v56) fun v57 => gd x false (pv (bin .lss v57 (I 1))) fun v58 => pv (pickO x (.bool true) v58) fun v59 =>
        gd v59 false (pv (faO 3 (ptr x6 0))) fun v60 => gd v59 false (ld1 v60) fun v61 => gd v59 false (pv (bin .gtr v61 (I 2147483647))) fun v62 => pv (pickO v59 (.bool true) v62) fun v63 =>
        cnd v63 (pv (bldO [I 0, .bool false, I 0, I 0, .slice none 0 0] []) fun v64 => stN 5 (ptr x2 0) v64 fun _ => ldN 5 (ptr x2 0) fun v65 => DecPost w0 F xs (.returned (.tuple ⟨[v65, I 12]⟩)))
          (F22_j3 (DecPost w0 F xs) s (ptr x2 0) (ptr x6 0))) w := by
    rintro h1 h2 x rfl
    simp only [WKt, mem, drewV]
    refine ld_h H 0 rfl rfl ?_
    by_cases h3 : m < 1
    · simp only [decide_eq_true h3, WKt, mem, drewV]
      exact bad (fun h => by have := h.2.2.2.1; omega)
    · simp only [decide_eq_false h3, WKt, mem, drewV]
      refine ld_h H 0 rfl rfl ?_
      by_cases h4 : 2147483647 < f
      · simp only [decide_eq_true h4, WKt, mem, drewV]
        exact bad (fun h => by have := h.2.2.2.2; omega)
      · simp only [decide_eq_false h4, WKt, mem, drewV]
        unfold F22_j3
        exact rdec_j5 hs hn h24 hn2 ⟨h1, h2, hL, by omega, by omega⟩ hk hl hm hf hc H
  simp only [WKt, mem, drewV]
  refine ld_h H 0 rfl rfl ?_
  -- the kind, as both ways have it
  have kind : ∀ {x : Bool}, (x = true ↔ k ≠ 1 ∧ k ≠ 2) →
      (gd (.bool x) false (pv (some s)) fun v37 => gd (.bool x) false (pv (ixS 1 v37 (I 1))) fun v38 => gd (.bool x) false (ld1 v38) fun v39 => gd (.bool x) false (pv (bin .gtr v39 (U8 1))) fun v40 =>
        pv (pickO (.bool x) (.bool true) v40) fun v41 =>
        gd v41 false (pv (faO 0 (ptr x6 0))) fun v42 => gd v41 false (ld1 v42) fun v43 => gd v41 false (pv (bin .eql v43 (I 2))) fun v44 => gd v41 false (pv (some v44)) fun v45 =>
        gd v45 true (pv (faO 1 (ptr x6 0))) fun v46 => gd v45 true (ld1 v46) fun v47 => gd v45 true (pv (some v47)) fun v48 =>
        gd v48 false (pv (faO 4 (ptr x6 0))) fun v49 => gd v48 false (ld1 v49) fun v50 => gd v48 false (pv (lenS v50)) fun v51 => gd v48 false (pv (bin .gtr v51 (I 0))) fun v52 =>
        gd v45 true (pv (pickO v48 (.bool true) v52)) fun v53 => gd v41 false (pv (pickO v45 v53 (.bool false))) fun v54 => pv (pickO v41 (.bool true) v54) fun x =>
        gd x false (pv (faO 2 (ptr x6 0))) fun v56 => gd x false (ld1 v56) fun v57 => gd x false (pv (bin .lss v57 (I 1))) fun v58 => pv (pickO x (.bool true) v58) fun v59 =>
        gd v59 false (pv (faO 3 (ptr x6 0))) fun v60 => gd v59 false (ld1 v60) fun v61 => gd v59 false (pv (bin .gtr v61 (I 2147483647))) fun v62 => pv (pickO v59 (.bool true) v62) fun v63 =>
        cnd v63 (pv (bldO [I 0, .bool false, I 0, I 0, .slice none 0 0] []) fun v64 => stN 5 (ptr x2 0) v64 fun _ => ldN 5 (ptr x2 0) fun v65 => DecPost w0 F xs (.returned (.tuple ⟨[v65, I 12]⟩)))
          (F22_j3 (DecPost w0 F xs) s (ptr x2 0) (ptr x6 0))) w := by
    intro x hx
    cases hv : x with
    | true =>
      simp only [WKt, mem, drewV]
      exact bad (fun h => by have := hx.1 hv; have := h.1; omega)
    | false =>
      have hk2 : k = 1 ∨ k = 2 := by
        by_cases h1 : k = 1
        · exact .inl h1
        · by_cases h2 : k = 2
          · exact .inr h2
          · have := hx.2 ⟨h1, h2⟩; rw [hv] at this; cases this
      simp only [ea1, WKt, mem, drewV]
      refine ld1_a (ca1 H (fun c hc => by simp [hc])) ?_
      simp only [WKt, mem, drewV]
      by_cases hb : 1 < dB xs
      · simp only [show decide (1 < xs.getD 1 0) = true from decide_eq_true hb, WKt, mem, drewV]
        exact bad (fun h => by have := h.2.1; omega)
      · simp only [show decide (1 < xs.getD 1 0) = false from decide_eq_false hb, WKt, mem, drewV]
        refine ld_h H 0 rfl rfl ?_
        by_cases h2 : k = 2
        · simp only [decide_eq_true h2, WKt, mem, drewV]
          refine ld_h H 0 rfl rfl ?_
          by_cases hb1 : dB xs = 1
          · have hlt : last = true := by rw [hl]; exact decide_eq_true hb1
            simp only [hlt, WKt, mem, drewV]
            exact bad (fun h => by have := h.1; omega)
          · have hlt : last = false := by rw [hl]; exact decide_eq_false hb1
            simp only [hlt, WKt, mem, drewV]
            refine ld_h H 0 rfl rfl ?_
            simp only [lenS_sl hc, WKt, mem, drewV]
            by_cases h0 : n = 24
            · simp only [show decide ((0 : Int) < ((n - 24 : Nat) : Int)) = false from decide_eq_false (by omega), WKt, mem, drewV]
              have q := p4 (.inr ⟨by omega, by omega, by omega⟩) (by omega) (x := .bool false) rfl
              simp only [WKt, mem, drewV] at q
              exact q
            · simp only [show decide ((0 : Int) < ((n - 24 : Nat) : Int)) = true from decide_eq_true (by omega), WKt, mem, drewV]
              exact bad (fun h => by have := h.1; omega)
        · simp only [decide_eq_false h2, WKt, mem, drewV]
          have q := p4 (.inl (by omega)) (by omega) (x := .bool false) rfl
          simp only [WKt, mem, drewV] at q
          exact q
  by_cases h1 : k = 1
  · simp only [show decide (k ≠ 1) = false from decide_eq_false (by omega), WKt, mem, drewV]
    have q := kind (x := false) (by simp; omega)
    simp only [WKt, mem, drewV] at q
    exact q
  · simp only [show decide (k ≠ 1) = true from decide_eq_true (by omega), WKt, mem, drewV]
    refine ld_h H 0 rfl rfl ?_
    by_cases h2 : k = 2
    · simp only [show decide (k ≠ 2) = false from decide_eq_false (by omega), WKt, mem, drewV]
      have q := kind (x := false) (by simp; omega)
      simp only [WKt, mem, drewV] at q
      exact q
    · simp only [show decide (k ≠ 2) = true from decide_eq_true (by omega), WKt, mem, drewV]
      have q := kind (x := true) (by simp; omega)
      simp only [WKt, mem, drewV] at q
      exact q
set_option maxHeartbeats 2000000 in
theorem rdec_j1 {x2 : Nat} (hs : RdL w0 F 1 s n (bv xs)) (hn : xs.length = n) (h24 : 24 ≤ n) (hn2 : n ≤ 4120) (hL : dL xs = (xs.length : Int) - 24) (hby : 0 ≤ dB xs)
    (H0 : Hp w0 w (⟨x2, 52, zfrm⟩ :: F)) : F22_j1 (DecPost w0 F xs) s (ptr x2 0) w := by
  obtain ⟨a0, ea0, v0⟩ := el1 (i := 0) (X := 0) hs rfl (by omega)
  obtain ⟨a1, ea1, v1⟩ := el1 (i := 1) (X := 1) hs rfl (by omega)
  obtain ⟨sa, esa, ga, _⟩ := slS_rd (lo := 4) (hi := 12) (X := 4) (Y := 12) hs rfl rfl (by omega) (by omega) (by omega)
  obtain ⟨sb, esb, gb, _⟩ := slS_rd (lo := 12) (hi := 16) (X := 12) (Y := 16) hs rfl rfl (by omega) (by omega) (by omega)
  obtain ⟨sd, esd, gd, _⟩ := slS_from (lo := 24) (X := 24) hs rfl (by omega) h24
  have H := H0.drew
  unfold F22_j1
  simp only [ea0, ea1, esa, esb, esd, WKt, mem, drewV]
  refine ld1_a (v0 H (fun c hc => by simp [hc])) ?_
  simp only [cvI64, WKt, mem, drewV]
  refine ld1_a (v1 H (fun c hc => by simp [hc])) ?_
  simp only [WKt, mem, drewV]
  refine allW3 ?_ ?_ ?_
  · refine cal_h (rget_spec (ga.rd' H (fun c hc => by simp [hc])) (by omega)) ?_; rintro e w9 ⟨rfl, rfl⟩; simp only [ret_k]; try simp only [rd1_a (v0 H (fun c hc => by simp [hc])), rd1_a (v1 H (fun c hc => by simp [hc])), cvI64, WKt, mem, drewV]
    refine allW3 ?_ ?_ ?_
    · refine cal_h (rget_spec (gb.rd' H (fun c hc => by simp [hc])) (by omega)) ?_; rintro e w9 ⟨rfl, rfl⟩; simp only [ret_k]; try simp only [rd1_a (v0 H (fun c hc => by simp [hc])), rd1_a (v1 H (fun c hc => by simp [hc])), cvI64, WKt, mem, drewV]
      refine allW2 ?_ ?_
      · refine lit0c_h elT24 H fun w9 cb H hc => ?_; replace H := H.rot1; try simp only [rd1_a (v0 H (fun c hc => by simp [hc])), rd1_a (v1 H (fun c hc => by simp [hc])), cvI64, WKt, mem, drewV]
        refine allW2 ?_ ?_
        · replace H := H.pull (i := 1) rfl; refine append_h' (cs := [⟨cb, 5, []⟩]) elT24 H hc (gd.mono (fun c hc => by simp [hc])) bv_scalar (by omega) (by omega) fun w9 s' cs' H hc h1 => ?_
          rcases h1 with ⟨h1, _⟩ | ⟨⟨c1, c2, c3⟩, rfl⟩
          · cases h1
          replace H := H.rot1; rw [Nat.zero_add] at hc; simp only [bldF (sl_cells hc)]; try simp only [rd1_a (v0 H (fun c hc => by simp [hc])), rd1_a (v1 H (fun c hc => by simp [hc])), cvI64, WKt, mem, drewV]
          refine al_h H (z := zfrm) (by kernel_rfl) fun w9 x6 H => ?_; replace H := H.rot1; try simp only [rd1_a (v0 H (fun c hc => by simp [hc])), rd1_a (v1 H (fun c hc => by simp [hc])), cvI64, WKt, mem, drewV]
          refine stA_h H 1 rfl rfl rfl (frm_scalar (sl_scalar hc)) fun w9 H => ?_; try simp only [rd1_a (v0 H (fun c hc => by simp [hc])), rd1_a (v1 H (fun c hc => by simp [hc])), cvI64, WKt, mem, drewV]
          exact rdec_j2 (k := i64 (xs.getD 0 0)) (last := decide (xs.getD 1 0 = 1)) (m := i64 (getI ((xs.drop 4).take (12 - 4)))) (f := i64 (getI ((xs.drop 12).take (16 - 12)))) hs hn h24 hn2 hL hby rfl rfl rfl rfl hc (H.to (by intro f; simp only [I, U8, U64, ptr, List.set_cons_zero, List.set_cons_succ, List.eraseIdx_cons_zero, List.eraseIdx_cons_succ, List.map_append, List.map_cons, List.map_nil, List.sum_append, List.sum_cons, List.sum_nil]; omega))
        · refine al_h H (z := zfrm) (by kernel_rfl) fun w9 x6 H => ?_; replace H := H.rot1; try simp only [rd1_a (v0 H (fun c hc => by simp [hc])), rd1_a (v1 H (fun c hc => by simp [hc])), cvI64, WKt, mem, drewV]
          replace H := H.pull (i := 2) rfl; refine append_h' (cs := [⟨cb, 5, []⟩]) elT24 H hc (gd.mono (fun c hc => by simp [hc])) bv_scalar (by omega) (by omega) fun w9 s' cs' H hc h1 => ?_
          rcases h1 with ⟨h1, _⟩ | ⟨⟨c1, c2, c3⟩, rfl⟩
          · cases h1
          replace H := H.rot1; rw [Nat.zero_add] at hc; simp only [bldF (sl_cells hc)]; try simp only [rd1_a (v0 H (fun c hc => by simp [hc])), rd1_a (v1 H (fun c hc => by simp [hc])), cvI64, WKt, mem, drewV]
          refine stA_h H 2 rfl rfl rfl (frm_scalar (sl_scalar hc)) fun w9 H => ?_; try simp only [rd1_a (v0 H (fun c hc => by simp [hc])), rd1_a (v1 H (fun c hc => by simp [hc])), cvI64, WKt, mem, drewV]
          exact rdec_j2 (k := i64 (xs.getD 0 0)) (last := decide (xs.getD 1 0 = 1)) (m := i64 (getI ((xs.drop 4).take (12 - 4)))) (f := i64 (getI ((xs.drop 12).take (16 - 12)))) hs hn h24 hn2 hL hby rfl rfl rfl rfl hc (H.to (by intro f; simp only [I, U8, U64, ptr, List.set_cons_zero, List.set_cons_succ, List.eraseIdx_cons_zero, List.eraseIdx_cons_succ, List.map_append, List.map_cons, List.map_nil, List.sum_append, List.sum_cons, List.sum_nil]; omega))
      · refine al_h H (z := zfrm) (by kernel_rfl) fun w9 x6 H => ?_; replace H := H.rot1; try simp only [rd1_a (v0 H (fun c hc => by simp [hc])), rd1_a (v1 H (fun c hc => by simp [hc])), cvI64, WKt, mem, drewV]
        refine lit0c_h elT24 H fun w9 cb H hc => ?_; replace H := H.rot1; try simp only [rd1_a (v0 H (fun c hc => by simp [hc])), rd1_a (v1 H (fun c hc => by simp [hc])), cvI64, WKt, mem, drewV]
        replace H := H.pull (i := 1) rfl; refine append_h' (cs := [⟨cb, 5, []⟩]) elT24 H hc (gd.mono (fun c hc => by simp [hc])) bv_scalar (by omega) (by omega) fun w9 s' cs' H hc h1 => ?_
        rcases h1 with ⟨h1, _⟩ | ⟨⟨c1, c2, c3⟩, rfl⟩
        · cases h1
        replace H := H.rot1; rw [Nat.zero_add] at hc; simp only [bldF (sl_cells hc)]; try simp only [rd1_a (v0 H (fun c hc => by simp [hc])), rd1_a (v1 H (fun c hc => by simp [hc])), cvI64, WKt, mem, drewV]
        refine stA_h H 2 rfl rfl rfl (frm_scalar (sl_scalar hc)) fun w9 H => ?_; try simp only [rd1_a (v0 H (fun c hc => by simp [hc])), rd1_a (v1 H (fun c hc => by simp [hc])), cvI64, WKt, mem, drewV]
        exact rdec_j2 (k := i64 (xs.getD 0 0)) (last := decide (xs.getD 1 0 = 1)) (m := i64 (getI ((xs.drop 4).take (12 - 4)))) (f := i64 (getI ((xs.drop 12).take (16 - 12)))) hs hn h24 hn2 hL hby rfl rfl rfl rfl hc (H.to (by intro f; simp only [I, U8, U64, ptr, List.set_cons_zero, List.set_cons_succ, List.eraseIdx_cons_zero, List.eraseIdx_cons_succ, List.map_append, List.map_cons, List.map_nil, List.sum_append, List.sum_cons, List.sum_nil]; omega))
    · refine lit0c_h elT24 H fun w9 cb H hc => ?_; replace H := H.rot1; try simp only [rd1_a (v0 H (fun c hc => by simp [hc])), rd1_a (v1 H (fun c hc => by simp [hc])), cvI64, WKt, mem, drewV]
      refine allW2 ?_ ?_
      · refine cal_h (rget_spec (gb.rd' H (fun c hc => by simp [hc])) (by omega)) ?_; rintro e w9 ⟨rfl, rfl⟩; simp only [ret_k]; try simp only [rd1_a (v0 H (fun c hc => by simp [hc])), rd1_a (v1 H (fun c hc => by simp [hc])), cvI64, WKt, mem, drewV]
        refine allW2 ?_ ?_
        · replace H := H.pull (i := 1) rfl; refine append_h' (cs := [⟨cb, 5, []⟩]) elT24 H hc (gd.mono (fun c hc => by simp [hc])) bv_scalar (by omega) (by omega) fun w9 s' cs' H hc h1 => ?_
          rcases h1 with ⟨h1, _⟩ | ⟨⟨c1, c2, c3⟩, rfl⟩
          · cases h1
          replace H := H.rot1; rw [Nat.zero_add] at hc; simp only [bldF (sl_cells hc)]; try simp only [rd1_a (v0 H (fun c hc => by simp [hc])), rd1_a (v1 H (fun c hc => by simp [hc])), cvI64, WKt, mem, drewV]
          refine al_h H (z := zfrm) (by kernel_rfl) fun w9 x6 H => ?_; replace H := H.rot1; try simp only [rd1_a (v0 H (fun c hc => by simp [hc])), rd1_a (v1 H (fun c hc => by simp [hc])), cvI64, WKt, mem, drewV]
          refine stA_h H 1 rfl rfl rfl (frm_scalar (sl_scalar hc)) fun w9 H => ?_; try simp only [rd1_a (v0 H (fun c hc => by simp [hc])), rd1_a (v1 H (fun c hc => by simp [hc])), cvI64, WKt, mem, drewV]
          exact rdec_j2 (k := i64 (xs.getD 0 0)) (last := decide (xs.getD 1 0 = 1)) (m := i64 (getI ((xs.drop 4).take (12 - 4)))) (f := i64 (getI ((xs.drop 12).take (16 - 12)))) hs hn h24 hn2 hL hby rfl rfl rfl rfl hc (H.to (by intro f; simp only [I, U8, U64, ptr, List.set_cons_zero, List.set_cons_succ, List.eraseIdx_cons_zero, List.eraseIdx_cons_succ, List.map_append, List.map_cons, List.map_nil, List.sum_append, List.sum_cons, List.sum_nil]; omega))
        · refine al_h H (z := zfrm) (by kernel_rfl) fun w9 x6 H => ?_; replace H := H.rot1; try simp only [rd1_a (v0 H (fun c hc => by simp [hc])), rd1_a (v1 H (fun c hc => by simp [hc])), cvI64, WKt, mem, drewV]
          replace H := H.pull (i := 2) rfl; refine append_h' (cs := [⟨cb, 5, []⟩]) elT24 H hc (gd.mono (fun c hc => by simp [hc])) bv_scalar (by omega) (by omega) fun w9 s' cs' H hc h1 => ?_
          rcases h1 with ⟨h1, _⟩ | ⟨⟨c1, c2, c3⟩, rfl⟩
          · cases h1
          replace H := H.rot1; rw [Nat.zero_add] at hc; simp only [bldF (sl_cells hc)]; try simp only [rd1_a (v0 H (fun c hc => by simp [hc])), rd1_a (v1 H (fun c hc => by simp [hc])), cvI64, WKt, mem, drewV]
          refine stA_h H 2 rfl rfl rfl (frm_scalar (sl_scalar hc)) fun w9 H => ?_; try simp only [rd1_a (v0 H (fun c hc => by simp [hc])), rd1_a (v1 H (fun c hc => by simp [hc])), cvI64, WKt, mem, drewV]
          exact rdec_j2 (k := i64 (xs.getD 0 0)) (last := decide (xs.getD 1 0 = 1)) (m := i64 (getI ((xs.drop 4).take (12 - 4)))) (f := i64 (getI ((xs.drop 12).take (16 - 12)))) hs hn h24 hn2 hL hby rfl rfl rfl rfl hc (H.to (by intro f; simp only [I, U8, U64, ptr, List.set_cons_zero, List.set_cons_succ, List.eraseIdx_cons_zero, List.eraseIdx_cons_succ, List.map_append, List.map_cons, List.map_nil, List.sum_append, List.sum_cons, List.sum_nil]; omega))
      · refine al_h H (z := zfrm) (by kernel_rfl) fun w9 x6 H => ?_; replace H := H.rot1; try simp only [rd1_a (v0 H (fun c hc => by simp [hc])), rd1_a (v1 H (fun c hc => by simp [hc])), cvI64, WKt, mem, drewV]
        refine cal_h (rget_spec (gb.rd' H (fun c hc => by simp [hc])) (by omega)) ?_; rintro e w9 ⟨rfl, rfl⟩; simp only [ret_k]; try simp only [rd1_a (v0 H (fun c hc => by simp [hc])), rd1_a (v1 H (fun c hc => by simp [hc])), cvI64, WKt, mem, drewV]
        replace H := H.pull (i := 2) rfl; refine append_h' (cs := [⟨cb, 5, []⟩]) elT24 H hc (gd.mono (fun c hc => by simp [hc])) bv_scalar (by omega) (by omega) fun w9 s' cs' H hc h1 => ?_
        rcases h1 with ⟨h1, _⟩ | ⟨⟨c1, c2, c3⟩, rfl⟩
        · cases h1
        replace H := H.rot1; rw [Nat.zero_add] at hc; simp only [bldF (sl_cells hc)]; try simp only [rd1_a (v0 H (fun c hc => by simp [hc])), rd1_a (v1 H (fun c hc => by simp [hc])), cvI64, WKt, mem, drewV]
        refine stA_h H 2 rfl rfl rfl (frm_scalar (sl_scalar hc)) fun w9 H => ?_; try simp only [rd1_a (v0 H (fun c hc => by simp [hc])), rd1_a (v1 H (fun c hc => by simp [hc])), cvI64, WKt, mem, drewV]
        exact rdec_j2 (k := i64 (xs.getD 0 0)) (last := decide (xs.getD 1 0 = 1)) (m := i64 (getI ((xs.drop 4).take (12 - 4)))) (f := i64 (getI ((xs.drop 12).take (16 - 12)))) hs hn h24 hn2 hL hby rfl rfl rfl rfl hc (H.to (by intro f; simp only [I, U8, U64, ptr, List.set_cons_zero, List.set_cons_succ, List.eraseIdx_cons_zero, List.eraseIdx_cons_succ, List.map_append, List.map_cons, List.map_nil, List.sum_append, List.sum_cons, List.sum_nil]; omega))
    · refine al_h H (z := zfrm) (by kernel_rfl) fun w9 x6 H => ?_; replace H := H.rot1; try simp only [rd1_a (v0 H (fun c hc => by simp [hc])), rd1_a (v1 H (fun c hc => by simp [hc])), cvI64, WKt, mem, drewV]
      refine allW2 ?_ ?_
      · refine cal_h (rget_spec (gb.rd' H (fun c hc => by simp [hc])) (by omega)) ?_; rintro e w9 ⟨rfl, rfl⟩; simp only [ret_k]; try simp only [rd1_a (v0 H (fun c hc => by simp [hc])), rd1_a (v1 H (fun c hc => by simp [hc])), cvI64, WKt, mem, drewV]
        refine lit0c_h elT24 H fun w9 cb H hc => ?_; replace H := H.rot1; try simp only [rd1_a (v0 H (fun c hc => by simp [hc])), rd1_a (v1 H (fun c hc => by simp [hc])), cvI64, WKt, mem, drewV]
        replace H := H.pull (i := 1) rfl; refine append_h' (cs := [⟨cb, 5, []⟩]) elT24 H hc (gd.mono (fun c hc => by simp [hc])) bv_scalar (by omega) (by omega) fun w9 s' cs' H hc h1 => ?_
        rcases h1 with ⟨h1, _⟩ | ⟨⟨c1, c2, c3⟩, rfl⟩
        · cases h1
        replace H := H.rot1; rw [Nat.zero_add] at hc; simp only [bldF (sl_cells hc)]; try simp only [rd1_a (v0 H (fun c hc => by simp [hc])), rd1_a (v1 H (fun c hc => by simp [hc])), cvI64, WKt, mem, drewV]
        refine stA_h H 2 rfl rfl rfl (frm_scalar (sl_scalar hc)) fun w9 H => ?_; try simp only [rd1_a (v0 H (fun c hc => by simp [hc])), rd1_a (v1 H (fun c hc => by simp [hc])), cvI64, WKt, mem, drewV]
        exact rdec_j2 (k := i64 (xs.getD 0 0)) (last := decide (xs.getD 1 0 = 1)) (m := i64 (getI ((xs.drop 4).take (12 - 4)))) (f := i64 (getI ((xs.drop 12).take (16 - 12)))) hs hn h24 hn2 hL hby rfl rfl rfl rfl hc (H.to (by intro f; simp only [I, U8, U64, ptr, List.set_cons_zero, List.set_cons_succ, List.eraseIdx_cons_zero, List.eraseIdx_cons_succ, List.map_append, List.map_cons, List.map_nil, List.sum_append, List.sum_cons, List.sum_nil]; omega))
      · refine lit0c_h elT24 H fun w9 cb H hc => ?_; replace H := H.rot1; try simp only [rd1_a (v0 H (fun c hc => by simp [hc])), rd1_a (v1 H (fun c hc => by simp [hc])), cvI64, WKt, mem, drewV]
        refine cal_h (rget_spec (gb.rd' H (fun c hc => by simp [hc])) (by omega)) ?_; rintro e w9 ⟨rfl, rfl⟩; simp only [ret_k]; try simp only [rd1_a (v0 H (fun c hc => by simp [hc])), rd1_a (v1 H (fun c hc => by simp [hc])), cvI64, WKt, mem, drewV]
        replace H := H.pull (i := 1) rfl; refine append_h' (cs := [⟨cb, 5, []⟩]) elT24 H hc (gd.mono (fun c hc => by simp [hc])) bv_scalar (by omega) (by omega) fun w9 s' cs' H hc h1 => ?_
        rcases h1 with ⟨h1, _⟩ | ⟨⟨c1, c2, c3⟩, rfl⟩
        · cases h1
        replace H := H.rot1; rw [Nat.zero_add] at hc; simp only [bldF (sl_cells hc)]; try simp only [rd1_a (v0 H (fun c hc => by simp [hc])), rd1_a (v1 H (fun c hc => by simp [hc])), cvI64, WKt, mem, drewV]
        refine stA_h H 2 rfl rfl rfl (frm_scalar (sl_scalar hc)) fun w9 H => ?_; try simp only [rd1_a (v0 H (fun c hc => by simp [hc])), rd1_a (v1 H (fun c hc => by simp [hc])), cvI64, WKt, mem, drewV]
        exact rdec_j2 (k := i64 (xs.getD 0 0)) (last := decide (xs.getD 1 0 = 1)) (m := i64 (getI ((xs.drop 4).take (12 - 4)))) (f := i64 (getI ((xs.drop 12).take (16 - 12)))) hs hn h24 hn2 hL hby rfl rfl rfl rfl hc (H.to (by intro f; simp only [I, U8, U64, ptr, List.set_cons_zero, List.set_cons_succ, List.eraseIdx_cons_zero, List.eraseIdx_cons_succ, List.map_append, List.map_cons, List.map_nil, List.sum_append, List.sum_cons, List.sum_nil]; omega))
  · refine lit0c_h elT24 H fun w9 cb H hc => ?_; replace H := H.rot1; try simp only [rd1_a (v0 H (fun c hc => by simp [hc])), rd1_a (v1 H (fun c hc => by simp [hc])), cvI64, WKt, mem, drewV]
    refine allW2 ?_ ?_
    · refine cal_h (rget_spec (ga.rd' H (fun c hc => by simp [hc])) (by omega)) ?_; rintro e w9 ⟨rfl, rfl⟩; simp only [ret_k]; try simp only [rd1_a (v0 H (fun c hc => by simp [hc])), rd1_a (v1 H (fun c hc => by simp [hc])), cvI64, WKt, mem, drewV]
      refine allW2 ?_ ?_
      · refine cal_h (rget_spec (gb.rd' H (fun c hc => by simp [hc])) (by omega)) ?_; rintro e w9 ⟨rfl, rfl⟩; simp only [ret_k]; try simp only [rd1_a (v0 H (fun c hc => by simp [hc])), rd1_a (v1 H (fun c hc => by simp [hc])), cvI64, WKt, mem, drewV]
        refine allW2 ?_ ?_
        · replace H := H.pull (i := 1) rfl; refine append_h' (cs := [⟨cb, 5, []⟩]) elT24 H hc (gd.mono (fun c hc => by simp [hc])) bv_scalar (by omega) (by omega) fun w9 s' cs' H hc h1 => ?_
          rcases h1 with ⟨h1, _⟩ | ⟨⟨c1, c2, c3⟩, rfl⟩
          · cases h1
          replace H := H.rot1; rw [Nat.zero_add] at hc; simp only [bldF (sl_cells hc)]; try simp only [rd1_a (v0 H (fun c hc => by simp [hc])), rd1_a (v1 H (fun c hc => by simp [hc])), cvI64, WKt, mem, drewV]
          refine al_h H (z := zfrm) (by kernel_rfl) fun w9 x6 H => ?_; replace H := H.rot1; try simp only [rd1_a (v0 H (fun c hc => by simp [hc])), rd1_a (v1 H (fun c hc => by simp [hc])), cvI64, WKt, mem, drewV]
          refine stA_h H 1 rfl rfl rfl (frm_scalar (sl_scalar hc)) fun w9 H => ?_; try simp only [rd1_a (v0 H (fun c hc => by simp [hc])), rd1_a (v1 H (fun c hc => by simp [hc])), cvI64, WKt, mem, drewV]
          exact rdec_j2 (k := i64 (xs.getD 0 0)) (last := decide (xs.getD 1 0 = 1)) (m := i64 (getI ((xs.drop 4).take (12 - 4)))) (f := i64 (getI ((xs.drop 12).take (16 - 12)))) hs hn h24 hn2 hL hby rfl rfl rfl rfl hc (H.to (by intro f; simp only [I, U8, U64, ptr, List.set_cons_zero, List.set_cons_succ, List.eraseIdx_cons_zero, List.eraseIdx_cons_succ, List.map_append, List.map_cons, List.map_nil, List.sum_append, List.sum_cons, List.sum_nil]; omega))
        · refine al_h H (z := zfrm) (by kernel_rfl) fun w9 x6 H => ?_; replace H := H.rot1; try simp only [rd1_a (v0 H (fun c hc => by simp [hc])), rd1_a (v1 H (fun c hc => by simp [hc])), cvI64, WKt, mem, drewV]
          replace H := H.pull (i := 2) rfl; refine append_h' (cs := [⟨cb, 5, []⟩]) elT24 H hc (gd.mono (fun c hc => by simp [hc])) bv_scalar (by omega) (by omega) fun w9 s' cs' H hc h1 => ?_
          rcases h1 with ⟨h1, _⟩ | ⟨⟨c1, c2, c3⟩, rfl⟩
          · cases h1
          replace H := H.rot1; rw [Nat.zero_add] at hc; simp only [bldF (sl_cells hc)]; try simp only [rd1_a (v0 H (fun c hc => by simp [hc])), rd1_a (v1 H (fun c hc => by simp [hc])), cvI64, WKt, mem, drewV]
          refine stA_h H 2 rfl rfl rfl (frm_scalar (sl_scalar hc)) fun w9 H => ?_; try simp only [rd1_a (v0 H (fun c hc => by simp [hc])), rd1_a (v1 H (fun c hc => by simp [hc])), cvI64, WKt, mem, drewV]
          exact rdec_j2 (k := i64 (xs.getD 0 0)) (last := decide (xs.getD 1 0 = 1)) (m := i64 (getI ((xs.drop 4).take (12 - 4)))) (f := i64 (getI ((xs.drop 12).take (16 - 12)))) hs hn h24 hn2 hL hby rfl rfl rfl rfl hc (H.to (by intro f; simp only [I, U8, U64, ptr, List.set_cons_zero, List.set_cons_succ, List.eraseIdx_cons_zero, List.eraseIdx_cons_succ, List.map_append, List.map_cons, List.map_nil, List.sum_append, List.sum_cons, List.sum_nil]; omega))
      · refine al_h H (z := zfrm) (by kernel_rfl) fun w9 x6 H => ?_; replace H := H.rot1; try simp only [rd1_a (v0 H (fun c hc => by simp [hc])), rd1_a (v1 H (fun c hc => by simp [hc])), cvI64, WKt, mem, drewV]
        refine cal_h (rget_spec (gb.rd' H (fun c hc => by simp [hc])) (by omega)) ?_; rintro e w9 ⟨rfl, rfl⟩; simp only [ret_k]; try simp only [rd1_a (v0 H (fun c hc => by simp [hc])), rd1_a (v1 H (fun c hc => by simp [hc])), cvI64, WKt, mem, drewV]
        replace H := H.pull (i := 2) rfl; refine append_h' (cs := [⟨cb, 5, []⟩]) elT24 H hc (gd.mono (fun c hc => by simp [hc])) bv_scalar (by omega) (by omega) fun w9 s' cs' H hc h1 => ?_
        rcases h1 with ⟨h1, _⟩ | ⟨⟨c1, c2, c3⟩, rfl⟩
        · cases h1
        replace H := H.rot1; rw [Nat.zero_add] at hc; simp only [bldF (sl_cells hc)]; try simp only [rd1_a (v0 H (fun c hc => by simp [hc])), rd1_a (v1 H (fun c hc => by simp [hc])), cvI64, WKt, mem, drewV]
        refine stA_h H 2 rfl rfl rfl (frm_scalar (sl_scalar hc)) fun w9 H => ?_; try simp only [rd1_a (v0 H (fun c hc => by simp [hc])), rd1_a (v1 H (fun c hc => by simp [hc])), cvI64, WKt, mem, drewV]
        exact rdec_j2 (k := i64 (xs.getD 0 0)) (last := decide (xs.getD 1 0 = 1)) (m := i64 (getI ((xs.drop 4).take (12 - 4)))) (f := i64 (getI ((xs.drop 12).take (16 - 12)))) hs hn h24 hn2 hL hby rfl rfl rfl rfl hc (H.to (by intro f; simp only [I, U8, U64, ptr, List.set_cons_zero, List.set_cons_succ, List.eraseIdx_cons_zero, List.eraseIdx_cons_succ, List.map_append, List.map_cons, List.map_nil, List.sum_append, List.sum_cons, List.sum_nil]; omega))
    · refine al_h H (z := zfrm) (by kernel_rfl) fun w9 x6 H => ?_; replace H := H.rot1; try simp only [rd1_a (v0 H (fun c hc => by simp [hc])), rd1_a (v1 H (fun c hc => by simp [hc])), cvI64, WKt, mem, drewV]
      refine cal_h (rget_spec (ga.rd' H (fun c hc => by simp [hc])) (by omega)) ?_; rintro e w9 ⟨rfl, rfl⟩; simp only [ret_k]; try simp only [rd1_a (v0 H (fun c hc => by simp [hc])), rd1_a (v1 H (fun c hc => by simp [hc])), cvI64, WKt, mem, drewV]
      refine cal_h (rget_spec (gb.rd' H (fun c hc => by simp [hc])) (by omega)) ?_; rintro e w9 ⟨rfl, rfl⟩; simp only [ret_k]; try simp only [rd1_a (v0 H (fun c hc => by simp [hc])), rd1_a (v1 H (fun c hc => by simp [hc])), cvI64, WKt, mem, drewV]
      replace H := H.pull (i := 2) rfl; refine append_h' (cs := [⟨cb, 5, []⟩]) elT24 H hc (gd.mono (fun c hc => by simp [hc])) bv_scalar (by omega) (by omega) fun w9 s' cs' H hc h1 => ?_
      rcases h1 with ⟨h1, _⟩ | ⟨⟨c1, c2, c3⟩, rfl⟩
      · cases h1
      replace H := H.rot1; rw [Nat.zero_add] at hc; simp only [bldF (sl_cells hc)]; try simp only [rd1_a (v0 H (fun c hc => by simp [hc])), rd1_a (v1 H (fun c hc => by simp [hc])), cvI64, WKt, mem, drewV]
      refine stA_h H 2 rfl rfl rfl (frm_scalar (sl_scalar hc)) fun w9 H => ?_; try simp only [rd1_a (v0 H (fun c hc => by simp [hc])), rd1_a (v1 H (fun c hc => by simp [hc])), cvI64, WKt, mem, drewV]
      exact rdec_j2 (k := i64 (xs.getD 0 0)) (last := decide (xs.getD 1 0 = 1)) (m := i64 (getI ((xs.drop 4).take (12 - 4)))) (f := i64 (getI ((xs.drop 12).take (16 - 12)))) hs hn h24 hn2 hL hby rfl rfl rfl rfl hc (H.to (by intro f; simp only [I, U8, U64, ptr, List.set_cons_zero, List.set_cons_succ, List.eraseIdx_cons_zero, List.eraseIdx_cons_succ, List.map_append, List.map_cons, List.map_nil, List.sum_append, List.sum_cons, List.sum_nil]; omega))
  · refine al_h H (z := zfrm) (by kernel_rfl) fun w9 x6 H => ?_; replace H := H.rot1; try simp only [rd1_a (v0 H (fun c hc => by simp [hc])), rd1_a (v1 H (fun c hc => by simp [hc])), cvI64, WKt, mem, drewV]
    refine allW2 ?_ ?_
    · refine cal_h (rget_spec (ga.rd' H (fun c hc => by simp [hc])) (by omega)) ?_; rintro e w9 ⟨rfl, rfl⟩; simp only [ret_k]; try simp only [rd1_a (v0 H (fun c hc => by simp [hc])), rd1_a (v1 H (fun c hc => by simp [hc])), cvI64, WKt, mem, drewV]
      refine allW2 ?_ ?_
      · refine cal_h (rget_spec (gb.rd' H (fun c hc => by simp [hc])) (by omega)) ?_; rintro e w9 ⟨rfl, rfl⟩; simp only [ret_k]; try simp only [rd1_a (v0 H (fun c hc => by simp [hc])), rd1_a (v1 H (fun c hc => by simp [hc])), cvI64, WKt, mem, drewV]
        refine lit0c_h elT24 H fun w9 cb H hc => ?_; replace H := H.rot1; try simp only [rd1_a (v0 H (fun c hc => by simp [hc])), rd1_a (v1 H (fun c hc => by simp [hc])), cvI64, WKt, mem, drewV]
        replace H := H.pull (i := 1) rfl; refine append_h' (cs := [⟨cb, 5, []⟩]) elT24 H hc (gd.mono (fun c hc => by simp [hc])) bv_scalar (by omega) (by omega) fun w9 s' cs' H hc h1 => ?_
        rcases h1 with ⟨h1, _⟩ | ⟨⟨c1, c2, c3⟩, rfl⟩
        · cases h1
        replace H := H.rot1; rw [Nat.zero_add] at hc; simp only [bldF (sl_cells hc)]; try simp only [rd1_a (v0 H (fun c hc => by simp [hc])), rd1_a (v1 H (fun c hc => by simp [hc])), cvI64, WKt, mem, drewV]
        refine stA_h H 2 rfl rfl rfl (frm_scalar (sl_scalar hc)) fun w9 H => ?_; try simp only [rd1_a (v0 H (fun c hc => by simp [hc])), rd1_a (v1 H (fun c hc => by simp [hc])), cvI64, WKt, mem, drewV]
        exact rdec_j2 (k := i64 (xs.getD 0 0)) (last := decide (xs.getD 1 0 = 1)) (m := i64 (getI ((xs.drop 4).take (12 - 4)))) (f := i64 (getI ((xs.drop 12).take (16 - 12)))) hs hn h24 hn2 hL hby rfl rfl rfl rfl hc (H.to (by intro f; simp only [I, U8, U64, ptr, List.set_cons_zero, List.set_cons_succ, List.eraseIdx_cons_zero, List.eraseIdx_cons_succ, List.map_append, List.map_cons, List.map_nil, List.sum_append, List.sum_cons, List.sum_nil]; omega))
      · refine lit0c_h elT24 H fun w9 cb H hc => ?_; replace H := H.rot1; try simp only [rd1_a (v0 H (fun c hc => by simp [hc])), rd1_a (v1 H (fun c hc => by simp [hc])), cvI64, WKt, mem, drewV]
        refine cal_h (rget_spec (gb.rd' H (fun c hc => by simp [hc])) (by omega)) ?_; rintro e w9 ⟨rfl, rfl⟩; simp only [ret_k]; try simp only [rd1_a (v0 H (fun c hc => by simp [hc])), rd1_a (v1 H (fun c hc => by simp [hc])), cvI64, WKt, mem, drewV]
        replace H := H.pull (i := 1) rfl; refine append_h' (cs := [⟨cb, 5, []⟩]) elT24 H hc (gd.mono (fun c hc => by simp [hc])) bv_scalar (by omega) (by omega) fun w9 s' cs' H hc h1 => ?_
        rcases h1 with ⟨h1, _⟩ | ⟨⟨c1, c2, c3⟩, rfl⟩
        · cases h1
        replace H := H.rot1; rw [Nat.zero_add] at hc; simp only [bldF (sl_cells hc)]; try simp only [rd1_a (v0 H (fun c hc => by simp [hc])), rd1_a (v1 H (fun c hc => by simp [hc])), cvI64, WKt, mem, drewV]
        refine stA_h H 2 rfl rfl rfl (frm_scalar (sl_scalar hc)) fun w9 H => ?_; try simp only [rd1_a (v0 H (fun c hc => by simp [hc])), rd1_a (v1 H (fun c hc => by simp [hc])), cvI64, WKt, mem, drewV]
        exact rdec_j2 (k := i64 (xs.getD 0 0)) (last := decide (xs.getD 1 0 = 1)) (m := i64 (getI ((xs.drop 4).take (12 - 4)))) (f := i64 (getI ((xs.drop 12).take (16 - 12)))) hs hn h24 hn2 hL hby rfl rfl rfl rfl hc (H.to (by intro f; simp only [I, U8, U64, ptr, List.set_cons_zero, List.set_cons_succ, List.eraseIdx_cons_zero, List.eraseIdx_cons_succ, List.map_append, List.map_cons, List.map_nil, List.sum_append, List.sum_cons, List.sum_nil]; omega))
    · refine lit0c_h elT24 H fun w9 cb H hc => ?_; replace H := H.rot1; try simp only [rd1_a (v0 H (fun c hc => by simp [hc])), rd1_a (v1 H (fun c hc => by simp [hc])), cvI64, WKt, mem, drewV]
      refine cal_h (rget_spec (ga.rd' H (fun c hc => by simp [hc])) (by omega)) ?_; rintro e w9 ⟨rfl, rfl⟩; simp only [ret_k]; try simp only [rd1_a (v0 H (fun c hc => by simp [hc])), rd1_a (v1 H (fun c hc => by simp [hc])), cvI64, WKt, mem, drewV]
      refine cal_h (rget_spec (gb.rd' H (fun c hc => by simp [hc])) (by omega)) ?_; rintro e w9 ⟨rfl, rfl⟩; simp only [ret_k]; try simp only [rd1_a (v0 H (fun c hc => by simp [hc])), rd1_a (v1 H (fun c hc => by simp [hc])), cvI64, WKt, mem, drewV]
      replace H := H.pull (i := 1) rfl; refine append_h' (cs := [⟨cb, 5, []⟩]) elT24 H hc (gd.mono (fun c hc => by simp [hc])) bv_scalar (by omega) (by omega) fun w9 s' cs' H hc h1 => ?_
      rcases h1 with ⟨h1, _⟩ | ⟨⟨c1, c2, c3⟩, rfl⟩
      · cases h1
      replace H := H.rot1; rw [Nat.zero_add] at hc; simp only [bldF (sl_cells hc)]; try simp only [rd1_a (v0 H (fun c hc => by simp [hc])), rd1_a (v1 H (fun c hc => by simp [hc])), cvI64, WKt, mem, drewV]
      refine stA_h H 2 rfl rfl rfl (frm_scalar (sl_scalar hc)) fun w9 H => ?_; try simp only [rd1_a (v0 H (fun c hc => by simp [hc])), rd1_a (v1 H (fun c hc => by simp [hc])), cvI64, WKt, mem, drewV]
      exact rdec_j2 (k := i64 (xs.getD 0 0)) (last := decide (xs.getD 1 0 = 1)) (m := i64 (getI ((xs.drop 4).take (12 - 4)))) (f := i64 (getI ((xs.drop 12).take (16 - 12)))) hs hn h24 hn2 hL hby rfl rfl rfl rfl hc (H.to (by intro f; simp only [I, U8, U64, ptr, List.set_cons_zero, List.set_cons_succ, List.eraseIdx_cons_zero, List.eraseIdx_cons_succ, List.map_append, List.map_cons, List.map_nil, List.sum_append, List.sum_cons, List.sum_nil]; omega))
theorem rDecode_spec (hs : RdL w0 F 1 s n (bv xs)) (hn : n < 2 ^ 40) (hby : 0 ≤ dB xs) (H : Hp w0 w F) : Calls Pg 22 ⟨[s]⟩ w (DecPost w0 F xs) := by
  have hl : xs.length = n := by have := hs.length; rw [bv_length] at this; omega
  apply F22_calls
  unfold F22 F22_j8
  refine al_h H (z := zfrm) (by kernel_rfl) fun w1 x2 H1 => ?_
  simp only [lenS_rdL hs, WKt, mem, drewV]
  have bad : ∀ {w1}, Hp w0 w1 (⟨x2, 52, zfrm⟩ :: F) → (xs.length < 24 ∨ 4120 < xs.length ∨ ¬ dOk xs) → (pv (bldO [I 0, .bool false, I 0, I 0, .slice none 0 0] []) fun v => stN 5 (ptr x2 0) v fun _ => ldN 5 (ptr x2 0) fun v36 => DecPost w0 F xs (.returned (.tuple ⟨[v36, I 12]⟩))) w1 := by
    intro w1 H1 h
    refine rdec_bad (L := []) (l0 := zfrm) rfl ?_ H1
    unfold decE; rw [if_pos h]
  by_cases h1 : (n : Int) < 24
  · simp only [decide_eq_true h1, WKt, mem, drewV]
    exact bad H1 (by omega)
  · obtain ⟨sc, esc, gc, _⟩ := slS_rd (lo := 2) (hi := 4) (X := 2) (Y := 4) hs rfl rfl (by omega) (by omega) (by omega)
    simp only [decide_eq_false h1, esc, WKt, mem, drewV]
    refine cal_h (rget_spec (gc.rd' H1 (fun c hc => by simp [hc])) (by omega)) ?_
    rintro e w9 ⟨rfl, rfl⟩
    simp only [lenS_rdL hs, cvI64, WKt, mem, drewV]
    rw [wrap64_id (by omega) (by omega)]
    by_cases h2 : dL xs = (n : Int) - 24
    · have : decide (i64 (getI ((xs.drop 2).take (4 - 2))) ≠ (n : Int) - 24) = false := decide_eq_false (by rw [Decidable.not_not]; exact h2)
      simp only [this, lenS_rdL hs, WKt, mem, drewV]
      try rw [wrap64_id (by omega) (by omega)]
      by_cases h3 : (4096 : Int) < (n : Int) - 24
      · simp only [decide_eq_true h3, WKt, mem, drewV]
        exact bad H1 (by omega)
      · simp only [decide_eq_false h3, WKt, mem, drewV]
        exact rdec_j1 hs hl (by omega) (by omega) (by rw [hl]; exact h2) hby H1
    · have : decide (i64 (getI ((xs.drop 2).take (4 - 2))) ≠ (n : Int) - 24) = true := decide_eq_true h2
      simp only [this, WKt, mem, drewV]
      exact bad H1 (.inr (.inr fun h => h2 (by rw [h.2.2.1, hl])))
end
end Go.Proofs.Ytmnpndgmfmjfhaa.Den
end

section
set_option linter.unusedVariables false
set_option linter.unusedSimpArgs false
set_option maxRecDepth 8000
namespace Go.Proofs.Ytmnpndgmfmjfhaa.Den
open Go Go.RowKit
structure UM where
  last : Bool
  m : Int
  f : Int
  d : List Int
  at_ : Int
structure AM where
  w : Nat
  m : Int
  f : Int
structure LM where
  up : List Bool
  size : Int
  quality : Int
  timeout : Int
  clock : Int
  us : List UM
  sent : Int
  done : Int
  repeats : Int
  turn : Int
  broken : Bool
  msg : Int
  frag : Int
  part : List Int
  acks : List AM
def ucell (u : UM) (s : Value) : List Value := [I 1, .bool u.last, I u.m, I u.f, s, I u.at_]
def ucells (us : List UM) (sv : List Value) : List Value := (List.zipWith ucell us sv).flatten
def acell (a : AM) : List Value := [I (a.w : Int), I 2, .bool false, I a.m, I a.f, .slice none 0 0]
def acells (l : List AM) : List Value := (l.map acell).flatten
def lkc (M : LM) (su sus sp sa : Value) : List Value :=
  [su, I M.size, I M.quality, I M.timeout, I M.clock, sus, I M.sent, I M.done, I M.repeats, I M.turn, .bool M.broken, I 2, .bool false, I M.msg, I M.frag, .slice none 0 0, sp, sa]
/-- The parts of a link in memory; D: the chunks of its units' data. tu, ta: the types of units and acknowledgments. -/
structure LkP (tu ta : Nat) (w0 : Base) (M : LM) (su sus sp sa : Value) (cu cus cp ca D : List Chunk) (sv : List Value) : Prop where
  up : Sl 4 1 su M.up.length (M.up.map .bool) cu
  us : Sl tu 6 sus M.us.length (ucells M.us sv) cus
  svl : sv.length = M.us.length
  dat : ∀ (i : Nat) (u : UM) (s : Value), M.us[i]? = some u → sv[i]? = some s → RdL w0 D 1 s u.d.length (bv u.d) ∧ s.cells = #[s] ∧ scalar s = true
  part : Sl 5 1 sp M.part.length (bv M.part) cp
  acks : Sl ta 6 sa M.acks.length (acells M.acks) ca
/-- A link of the program stands at block b in the chunks L. -/
def Lk (w0 : Base) (b : Nat) (M : LM) (L : List Chunk) : Prop :=
  ∃ su sus sp sa cu cus cp ca D sv, LkP 101 107 w0 M su sus sp sa cu cus cp ca D sv ∧ L = ⟨b, 96, lkc M su sus sp sa⟩ :: (cu ++ (cus ++ (cp ++ (ca ++ D))))
theorem elT92 : ElT 92 4 1 1 [.bool false] := ⟨by kernel_rfl, by kernel_rfl, rfl⟩
theorem elT93 : ElT 93 101 6 64 [I 0, .bool false, I 0, I 0, .slice none 0 0, I 0] := ⟨by kernel_rfl, by kernel_rfl, rfl⟩
theorem elT94 : ElT 94 107 6 64 [I 0, I 0, .bool false, I 0, I 0, .slice none 0 0] := ⟨by kernel_rfl, by kernel_rfl, rfl⟩
theorem elT104 : ElT 104 3 1 8 [I 0] := ⟨by kernel_rfl, by kernel_rfl, rfl⟩
theorem elT43 : ElT 43 90 2 32 [I 0, .slice none 0 0] := ⟨by kernel_rfl, by kernel_rfl, rfl⟩
theorem elT36 : ElT 36 24 1 24 [.slice none 0 0] := ⟨by kernel_rfl, by kernel_rfl, rfl⟩
theorem flat_length {α : Type} {sz : Nat} : ∀ {L : List (List α)}, (∀ l ∈ L, l.length = sz) → L.flatten.length = L.length * sz
  | [], _ => by simp
  | a :: L, h => by
    rw [List.flatten_cons, List.length_append, h a (by simp), flat_length (fun l hl => h l (by simp [hl])), List.length_cons, Nat.add_mul]; omega
theorem flat_get {α : Type} {sz : Nat} : ∀ {L : List (List α)}, (∀ l ∈ L, l.length = sz) → ∀ {i j : Nat} {l : List α}, L[i]? = some l → j < sz → L.flatten[i * sz + j]? = l[j]?
  | [], _, i, j, l, h, _ => by simp at h
  | a :: L, hL, 0, j, l, h, hj => by
    simp only [List.getElem?_cons_zero, Option.some.injEq] at h; subst h
    rw [List.flatten_cons, Nat.zero_mul, Nat.zero_add, List.getElem?_append_left (by rw [hL a (by simp)]; exact hj)]
  | a :: L, hL, i + 1, j, l, h, hj => by
    simp only [List.getElem?_cons_succ] at h
    have ha := hL a (by simp)
    rw [List.flatten_cons, List.getElem?_append_right (by rw [ha, Nat.add_mul]; omega), ha]
    have : (i + 1) * sz + j - sz = i * sz + j := by rw [Nat.add_mul]; omega
    rw [this]
    exact flat_get (fun l hl => hL l (by simp [hl])) h hj
theorem zip_len : ∀ (us : List UM) (sv : List Value), ∀ l ∈ List.zipWith ucell us sv, l.length = 6
  | [], _, l, h => by simp at h
  | _ :: _, [], l, h => by simp at h
  | u :: us, s :: sv, l, h => by
    simp only [List.zipWith_cons_cons, List.mem_cons] at h
    rcases h with rfl | h
    · rfl
    · exact zip_len us sv l h
theorem ucells_len {us : List UM} {sv : List Value} (h : sv.length = us.length) : (ucells us sv).length = us.length * 6 := by
  unfold ucells
  rw [flat_length (sz := 6) (zip_len us sv)]
  simp [h]
theorem zip_get {us : List UM} {sv : List Value} {i : Nat} {u : UM} {s : Value} (hu : us[i]? = some u) (hs : sv[i]? = some s) : (List.zipWith ucell us sv)[i]? = some (ucell u s) := by
  simp [List.getElem?_zipWith, hu, hs]
theorem ucells_get {us : List UM} {sv : List Value} {i j : Nat} {u : UM} {s : Value} (hu : us[i]? = some u) (hs : sv[i]? = some s) (hj : j < 6) : (ucells us sv)[i * 6 + j]? = (ucell u s)[j]? :=
  flat_get (sz := 6) (zip_len us sv) (zip_get hu hs) hj
theorem ucells_append {us us' : List UM} {sv sv' : List Value} (h : sv.length = us.length) : ucells (us ++ us') (sv ++ sv') = ucells us sv ++ ucells us' sv' := by
  unfold ucells; rw [List.zipWith_append (by rw [h]), List.flatten_append]
theorem flat_set {α : Type} {sz : Nat} : ∀ {L : List (List α)}, (∀ l ∈ L, l.length = sz) → ∀ {i j : Nat} {l : List α} {v : α}, L[i]? = some l → j < sz → L.flatten.set (i * sz + j) v = (L.set i (l.set j v)).flatten
  | [], _, i, j, l, v, h, _ => by simp at h
  | a :: L, hL, 0, j, l, v, h, hj => by
    simp only [List.getElem?_cons_zero, Option.some.injEq] at h; subst h
    rw [List.flatten_cons, Nat.zero_mul, Nat.zero_add, List.set_append_left _ _ (by rw [hL a (by simp)]; exact hj)]; rfl
  | a :: L, hL, i + 1, j, l, v, h, hj => by
    simp only [List.getElem?_cons_succ] at h
    have ha := hL a (by simp)
    rw [List.flatten_cons, List.set_append_right _ _ (by rw [ha, Nat.add_mul]; omega), ha]
    have : (i + 1) * sz + j - sz = i * sz + j := by rw [Nat.add_mul]; omega
    rw [this, flat_set (fun l hl => hL l (by simp [hl])) h hj]; rfl
theorem zip_set {us : List UM} {sv : List Value} {i : Nat} {u u' : UM} {s : Value} (hu : us[i]? = some u) (hs : sv[i]? = some s) : List.zipWith ucell (us.set i u') sv = (List.zipWith ucell us sv).set i (ucell u' s) := by
  apply List.ext_getElem?
  intro k
  by_cases hk : k = i
  · subst hk
    have h1 : k < us.length := by have := (List.getElem?_eq_some_iff.1 hu).1; exact this
    have h2 : k < sv.length := by have := (List.getElem?_eq_some_iff.1 hs).1; exact this
    rw [List.getElem?_eq_getElem h2] at hs
    injection hs with hs
    subst hs
    simp [List.getElem?_zipWith, List.getElem?_set, h1, h2]
    omega
  · simp [List.getElem?_zipWith, List.getElem?_set, Ne.symm hk]
/-- One unit is sent: its cell of time. -/
theorem ucells_at {us : List UM} {sv : List Value} {i : Nat} {u : UM} {s : Value} (hu : us[i]? = some u) (hs : sv[i]? = some s) (t : Int) :
    (ucells us sv).set (i * 6 + 5) (I t) = ucells (us.set i { u with at_ := t }) sv := by
  unfold ucells
  rw [zip_set hu hs]
  exact flat_set (sz := 6) (l := ucell u s) (zip_len us sv) (zip_get hu hs) (by omega)
theorem ucells_last {us : List UM} {sv : List Value} {i : Nat} {u : UM} {s : Value} (hu : us[i]? = some u) (hs : sv[i]? = some s) (b : Bool) :
    (ucells us sv).set (i * 6 + 1) (.bool b) = ucells (us.set i { u with last := b }) sv := by
  unfold ucells
  rw [zip_set hu hs]
  exact flat_set (sz := 6) (l := ucell u s) (zip_len us sv) (zip_get hu hs) (by omega)
theorem acells_get {l : List AM} {i j : Nat} {a : AM} (ha : l[i]? = some a) (hj : j < 6) : (acells l)[i * 6 + j]? = (acell a)[j]? :=
  flat_get (sz := 6) (by intro x hx; obtain ⟨_, _, rfl⟩ := List.mem_map.1 hx; rfl) (by simp [ha]) hj
theorem acells_len (l : List AM) : (acells l).length = l.length * 6 := by
  unfold acells
  rw [flat_length (sz := 6) (by intro x hx; obtain ⟨_, _, rfl⟩ := List.mem_map.1 hx; rfl), List.length_map]
/-- An element of a slice of the run's own. -/
theorem Sl.elem {el sz n : Nat} {s : Value} {xs : List Value} {cs : List Chunk} (h : Sl el sz s n xs cs) {i : Nat} (hi : i < n) : ∃ b cap rest, cs = [⟨b, el, xs ++ rest⟩] ∧ s = .slice (some ⟨b, 0, none⟩) n cap ∧
    ∀ k : IntKind, ixS sz s (.int k (i : Int)) = some (ptr b (i * sz)) := by
  obtain ⟨b, cap, rest, rfl, rfl, h1, h2, h3⟩ := h.chunk (by omega)
  exact ⟨b, cap, rest, rfl, rfl, fun k => by rw [ixS_mk hi, Nat.zero_add]⟩
/-- A cell ahead of what is behind it. -/
theorem get_left {α : Type} {l r : List α} {i : Nat} {v : α} (h : l[i]? = some v) : (l ++ r)[i]? = some v := by
  rw [List.getElem?_append_left (List.getElem?_eq_some_iff.1 h).1]; exact h
theorem set_left {α : Type} {l r : List α} {i : Nat} {v : α} (h : i < l.length) : (l ++ r).set i v = l.set i v ++ r := List.set_append_left _ _ h
/-! ### New -/
def newM (wires : Nat) (size quality timeout : Int) : LM :=
  { up := List.replicate wires true, size := size, quality := quality, timeout := timeout, clock := 0, us := [], sent := 0, done := 0, repeats := 0, turn := 0, broken := false, msg := 1, frag := 0, part := [], acks := [] }
def newE (wires size quality timeout : Int) : Int := if wires < 1 ∨ 8 < wires ∨ size < 32 ∨ 4096 < size ∨ timeout < 1 ∨ 1099511627776 < timeout then 34 else if quality < 0 ∨ 2 < quality then 17 else 0
section
variable {w : World} {w0 : Base} {F L : List Chunk} {R : ER}
theorem mul64_1 (R : ER) : F73 R (U64 1) (U64 1) = R (.returned (.tuple ⟨[U64 0, U64 1]⟩)) := by kernel_rfl
theorem mul64_2 (R : ER) : F73 R (U64 1) (U64 2) = R (.returned (.tuple ⟨[U64 0, U64 2]⟩)) := by kernel_rfl
theorem mul64_3 (R : ER) : F73 R (U64 1) (U64 3) = R (.returned (.tuple ⟨[U64 0, U64 3]⟩)) := by kernel_rfl
theorem mul64_4 (R : ER) : F73 R (U64 1) (U64 4) = R (.returned (.tuple ⟨[U64 0, U64 4]⟩)) := by kernel_rfl
theorem mul64_5 (R : ER) : F73 R (U64 1) (U64 5) = R (.returned (.tuple ⟨[U64 0, U64 5]⟩)) := by kernel_rfl
theorem mul64_6 (R : ER) : F73 R (U64 1) (U64 6) = R (.returned (.tuple ⟨[U64 0, U64 6]⟩)) := by kernel_rfl
theorem mul64_7 (R : ER) : F73 R (U64 1) (U64 7) = R (.returned (.tuple ⟨[U64 0, U64 7]⟩)) := by kernel_rfl
theorem mul64_8 (R : ER) : F73 R (U64 1) (U64 8) = R (.returned (.tuple ⟨[U64 0, U64 8]⟩)) := by kernel_rfl
theorem mul64_small {n : Nat} (h1 : 1 ≤ n) (h8 : n ≤ 8) (R : ER) : F73 R (U64 1) (U64 (n : Int)) = R (.returned (.tuple ⟨[U64 0, U64 (n : Int)]⟩)) := by
  have : n = 1 ∨ n = 2 ∨ n = 3 ∨ n = 4 ∨ n = 5 ∨ n = 6 ∨ n = 7 ∨ n = 8 := by omega
  rcases this with rfl | rfl | rfl | rfl | rfl | rfl | rfl | rfl
  · exact mul64_1 R
  · exact mul64_2 R
  · exact mul64_3 R
  · exact mul64_4 R
  · exact mul64_5 R
  · exact mul64_6 R
  · exact mul64_7 R
  · exact mul64_8 R
theorem mul_small {n : Nat} (h1 : 1 ≤ n) (h8 : n ≤ 8) : Calls Pg 65 ⟨[U64 1, U64 (n : Int)]⟩ w fun e w' => e = .returned (.tuple ⟨[U64 0, U64 (n : Int)]⟩) ∧ w' = w := by
  apply F65_calls
  unfold F65 F65_j2 F65_j1
  simp only [WKt, mem, drewV]
  refine cal_h (F73_calls (R := fun e w' => e = .returned (.tuple ⟨[U64 0, U64 (n : Int)]⟩) ∧ w' = w) ?_) ?_
  · rw [mul64_small h1 h8]; exact ⟨rfl, rfl⟩
  · rintro e w' ⟨rfl, rfl⟩
    simp only [WKt, mem, drewV]
    exact ⟨trivial, trivial⟩
theorem tf_lay {j n k : Nat} (hk : k = min j (n - j)) (hj : j ≤ n) : lay (List.replicate j (Value.bool true) ++ List.replicate (n - j) (Value.bool false)) j ((List.replicate j (Value.bool true)).take (k * 1)) = List.replicate (j + k) (Value.bool true) ++ List.replicate (n - (j + k)) (Value.bool false) := by
  unfold lay
  rw [List.take_left' (by simp), Nat.mul_one, List.take_replicate, List.length_replicate, Nat.min_eq_left (by omega), List.drop_append, List.length_replicate, List.drop_replicate, List.drop_replicate]
  rw [show j - (j + k) = 0 from by omega, show n - j - (j + k - j) = n - (j + k) from by omega]
  simp only [List.replicate_zero, List.nil_append]
  rw [List.replicate_append_replicate]
theorem repeat_l {n nb : Nat} (hn : n ≤ 8) (hq : ∀ w', Hp w0 w' (⟨nb, 4, List.replicate n (Value.bool true)⟩ :: F) → R (.returned (.slice (some ⟨nb, 0, none⟩) n n)) w') :
    ∀ (d j : Nat) (w : World), 1 ≤ j → j ≤ n → n - j < d → Hp w0 w (⟨nb, 4, List.replicate j (Value.bool true) ++ List.replicate (n - j) (Value.bool false)⟩ :: F) →
      F48_l1 R d (.slice (some ⟨nb, 0, none⟩) n n) (I (j : Int)) w
  | 0, j, w, h1, h2, h3, H => by omega
  | d + 1, j, w, h1, h2, h3, H => by
    rw [F48_l1_succ]
    unfold F48_b1 F48_j5 F48_j3
    simp only [WKt, mem, drewV]
    refine cnd_decide (fun h => ?_) (fun h => ?_)
    · have hjn : j < n := by omega
      have e1 : slS 1 (.slice (some ⟨nb, 0, none⟩) n n) (some (I (j : Int))) none = some (.slice (some ⟨nb, j, none⟩) (n - j) (n - j)) := by
        simp only [slS, boundO]
        rw [if_pos (by omega)]
        simp only [Int.toNat_natCast, Option.map_some, add_mk, Nat.mul_one, Nat.zero_add]
        rw [if_neg (by omega)]
      have e2 : slS 1 (.slice (some ⟨nb, 0, none⟩) n n) none (some (I (j : Int))) = some (.slice (some ⟨nb, 0, none⟩) j n) := by
        simp only [slS, boundO]
        rw [if_pos (by omega)]
        simp only [Int.toNat_natCast, Option.map_some, Nat.zero_mul, Nat.sub_zero]
        rw [if_neg (by omega)]; rfl
      simp only [e1, e2, WKt, mem, drewV]
      refine copy_h (m := j) (ys := List.replicate j (.bool true)) elT92 H.drew 0 rfl (by simp) (.inr ⟨nb, 0, n, 4, List.replicate j (.bool true) ++ List.replicate (n - j) (.bool false), rfl, by omega, by simp, by simp, by simp⟩) (by intro c hc; rw [List.eq_of_mem_replicate hc]; rfl) fun w2 H2 => ?_
      rw [tf_lay rfl h2] at H2
      simp only [WKt, mem, drewV]
      have hmin : 1 ≤ min j (n - j) := by omega
      rw [wrap64_id (by omega) (by omega), show (j : Int) + ((min j (n - j) : Nat) : Int) = ((j + min j (n - j) : Nat) : Int) from by omega]
      exact repeat_l hn hq d _ w2 (by omega) (by omega) (by omega) H2
    · have hjn : j = n := by omega
      subst hjn
      rw [Nat.sub_self, List.replicate_zero, List.append_nil] at H
      exact hq w H
theorem Repeat_spec {n b : Nat} (h1 : 1 ≤ n) (h8 : n ≤ 8) (H : Hp w0 w (⟨b, 4, [.bool true]⟩ :: F)) :
    Calls Pg 48 ⟨[.slice (some ⟨b, 0, none⟩) 1 1, I (n : Int)]⟩ w fun e w' => ∃ nb, e = .returned (.slice (some ⟨nb, 0, none⟩) n n) ∧ Hp w0 w' (⟨nb, 4, List.replicate n (.bool true)⟩ :: F) := by
  apply F48_calls
  unfold F48
  simp only [WKt, mem, drewV, show decide ((n : Int) < 0) = false from decide_eq_false (by omega)]
  unfold F48_j1
  simp only [WKt, mem, drewV, cvU64]
  have e1 : u64 ((1 : Nat) : Int) = 1 := rfl
  have e2 : u64 (n : Int) = (n : Int) := Int.emod_eq_of_lt (by omega) (by omega)
  rw [e1, e2]
  refine cal_h (mul_small h1 h8) ?_
  rintro e w1 ⟨rfl, rfl⟩
  simp only [WKt, mem, drewV]
  simp only [show decide ((0 : Int) < 0) = false from rfl, show decide ((9223372036854775807 : Int) < (n : Int)) = false from decide_eq_false (by omega), WKt, mem, drewV]
  unfold F48_j2
  have e3 : cvI .i64 (U64 (n : Int)) = some (I (n : Int)) := by simp only [cvI]; rw [wrap64_id (by omega) (by omega)]
  simp only [e3, WKt, mem, drewV]
  refine make_h elT92 H (n := n) (c := n) rfl rfl (Nat.le_refl _) (by omega) (by omega) fun w2 nb H2 => ?_
  have hz : (List.replicate n [Value.bool false]).flatten = List.replicate n (.bool false) := by simp
  rw [hz] at H2
  refine copy_h (m := 1) (ys := [.bool true]) elT92 H2 0 rfl (by simp) (.inr ⟨b, 0, 1, 4, [.bool true], rfl, by omega, by simp, by simp, rfl⟩) (by simp [scalar]) fun w3 H3 => ?_
  have hl : lay (List.replicate n (Value.bool false)) 0 ([Value.bool true].take (min 1 n * 1)) = List.replicate 1 (.bool true) ++ List.replicate (n - 1) (.bool false) := by
    rw [Nat.min_eq_left h1]
    unfold lay; simp
  rw [hl] at H3
  rw [Nat.min_eq_left h1]
  unfold F48_j4
  refine ⟨n + 1, ?_⟩
  exact repeat_l (F := ⟨b, 4, [.bool true]⟩ :: F) h8 (fun w' H' => ⟨nb, rfl, H'.to (by intro f; simp only [I, U8, U64, ptr, List.set_cons_zero, List.set_cons_succ, List.eraseIdx_cons_zero, List.eraseIdx_cons_succ, List.map_append, List.map_cons, List.map_nil, List.sum_append, List.sum_cons, List.sum_nil]; omega)⟩) (n + 1) 1 w3 (by omega) h1 (by omega) H3
end
end Go.Proofs.Ytmnpndgmfmjfhaa.Den
end

section
set_option linter.unusedVariables false
set_option linter.unusedSimpArgs false
set_option maxRecDepth 8000
namespace Go.Proofs.Ytmnpndgmfmjfhaa.Den
open Go Go.RowKit
theorem cellsI (k : IntKind) (n : Int) : (Value.int k n).cells = #[.int k n] := rfl
theorem cellsB (b : Bool) : (Value.bool b).cells = #[.bool b] := rfl
theorem cellsA (cs : Array Value) : (Value.agg cs).cells = cs := rfl
section
variable {w : World} {w0 : Base} {F L : List Chunk} {R : ER}
theorem newbld {s : Value} {size q t : Int} (h : s.cells = #[s]) (wires : Nat) :
    bldO [.slice none 0 0, I 0, I 0, I 0, I 0, .slice none 0 0, I 0, I 0, I 0, I 0, .bool false, I 0, .bool false, I 0, I 0, .slice none 0 0, .slice none 0 0, .slice none 0 0]
      [(0, 1, s), (1, 1, I size), (2, 1, I q), (3, 1, I t), (11, 5, .agg ⟨[I 2, .bool false, I 1, I 0, .slice none 0 0]⟩)] = some (.agg ⟨lkc (newM wires size q t) s (.slice none 0 0) (.slice none 0 0) (.slice none 0 0)⟩) := by
  simp [bldO, buildL, h, cellsI, cellsB, cellsA, lkc, newM]
theorem bldE : bldO [I 0, .bool false, I 0, I 0, .slice none 0 0] [(0, 1, I 2), (2, 1, I 1)] = some (.agg ⟨[I 2, .bool false, I 1, I 0, .slice none 0 0]⟩) := rfl
/-- What New hands back. -/
def NewPost (w0 : Base) (F : List Chunk) (Lkx : Base → Nat → LM → List Chunk → Prop) (wires size quality timeout : Int) : ER := fun e w' =>
  (newE wires size quality timeout ≠ 0 → e = .returned (.tuple ⟨[.pointer none, I (newE wires size quality timeout)]⟩) ∧ Hp w0 w' F) ∧
  (newE wires size quality timeout = 0 → ∃ b L, e = .returned (.tuple ⟨[ptr b 0, I 0]⟩) ∧ Hp w0 w' (L ++ F) ∧ Lkx w0 b (newM wires.toNat size quality timeout) L)
theorem New_spec {wires size quality timeout : Int} (H : Hp w0 w F) : Calls Pg 29 ⟨[I wires, I size, I quality, I timeout]⟩ w (NewPost w0 F Lk wires size quality timeout) := by
  apply F29_calls
  unfold F29 F29_j3
  have bad : (wires < 1 ∨ 8 < wires ∨ size < 32 ∨ 4096 < size ∨ timeout < 1 ∨ 1099511627776 < timeout) → NewPost w0 F Lk wires size quality timeout (.returned (.tuple ⟨[.pointer none, I 34]⟩)) w := by
    intro h
    have e : newE wires size quality timeout = 34 := by unfold newE; rw [if_pos h]
    refine ⟨fun _ => by rw [e]; exact ⟨rfl, H⟩, fun h' => ?_⟩
    rw [e] at h'; exact absurd h' (by decide)
  simp only [WKt, mem, drewV]
  by_cases h1 : wires < 1
  · simp only [decide_eq_true h1, WKt, mem, drewV]; exact bad (by omega)
  simp only [decide_eq_false h1, WKt, mem, drewV]
  by_cases h2 : 8 < wires
  · simp only [decide_eq_true h2, WKt, mem, drewV]; exact bad (by omega)
  simp only [decide_eq_false h2, WKt, mem, drewV]
  by_cases h3 : size < 32
  · simp only [decide_eq_true h3, WKt, mem, drewV]; exact bad (by omega)
  simp only [decide_eq_false h3, WKt, mem, drewV]
  by_cases h4 : 4096 < size
  · simp only [decide_eq_true h4, WKt, mem, drewV]; exact bad (by omega)
  simp only [decide_eq_false h4, WKt, mem, drewV]
  by_cases h5 : timeout < 1
  · simp only [decide_eq_true h5, WKt, mem, drewV]; exact bad (by omega)
  simp only [decide_eq_false h5, WKt, mem, drewV]
  by_cases h6 : 1099511627776 < timeout
  · simp only [decide_eq_true h6, WKt, mem, drewV]; exact bad (by omega)
  simp only [decide_eq_false h6, WKt, mem, drewV]
  have hne : ¬ (wires < 1 ∨ 8 < wires ∨ size < 32 ∨ 4096 < size ∨ timeout < 1 ∨ 1099511627776 < timeout) := by omega
  unfold F29_j1
  simp only [WKt, mem, drewV]
  have bad2 : (quality < 0 ∨ 2 < quality) → NewPost w0 F Lk wires size quality timeout (.returned (.tuple ⟨[.pointer none, I 17]⟩)) w := by
    intro h
    have e : newE wires size quality timeout = 17 := by unfold newE; rw [if_neg hne, if_pos h]
    refine ⟨fun _ => by rw [e]; exact ⟨rfl, H⟩, fun h' => ?_⟩
    rw [e] at h'; exact absurd h' (by decide)
  by_cases h7 : quality < 0
  · simp only [decide_eq_true h7, WKt, mem, drewV]; exact bad2 (by omega)
  simp only [decide_eq_false h7, WKt, mem, drewV]
  by_cases h8 : 2 < quality
  · simp only [decide_eq_true h8, WKt, mem, drewV]; exact bad2 (by omega)
  simp only [decide_eq_false h8, WKt, mem, drewV]
  have e0 : newE wires size quality timeout = 0 := by unfold newE; rw [if_neg hne, if_neg (by omega)]
  obtain ⟨n, rfl⟩ : ∃ n : Nat, wires = (n : Int) := ⟨wires.toNat, by omega⟩
  unfold F29_j2
  refine lit1s_h elT92 H rfl fun w1 b1 H1 => ?_
  refine cal_h (Repeat_spec (n := n) (by omega) (by omega) H1) ?_
  rintro e w2 ⟨nb, rfl, H2⟩
  simp only [WKt, mem, drewV]
  rw [bldE]
  simp only [WKt, mem, drewV]
  rw [newbld rfl n]
  simp only [WKt, mem, drewV]
  refine bxa_h H2 fun w3 b H3 => ?_
  refine ⟨fun h => absurd e0 h, fun _ => ⟨b, _, rfl, H3.to (L' := (⟨b, 96, lkc (newM n size quality timeout) (.slice (some ⟨nb, 0, none⟩) n n) (.slice none 0 0) (.slice none 0 0) (.slice none 0 0)⟩ :: ([⟨nb, 4, List.replicate n (.bool true)⟩] ++ ([] ++ ([] ++ ([] ++ []))))) ++ F) (by intro f; simp only [I, U8, U64, ptr, List.set_cons_zero, List.set_cons_succ, List.eraseIdx_cons_zero, List.eraseIdx_cons_succ, List.map_append, List.map_cons, List.map_nil, List.sum_append, List.sum_cons, List.sum_nil]; omega), ?_⟩⟩
  refine ⟨_, _, _, _, _, _, _, _, _, [], ⟨?_, Sl.nil, rfl, ?_, Sl.nil, Sl.nil⟩, rfl⟩
  · have : (newM n size quality timeout).up = List.replicate n true := rfl
    simp only [Int.toNat_natCast, this, List.length_replicate, List.map_replicate]
    exact Sl.full (by simp)
  · intro i u s h; simp [newM] at h
/-! ### the error of a time -/
def timeE (M : LM) (now : Int) : Int := if now < 0 ∨ 1099511627776 < now then 34 else if now < M.clock then 30 else if M.broken then 4 else 0
theorem time_spec {b : Nat} {M : LM} {now : Int} {su sus sp sa : Value} {tb : Nat} (H : Hp w0 w (⟨b, tb, lkc M su sus sp sa⟩ :: F)) :
    Calls Pg 34 ⟨[ptr b 0, I now]⟩ w fun e w' => e = .returned (I (timeE M now)) ∧ w' = w := by
  apply F34_calls
  unfold F34
  simp only [WKt, mem, drewV]
  have bad : (now < 0 ∨ 1099511627776 < now) → (Ending.returned (Value.int .i64 34) = .returned (I (timeE M now)) ∧ True) := by
    intro h; unfold timeE; rw [if_pos h]; exact ⟨rfl, trivial⟩
  by_cases h1 : now < 0
  · simp only [decide_eq_true h1, WKt, mem, drewV]; exact bad (.inl h1)
  simp only [decide_eq_false h1, WKt, mem, drewV]
  by_cases h2 : 1099511627776 < now
  · simp only [decide_eq_true h2, WKt, mem, drewV]; exact bad (.inr h2)
  simp only [decide_eq_false h2, WKt, mem, drewV]
  have hn : ¬ (now < 0 ∨ 1099511627776 < now) := by omega
  refine ld_h H 0 rfl rfl ?_
  refine cnd_decide (fun h3 => ?_) (fun h3 => ?_)
  · unfold timeE; rw [if_neg hn, if_pos h3]; exact ⟨rfl, rfl⟩
  · refine ld_h H 0 rfl rfl ?_
    have e : timeE M now = if M.broken then 4 else 0 := by unfold timeE; rw [if_neg hn, if_neg h3]
    rw [e]
    cases hb : M.broken with
    | true => simp only [WKt, mem, drewV]; exact ⟨by trivial, trivial⟩
    | false => simp only [WKt, mem, drewV]; exact ⟨by trivial, trivial⟩
/-! ### the usable wires -/
def useI : Nat → List Bool → List Int
  | _, [] => []
  | i, b :: r => if b then (i : Int) :: useI (i + 1) r else useI (i + 1) r
def iv (xs : List Int) : List Value := xs.map I
theorem iv_length (xs : List Int) : (iv xs).length = xs.length := by simp [iv]
theorem useI_le : ∀ (l : List Bool) (i : Nat), (useI i l).length ≤ l.length
  | [], _ => Nat.le_refl _
  | b :: r, i => by
    simp only [useI, List.length_cons]
    have := useI_le r (i + 1)
    split
    · simp; omega
    · omega
theorem use_l {b : Nat} {up : List Bool} {su : Value} {cu : List Chunk} (hup : Sl 4 1 su up.length (up.map .bool) cu) (hcu : ∀ c ∈ cu, c ∈ F) (h8 : up.length < 2 ^ 20)
    (hq : ∀ w' s' cs', Hp w0 w' (cs' ++ F) → Sl 3 1 s' (useI 0 up).length (iv (useI 0 up)) cs' → R (.returned s') w') :
    ∀ (d i : Nat) (w : World) (acc : List Int) (s : Value) (cs : List Chunk), i + d = up.length → acc ++ useI i (up.drop i) = useI 0 up → acc.length ≤ i → Hp w0 w (cs ++ F) → Sl 3 1 s acc.length (iv acc) cs →
      F38_l1 R (d + 1) s su (I (up.length : Int)) (I (i : Int)) w := by
  intro d
  induction d with
  | zero =>
    intro i w acc s cs hi ha hl H hs
    rw [F38_l1_succ]
    unfold F38_b1 F38_j1
    simp only [WKt, mem, drewV, show decide ((i : Int) < (up.length : Int)) = false from decide_eq_false (by omega)]
    rw [List.drop_eq_nil_of_le (by omega)] at ha
    simp only [useI, List.append_nil] at ha
    subst ha
    exact hq w s cs H hs
  | succ d ih =>
    intro i w acc s cs hi ha hl H hs
    rw [F38_l1_succ]
    unfold F38_b1 F38_j4 F38_j5
    have hlt : i < up.length := by omega
    have hrd := (hup.rdL (w0 := w0) (L := cs ++ F) (fun c hc => by simp [hcu c hc])).rd H
    simp only [WKt, mem, drewV, show decide ((i : Int) < (up.length : Int)) = true from decide_eq_true (by omega)]
    refine ix1_rd (v := .bool up[i]) hrd (by simp [hlt]) ?_
    rw [List.drop_eq_getElem_cons hlt] at ha
    cases hb : up[i] with
    | true =>
      rw [hb, useI] at ha
      simp only [WKt, mem, drewV]
      refine lit1s_h elT104 H rfl fun w1 nb H1 => ?_
      have H2 : Hp w0 w1 (cs ++ (⟨nb, 3, [I (i : Int)]⟩ :: F)) := H1.to (by intro f; simp only [I, U8, U64, ptr, List.set_cons_zero, List.set_cons_succ, List.eraseIdx_cons_zero, List.eraseIdx_cons_succ, List.map_append, List.map_cons, List.map_nil, List.sum_append, List.sum_cons, List.sum_nil]; omega)
      refine append_h elT104 H2 hs (m := 1) (ys := iv [(i : Int)]) (.inr ⟨nb, 0, 1, 3, [I (i : Int)], rfl, by omega, by simp, by simp, rfl⟩) (by simp [iv, scalar]) (by omega) (by omega) fun w3 s3 cs3 H3 hs3 => ?_
      rw [wrap64_id (by omega) (by omega), show (i : Int) + 1 = ((i + 1 : Nat) : Int) from by omega]
      refine ih (i + 1) w3 (acc ++ [(i : Int)]) s3 cs3 (by omega) (by rw [← ha]; simp) (by simp; omega) (H3.to (by intro f; simp only [I, U8, U64, ptr, List.set_cons_zero, List.set_cons_succ, List.eraseIdx_cons_zero, List.eraseIdx_cons_succ, List.map_append, List.map_cons, List.map_nil, List.sum_append, List.sum_cons, List.sum_nil]; omega)) ?_
      have : iv acc ++ iv [(i : Int)] = iv (acc ++ [(i : Int)]) := by simp [iv]
      rw [this] at hs3
      simpa using hs3
    | false =>
      rw [hb, useI] at ha
      simp only [WKt, mem, drewV]
      rw [wrap64_id (by omega) (by omega), show (i : Int) + 1 = ((i + 1 : Nat) : Int) from by omega]
      exact ih (i + 1) w acc s cs (by omega) (by simpa using ha) (by omega) H hs
theorem usable_spec {b : Nat} {M : LM} {su sus sp sa : Value} {cu : List Chunk} {tb : Nat} (H : Hp w0 w (⟨b, tb, lkc M su sus sp sa⟩ :: F)) (hup : Sl 4 1 su M.up.length (M.up.map .bool) cu) (hcu : ∀ c ∈ cu, c ∈ F) (h8 : M.up.length < 2 ^ 20) :
    Calls Pg 38 ⟨[ptr b 0]⟩ w fun e w' => ∃ s' cs', e = .returned s' ∧ Hp w0 w' (cs' ++ (⟨b, tb, lkc M su sus sp sa⟩ :: F)) ∧ Sl 3 1 s' (useI 0 M.up).length (iv (useI 0 M.up)) cs' := by
  apply F38_calls
  unfold F38 F38_j2
  simp only [WKt, mem, drewV]
  refine ld_h H 0 rfl rfl ?_
  simp only [lenS_sl hup, WKt, mem, drewV]
  unfold F38_j3
  exact ⟨M.up.length + 1, use_l (b := b) (F := ⟨b, tb, lkc M su sus sp sa⟩ :: F) hup (fun c hc => by simp [hcu c hc]) h8 (fun w' s' cs' H' hs' => ⟨s', cs', rfl, H', hs'⟩) M.up.length 0 w [] (.slice none 0 0) [] (by omega) (by simp) (by simp) H Sl.nil⟩
/-! ### the wires of a unit -/
def overI (q turn : Int) (ws : List Int) : List Int := if q = 0 then ws.take 1 else if q = 1 then (ws.drop (turn.tmod (ws.length : Int)).toNat).take 1 else ws
def overT (q turn : Int) : Int := if q = 0 then turn else if q = 1 then turn + 1 else turn
/-- A part of a slice of elements of one cell. -/
theorem slS1 {s : Value} {n lo hi : Nat} {xs : List Value} {el : Nat} {cs : List Chunk} (hs : Sl el 1 s n xs cs) (hcs : ∀ c ∈ cs, c ∈ L) (hne : 0 < n) (h1 : lo ≤ hi) (h2 : hi ≤ n) (hlo : lo < n) :
    ∃ s', slS 1 s (some (I (lo : Int))) (some (I (hi : Int))) = some s' ∧ RdL w0 L 1 s' (hi - lo) ((xs.drop lo).take (hi - lo)) := by
  obtain ⟨b, cap, rest, rfl, rfl, g1, g2, g3⟩ := hs.chunk hne
  refine ⟨.slice (some ⟨b, lo, none⟩) (hi - lo) (cap - lo), ?_, ?_⟩
  · simp only [slS, boundO]
    rw [if_pos (by omega)]
    simp only []
    rw [if_pos (by omega)]
    simp only [Int.toNat_natCast, Option.map_some, add_mk, Nat.mul_one, Nat.zero_add]
    rw [if_neg (by omega)]
  · refine .inr ⟨b, lo, cap - lo, el, xs ++ rest, rfl, by omega, hcs _ (by simp), by simp; omega, ?_⟩
    rw [Nat.mul_one, List.drop_append_of_le_length (by omega), List.take_append_of_le_length (by simp; omega)]
theorem over_spec {b : Nat} {M : LM} {su sus sp sa s : Value} {ws : List Int} {cw : List Chunk} {tb : Nat} (H : Hp w0 w (⟨b, tb, lkc M su sus sp sa⟩ :: F)) (hws : Sl 3 1 s ws.length (iv ws) cw) (hcw : ∀ c ∈ cw, c ∈ F)
    (hne : 0 < ws.length) (hw : ws.length < 2 ^ 20) (ht0 : 0 ≤ M.turn) (ht : M.turn < 2 ^ 60) :
    Calls Pg 39 ⟨[ptr b 0, s]⟩ w fun e w' => ∃ s', e = .returned s' ∧ Hp w0 w' (⟨b, tb, lkc { M with turn := overT M.quality M.turn } su sus sp sa⟩ :: F) ∧ RdL w0 cw 1 s' (overI M.quality M.turn ws).length (iv (overI M.quality M.turn ws)) := by
  apply F39_calls
  unfold F39
  simp only [WKt, mem, drewV]
  refine ld_h H 0 rfl rfl ?_
  simp only [WKt, mem, drewV]
  refine cnd_decide (fun h0 => ?_) (fun h0 => ?_)
  · obtain ⟨s', e1, r1⟩ := slS1 (w0 := w0) (L := cw) (lo := 0) (hi := 1) hws (fun c hc => hc) hne (by omega) (by omega) hne
    have e2 : slS 1 s none (some (I 1)) = some s' := by
      rw [← e1]
      obtain ⟨b', cap, rest, _, rfl, g1, g2, g3⟩ := hws.chunk hne
      simp only [slS, boundO]; rfl
    simp only [e2, WKt, mem, drewV]
    refine ⟨s', rfl, ?_, ?_⟩
    · unfold overT; rw [if_pos h0]; exact H
    · unfold overI; rw [if_pos h0]
      have : (ws.take 1).length = 1 := by rw [List.length_take]; omega
      rw [this]
      simpa [iv, List.map_take] using r1
  · refine cnd_decide (fun h1 => ?_) (fun h1 => ?_)
    · refine ld_h H 0 rfl rfl ?_
      simp only [lenS_sl hws, WKt, mem, drewV]
      rw [bin_rem (by omega)]
      simp only [WKt, mem, drewV]
      refine ld_h H 0 rfl rfl ?_
      simp only [WKt, mem, drewV]
      refine st_h H 0 rfl (by simp [lkc]) rfl fun w2 H2 => ?_
      obtain ⟨k, hk⟩ : ∃ k : Nat, M.turn.tmod (ws.length : Int) = (k : Int) := ⟨(M.turn.tmod (ws.length : Int)).toNat, by have := Int.tmod_nonneg (ws.length : Int) ht0; omega⟩
      have hkl : k < ws.length := by
        have := Int.tmod_lt_of_pos M.turn (show (0 : Int) < (ws.length : Int) from by omega); omega
      obtain ⟨s', e1, r1⟩ := slS1 (w0 := w0) (L := cw) (lo := k) (hi := k + 1) hws (fun c hc => hc) hne (by omega) (by omega) hkl
      rw [hk]
      rw [wrap64_id (a := (k : Int) + 1) (by omega) (by omega), show (k : Int) + 1 = ((k + 1 : Nat) : Int) from by omega, e1]
      simp only [WKt, mem, drewV]
      refine ⟨s', rfl, ?_, ?_⟩
      · have e : overT M.quality M.turn = IntKind.i64.wrap (M.turn + 1) := by
          unfold overT; rw [if_neg h0, if_pos h1, wrap64_id (by omega) (by omega)]
        rw [e]; exact H2
      · unfold overI; rw [if_neg h0, if_pos h1, hk, Int.toNat_natCast]
        have : ((ws.drop k).take 1).length = 1 := by rw [List.length_take, List.length_drop]; omega
        rw [this]
        rw [show k + 1 - k = 1 from by omega] at r1
        simpa [iv, List.map_take, List.map_drop] using r1
    · refine ⟨s, rfl, ?_, ?_⟩
      · unfold overT; rw [if_neg h0, if_neg h1]; exact H
      · unfold overI; rw [if_neg h0, if_neg h1]
        exact hws.rdL (fun c hc => hc)
end
end Go.Proofs.Ytmnpndgmfmjfhaa.Den
end
