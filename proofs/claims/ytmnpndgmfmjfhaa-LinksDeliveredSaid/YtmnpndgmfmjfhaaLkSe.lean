/- Links: settle, walked. Conditions: none. -/
import Derived.Test.YtmnpndgmfmjfhaaLkInv
set_option linter.unusedVariables false
set_option linter.unusedSimpArgs false
set_option maxRecDepth 8000
namespace Go.Proofs.Ytmnpndgmfmjfhaa.Den
open Go Go.RowKit
/-- Frames that arrive, one after the other. -/
def inAll (now : Int) : LM → List OM → Option (LM × List (List Int))
  | M, [] => some (M, [])
  | M, o :: os => if inE M o.1 o.2 now ≠ 0 then none else (inAll now (inM M o.1 o.2 now) os).map fun r => (r.1, inV M o.1 o.2 now ++ r.2)
section
variable {w w' : World} {w0 : Base} {F L : List Chunk} {R : ER}
theorem msg_sc {s : Value} {vs : List (List Int)} {co Db : List Chunk} {sv : List Value} (h : MsgP w0 s vs co Db sv) : ∀ c ∈ sv, scalar c = true := by
  intro c hc
  obtain ⟨i, hi, rfl⟩ := List.getElem_of_mem hc
  have hlt : i < vs.length := by rw [← h.svl]; exact hi
  exact (rd_cells (h.dat i _ _ (List.getElem?_eq_getElem hlt) (List.getElem?_eq_getElem hi))).2
theorem msg_app {g s : Value} {vs vs2 : List (List Int)} {co Db co2 Db2 : List Chunk} {sv sv2 : List Value} {K : VK} {ty : Nat} {cc : Array Bool} (h : MsgP w0 g vs co Db sv) (h2 : MsgP w0 s vs2 co2 Db2 sv2) (hb : vs.length + vs2.length < 2 ^ 30)
    (H : Hp w0 w (co ++ (Db ++ (co2 ++ (Db2 ++ F))))) (k : ∀ w' g' co', Hp w0 w' (co' ++ ((Db ++ Db2) ++ F)) → MsgP w0 g' (vs ++ vs2) co' (Db ++ Db2) (sv ++ sv2) → K g' w') :
    blt Pg R .append ⟨[36, 36]⟩ ty cc ⟨[g, s]⟩ K w := by
  refine append_h elT36 H h.sl (h2.sl.rdL fun c hc => by simp [hc]) (msg_sc h2) (by omega) (by omega) fun w' g' co' H' hs => ?_
  refine k w' g' co' (H'.to (by intro f; simp only [I, U8, U64, ptr, List.set_cons_zero, List.set_cons_succ, List.eraseIdx_cons_zero, List.eraseIdx_cons_succ, List.map_append, List.map_cons, List.map_nil, List.sum_append, List.sum_cons, List.sum_nil]; omega)) ⟨by rw [List.length_append]; exact hs, by simp [h.svl, h2.svl], ?_⟩
  intro i ys s hi hs
  by_cases hlt : i < vs.length
  · rw [List.getElem?_append_left hlt] at hi
    rw [List.getElem?_append_left (by rw [h.svl]; exact hlt)] at hs
    exact (h.dat i ys s hi hs).mono fun c hc => by simp [hc]
  · rw [List.getElem?_append_right (by omega)] at hi
    rw [List.getElem?_append_right (by rw [h.svl]; omega), h.svl] at hs
    exact (h2.dat _ ys s hi hs).mono fun c hc => by simp [hc]
theorem inV_len {M : LM} {x now : Int} {xs : List Int} : (inV M x xs now).length ≤ 1 := by
  unfold inV takeV; repeat' split
  all_goals simp
theorem out_cell {os : List OM} {sv rest : List Value} {p : Nat} {o : OM} {s : Value} (hsv : sv.length = os.length) (ho : os[p]? = some o) (hs : sv[p]? = some s) : ((ocells os sv ++ rest).drop (p * 2)).take 2 = [I o.1, s] := by
  have hlen : (ocells os sv).length = os.length * 2 := by
    unfold ocells; rw [flat_length (sz := 2) (ozip_len os sv)]; simp [hsv]
  have hp : p < os.length := (List.getElem?_eq_some_iff.1 ho).1
  apply List.ext_getElem?
  intro m
  rw [List.getElem?_take]
  by_cases hm : m < 2
  · rw [if_pos hm, List.getElem?_drop, List.getElem?_append_left (by rw [hlen]; omega)]
    exact ocells_get ho hs hm
  · rw [if_neg hm, List.getElem?_eq_none (by simp; omega)]
theorem ocells_len {os : List OM} {sv : List Value} (hsv : sv.length = os.length) : (ocells os sv).length = os.length * 2 := by
  unfold ocells; rw [flat_length (sz := 2) (ozip_len os sv)]; simp [hsv]
theorem set_ne {l : List Value} {q r : Nat} {g v : Value} (h : l[r]? = some v) (hne : q ≠ r) : (l.set q g)[r]? = some v := by rw [List.getElem?_set_ne hne]; exact h
theorem settle_fl {tb bj i j : Nat} {now : Int} {l : List Value} {s x12 x13 : Value} {os : List OM} {cf Df : List Chunk} {svf : List Value} {k1 : Value → Value → Value → WP} {k2 : Value → Value → Value → Value → WP} {B' : LM} {vs' : List (List Int)} {N : Nat}
    (hij : i + j = 1) (hl : l.length = 10) (lj : l[j]? = some (ptr bj 0)) (l5 : l[5]? = some (I now)) (hP : OutP 90 w0 s os cf Df svf) (hbs : ∀ o ∈ os, o.2.length < 2 ^ 40) (hos : os.length < 2 ^ 40) (hN : N ≤ 1000000)
    (kk : ∀ w' g L' co Db sv, Hp w0 w' (⟨tb, 39, l.set (8 + j) g⟩ :: (L' ++ (co ++ (Db ++ F)))) → Lk w0 bj B' L' → MsgP w0 g vs' co Db sv → LInv N B' → vs'.length ≤ N → orpimentlaw35_talk_settle_j11 R k1 k2 (ptr tb 0) x12 x13 (I (i : Int)) w') :
    ∀ (d p n : Nat) (w : World) (B : LM) (vs vr : List (List Int)) (g : Value) (L co Db : List Chunk) (sv : List Value), p + d = os.length → n + d = N → LInv n B → vs.length ≤ n → inAll now B (os.drop p) = some (B', vr) → vs ++ vr = vs' → Lk w0 bj B L → MsgP w0 g vs co Db sv →
      Hp w0 w (⟨tb, 39, l.set (8 + j) g⟩ :: (L ++ (co ++ (Db ++ (cf ++ (Df ++ F)))))) →
      orpimentlaw35_talk_settle_l1 R k1 k2 (d + 1) (ptr tb 0) (I (i : Int)) x12 x13 (I (i : Int)) s (I (os.length : Int)) (I (p : Int)) w := by
  intro d
  induction d with
  | zero =>
    intro p n w B vs vr g L co Db sv hp hn hB hvl hA hv hL hM H
    rw [orpimentlaw35_talk_settle_l1_succ]
    unfold orpimentlaw35_talk_settle_b3
    simp only [pv_some, nilO_ptr, faO_mk, gd_yes, gd_no, gd_yes', gd_no', cnd_true, cnd_false, pick_true, pick_false, not_bool, bin_add, bin_sub, bin_mul, bin_eql, bin_neq, bin_lss, bin_leq, bin_gtr, bin_geq, ext0, ext1, ext2, lenS_mk, eqNil_none, eqNil_some, neNil_none, neNil_some, ret_k, mem, Nat.zero_add, Nat.add_zero, Nat.mul_one, drewV, Bool.not_true, Bool.not_false, show decide ((p : Int) < (os.length : Int)) = false from decide_eq_false (by omega)]
    rw [List.drop_eq_nil_of_le (by omega)] at hA
    simp only [inAll, Option.some.injEq, Prod.mk.injEq] at hA
    obtain ⟨rfl, rfl⟩ := hA
    rw [List.append_nil] at hv
    subst hv
    have : n = N := by omega
    subst this
    exact kk w g L co Db sv (H.to (by intro f; simp only [I, U8, U64, ptr, List.set_cons_zero, List.set_cons_succ, List.eraseIdx_cons_zero, List.eraseIdx_cons_succ, List.map_append, List.map_cons, List.map_nil, List.sum_append, List.sum_cons, List.sum_nil]; omega)) hL hM hB hvl
  | succ d ih =>
    intro p n w B vs vr g L co Db sv hp hn hB hvl hA hv hL hM H
    rw [orpimentlaw35_talk_settle_l1_succ]
    unfold orpimentlaw35_talk_settle_b3 orpimentlaw35_talk_settle_j15
    simp only [pv_some, nilO_ptr, faO_mk, gd_yes, gd_no, gd_yes', gd_no', cnd_true, cnd_false, pick_true, pick_false, not_bool, bin_add, bin_sub, bin_mul, bin_eql, bin_neq, bin_lss, bin_leq, bin_gtr, bin_geq, ext0, ext1, ext2, lenS_mk, eqNil_none, eqNil_some, neNil_none, neNil_some, ret_k, mem, Nat.zero_add, Nat.add_zero, Nat.mul_one, drewV, Bool.not_true, Bool.not_false, show decide ((p : Int) < (os.length : Int)) = true from decide_eq_true (by omega)]
    have hlt : p < os.length := by omega
    obtain ⟨o, ho⟩ : ∃ o, os[p]? = some o := ⟨_, List.getElem?_eq_getElem hlt⟩
    obtain ⟨t, ht⟩ : ∃ t, svf[p]? = some t := ⟨_, List.getElem?_eq_getElem (by rw [hP.svl]; omega)⟩
    have hd := hP.dat p o t ho ht
    obtain ⟨bo, cap, rest, rfl, rfl, c1, c2, c3⟩ := hP.sl.chunk (by omega)
    have hdrop : os.drop p = o :: os.drop (p + 1) := by
      obtain ⟨h1, h2⟩ := List.getElem?_eq_some_iff.1 ho
      rw [List.drop_eq_getElem_cons h1, h2]
    rw [hdrop, inAll] at hA
    have hE : inE B o.1 o.2 now = 0 := by
      by_cases h : inE B o.1 o.2 now = 0
      · exact h
      · rw [if_pos h] at hA; cases hA
    rw [if_neg (by rw [hE]; decide)] at hA
    obtain ⟨⟨B2, vr2⟩, hA2, hA3⟩ := Option.map_eq_some_iff.1 hA
    simp only [Prod.mk.injEq] at hA3
    obtain ⟨rfl, rfl⟩ := hA3
    rw [ixS_mk hlt]
    simp only [pv_some, nilO_ptr, faO_mk, gd_yes, gd_no, gd_yes', gd_no', cnd_true, cnd_false, pick_true, pick_false, not_bool, bin_add, bin_sub, bin_mul, bin_eql, bin_neq, bin_lss, bin_leq, bin_gtr, bin_geq, ext0, ext1, ext2, lenS_mk, eqNil_none, eqNil_some, neNil_none, neNil_some, ret_k, mem, Nat.zero_add, Nat.add_zero, Nat.mul_one, drewV, Bool.not_true, Bool.not_false]
    have Hf : Hp w0 w (⟨bo, 90, ocells os svf ++ rest⟩ :: (⟨tb, 39, l.set (8 + j) g⟩ :: (L ++ (co ++ (Db ++ (Df ++ F)))))) := H.to (by intro f; simp only [I, U8, U64, ptr, List.set_cons_zero, List.set_cons_succ, List.eraseIdx_cons_zero, List.eraseIdx_cons_succ, List.map_append, List.map_cons, List.map_nil, List.sum_append, List.sum_cons, List.sum_nil]; omega)
    have hlen := ocells_len hP.svl
    refine ldN_blk (Hf.at (i := 0) rfl) (by rw [List.length_append, hlen]; omega) ?_
    rw [out_cell hP.svl ho ht]
    refine al_h Hf (z := [I 0, .slice none 0 0]) (by kernel_rfl) fun w1 nf H1 => ?_
    refine stA_h H1 0 rfl rfl rfl (by intro c hc; simp at hc; rcases hc with rfl | rfl; rfl; exact (rd_cells hd).2) fun w2 H2 => ?_
    simp only [List.set_cons_zero] at H2
    have ew : IntKind.i64.wrap (1 - (i : Int)) = (j : Int) := by rw [wrap64_id (by omega) (by omega)]; omega
    have eij : ixA 2 1 (ptr tb 0) (I (j : Int)) = some (ptr tb j) := by have := ixA_mk (n := 2) (sz := 1) (b := tb) (o := 0) (k := .i64) (j := j) (by omega); simpa using this
    have eij8 : ixA 2 1 (ptr tb 8) (I (j : Int)) = some (ptr tb (8 + j)) := by have := ixA_mk (n := 2) (sz := 1) (b := tb) (o := 8) (k := .i64) (j := j) (by omega); simpa using this
    simp only [ew, eij, pv_some, nilO_ptr, faO_mk, gd_yes, gd_no, gd_yes', gd_no', cnd_true, cnd_false, pick_true, pick_false, not_bool, bin_add, bin_sub, bin_mul, bin_eql, bin_neq, bin_lss, bin_leq, bin_gtr, bin_geq, ext0, ext1, ext2, lenS_mk, eqNil_none, eqNil_some, neNil_none, neNil_some, ret_k, mem, Nat.zero_add, Nat.add_zero, Nat.mul_one, drewV, Bool.not_true, Bool.not_false]
    have H3 := H2.drew
    refine ld_h H3 2 rfl (set_ne lj (by omega)) ?_
    refine ld_h H3 0 rfl rfl ?_
    refine ld_h H3 0 rfl rfl ?_
    refine ld_h H3 2 rfl (set_ne l5 (by omega)) ?_
    have H3' : Hp w0 w2.drew (L ++ (⟨nf, 90, [I o.1, t]⟩ :: ⟨bo, 90, ocells os svf ++ rest⟩ :: ⟨tb, 39, l.set (8 + j) g⟩ :: (co ++ (Db ++ (Df ++ F))))) := H3.to (by intro f; simp only [I, U8, U64, ptr, List.set_cons_zero, List.set_cons_succ, List.eraseIdx_cons_zero, List.eraseIdx_cons_succ, List.map_append, List.map_cons, List.map_nil, List.sum_append, List.sum_cons, List.sum_nil]; omega)
    have hun := hB.un
    have han := hB.an
    have hmn := hB.mn
    refine cal_h (Input_spec (x := o.1) (now := now) H3' hL (hd.mono fun c hc => by simp [hc]) (hbs o (List.mem_of_getElem? ho)) (by omega) (by omega) hB.pl (by omega) hB.fr) ?_
    rintro e w4 ⟨s2, co2, Db2, sv2, L2, rfl, H4, hM2, hL2⟩
    rw [hE]
    simp only [show decide ((0 : Int) ≠ 0) = false from rfl, pv_some, nilO_ptr, faO_mk, gd_yes, gd_no, gd_yes', gd_no', cnd_true, cnd_false, pick_true, pick_false, not_bool, bin_add, bin_sub, bin_mul, bin_eql, bin_neq, bin_lss, bin_leq, bin_gtr, bin_geq, ext0, ext1, ext2, lenS_mk, eqNil_none, eqNil_some, neNil_none, neNil_some, ret_k, mem, Nat.zero_add, Nat.add_zero, Nat.mul_one, drewV, Bool.not_true, Bool.not_false]
    have H4' : Hp w0 w4.drew (⟨tb, 39, l.set (8 + j) g⟩ :: (L2 ++ (⟨nf, 90, [I o.1, t]⟩ :: ⟨bo, 90, ocells os svf ++ rest⟩ :: (co ++ (Db ++ (co2 ++ (Db2 ++ (Df ++ F)))))))) := H4.drew.to (by intro f; simp only [I, U8, U64, ptr, List.set_cons_zero, List.set_cons_succ, List.eraseIdx_cons_zero, List.eraseIdx_cons_succ, List.map_append, List.map_cons, List.map_nil, List.sum_append, List.sum_cons, List.sum_nil]; omega)
    simp only [ew, eij8, pv_some, nilO_ptr, faO_mk, gd_yes, gd_no, gd_yes', gd_no', cnd_true, cnd_false, pick_true, pick_false, not_bool, bin_add, bin_sub, bin_mul, bin_eql, bin_neq, bin_lss, bin_leq, bin_gtr, bin_geq, ext0, ext1, ext2, lenS_mk, eqNil_none, eqNil_some, neNil_none, neNil_some, ret_k, mem, Nat.zero_add, Nat.add_zero, Nat.mul_one, drewV, Bool.not_true, Bool.not_false]
    refine ld_h H4' 0 rfl (by rw [List.getElem?_set_self (by omega)]) ?_
    have H4'' : Hp w0 w4.drew (co ++ (Db ++ (co2 ++ (Db2 ++ (⟨tb, 39, l.set (8 + j) g⟩ :: (L2 ++ (⟨bo, 90, ocells os svf ++ rest⟩ :: (Df ++ F)))))))) := H4'.to (by intro f; simp only [I, U8, U64, ptr, List.set_cons_zero, List.set_cons_succ, List.eraseIdx_cons_zero, List.eraseIdx_cons_succ, List.map_append, List.map_cons, List.map_nil, List.sum_append, List.sum_cons, List.sum_nil]; omega)
    have hvl2 := inV_len (M := B) (x := o.1) (xs := o.2) (now := now)
    refine msg_app hM hM2 (by omega) H4'' fun w5 g5 co5 H5 hM5 => ?_
    simp only [eij8, pv_some, nilO_ptr, faO_mk, gd_yes, gd_no, gd_yes', gd_no', cnd_true, cnd_false, pick_true, pick_false, not_bool, bin_add, bin_sub, bin_mul, bin_eql, bin_neq, bin_lss, bin_leq, bin_gtr, bin_geq, ext0, ext1, ext2, lenS_mk, eqNil_none, eqNil_some, neNil_none, neNil_some, ret_k, mem, Nat.zero_add, Nat.add_zero, Nat.mul_one, drewV, Bool.not_true, Bool.not_false]
    have H5' : Hp w0 w5 (⟨tb, 39, l.set (8 + j) g⟩ :: (L2 ++ (co5 ++ ((Db ++ Db2) ++ ([⟨bo, 90, ocells os svf ++ rest⟩] ++ (Df ++ F)))))) := H5.to (by intro f; simp only [I, U8, U64, ptr, List.set_cons_zero, List.set_cons_succ, List.eraseIdx_cons_zero, List.eraseIdx_cons_succ, List.map_append, List.map_cons, List.map_nil, List.sum_append, List.sum_cons, List.sum_nil]; omega)
    refine st_h H5' 0 rfl (by simp [hl]; omega) (sl_sc hM5.sl) fun w6 H6 => ?_
    simp only [List.set_cons_zero, List.set_set] at H6
    rw [wrap64_id (by omega) (by omega), show (p : Int) + 1 = ((p + 1 : Nat) : Int) from by omega]
    refine ih (p + 1) (n + 1) w6 _ _ vr2 g5 L2 co5 (Db ++ Db2) _ (by omega) (by omega) (inv_in hB (by omega)) ?_ hA2 ?_ hL2 hM5 H6
    · rw [List.length_append]; omega
    · rw [List.append_assoc]; exact hv
theorem encR_len {k m f : Int} {last : Bool} {d : List Int} : (encR k last m f d).length < 2 ^ 40 := by
  unfold encR
  split
  · rename_i h
    have := (encE_zero' h).2.2.2.2
    rw [encB_length]; omega
  · simp
theorem outUs_bytes {again : Bool} {now q : Int} {ws : List Int} : ∀ (n : Nat) (t : Int) (us : List UM), ∀ o ∈ (outUs again now q ws n t us).1, o.2.length < 2 ^ 40
  | 0, t, us, o, h => by simp [outUs] at h
  | n + 1, t, [], o, h => by simp [outUs] at h
  | n + 1, t, v :: r, o, h => by
    unfold outUs at h
    split at h
    · exact outUs_bytes n t r o h
    · rcases List.mem_append.1 h with h | h
      · unfold outWs at h
        obtain ⟨x, _, rfl⟩ := List.mem_map.1 h
        exact encR_len
      · exact outUs_bytes n _ r o h
theorem outV_bytes {M : LM} {now : Int} : ∀ o ∈ outV M now, o.2.length < 2 ^ 40 := by
  intro o h
  unfold outV at h
  split at h
  · simp at h
  · split at h
    · simp at h
    · rcases List.mem_append.1 h with h | h
      · obtain ⟨x, _, rfl⟩ := List.mem_map.1 h
        exact encR_len
      · exact outUs_bytes _ _ _ o h
def halfF (now : Int) (A B : LM) : Option (LM × LM × List (List Int)) := if outE A now ≠ 0 ∨ 64 < (outV A now).length then none else (inAll now B (outV A now)).map fun r => (outM A now, r.1, r.2)
theorem settle_half {tb bi bj i j n : Nat} {now : Int} {l : List Value} {g x12 x13 : Value} {A B A' B' : LM} {vs vr : List (List Int)} {Li Lj co Db : List Chunk} {sv : List Value} {k1 : Value → Value → Value → WP} {k2 : Value → Value → Value → Value → WP}
    (hij : i + j = 1) (hl : l.length = 10) (li : l[i]? = some (ptr bi 0)) (lj : l[j]? = some (ptr bj 0)) (l5 : l[5]? = some (I now)) (hA : LInv n A) (hB : LInv n B) (hn : n < 50000) (hv : vs.length ≤ n) (hh : halfF now A B = some (A', B', vr))
    (hLi : Lk w0 bi A Li) (hLj : Lk w0 bj B Lj) (hM : MsgP w0 g vs co Db sv) (H : Hp w0 w (⟨tb, 39, l.set (8 + j) g⟩ :: (Li ++ (Lj ++ (co ++ (Db ++ F))))))
    (kk : ∀ w' g' Li' Lj' co' Db' sv', Hp w0 w' (⟨tb, 39, l.set (8 + j) g'⟩ :: (Li' ++ (Lj' ++ (co' ++ (Db' ++ F))))) → Lk w0 bi A' Li' → Lk w0 bj B' Lj' → MsgP w0 g' (vs ++ vr) co' Db' sv' → LInv (n + 64) A' → LInv (n + 64) B' → (vs ++ vr).length ≤ n + 64 → k2 (ptr tb 0) x12 x13 (I ((i + 1 : Nat) : Int)) w') :
    orpimentlaw35_talk_settle_j12 R k1 k2 (ptr tb 0) x12 x13 (I (i : Int)) w := by
  unfold halfF at hh
  split at hh
  · cases hh
  rename_i h0
  have hE : outE A now = 0 := Decidable.not_not.1 fun h => h0 (.inl h)
  have hlen : (outV A now).length ≤ 64 := by
    rcases Nat.lt_or_ge 64 (outV A now).length with h | h
    · exact absurd (.inr h) h0
    · exact h
  obtain ⟨⟨B2, vr2⟩, hA2, hA3⟩ := Option.map_eq_some_iff.1 hh
  simp only [Prod.mk.injEq] at hA3
  obtain ⟨rfl, rfl, rfl⟩ := hA3
  unfold orpimentlaw35_talk_settle_j12
  have ei : ixA 2 1 (ptr tb 0) (I (i : Int)) = some (ptr tb i) := by have := ixA_mk (n := 2) (sz := 1) (b := tb) (o := 0) (k := .i64) (j := i) (by omega); simpa using this
  simp only [ei, pv_some, nilO_ptr, faO_mk, gd_yes, gd_no, gd_yes', gd_no', cnd_true, cnd_false, pick_true, pick_false, not_bool, bin_add, bin_sub, bin_mul, bin_eql, bin_neq, bin_lss, bin_leq, bin_gtr, bin_geq, ext0, ext1, ext2, lenS_mk, eqNil_none, eqNil_some, neNil_none, neNil_some, ret_k, mem, Nat.zero_add, Nat.add_zero, Nat.mul_one, drewV, Bool.not_true, Bool.not_false]
  refine ld_h H.drew 0 rfl (set_ne li (by omega)) ?_
  refine ld_h H.drew 0 rfl (set_ne l5 (by omega)) ?_
  have H1 : Hp w0 w.drew (Li ++ (⟨tb, 39, l.set (8 + j) g⟩ :: (Lj ++ (co ++ (Db ++ F))))) := H.drew.to (by intro f; simp only [I, U8, U64, ptr, List.set_cons_zero, List.set_cons_succ, List.eraseIdx_cons_zero, List.eraseIdx_cons_succ, List.map_append, List.map_cons, List.map_nil, List.sum_append, List.sum_cons, List.sum_nil]; omega)
  refine cal_h (Output_spec (now := now) H1 hLi hA.wf) ?_
  rintro e w2 ⟨s, cf, Df, svf, Li2, rfl, H2, hP, hLi2⟩
  rw [hE]
  simp only [show decide ((0 : Int) ≠ 0) = false from rfl, pv_some, nilO_ptr, faO_mk, gd_yes, gd_no, gd_yes', gd_no', cnd_true, cnd_false, pick_true, pick_false, not_bool, bin_add, bin_sub, bin_mul, bin_eql, bin_neq, bin_lss, bin_leq, bin_gtr, bin_geq, ext0, ext1, ext2, lenS_mk, eqNil_none, eqNil_some, neNil_none, neNil_some, ret_k, mem, Nat.zero_add, Nat.add_zero, Nat.mul_one, drewV, Bool.not_true, Bool.not_false]
  unfold orpimentlaw35_talk_settle_j13 orpimentlaw35_talk_settle_j14
  simp only [lenS_sl hP.sl, pv_some, nilO_ptr, faO_mk, gd_yes, gd_no, gd_yes', gd_no', cnd_true, cnd_false, pick_true, pick_false, not_bool, bin_add, bin_sub, bin_mul, bin_eql, bin_neq, bin_lss, bin_leq, bin_gtr, bin_geq, ext0, ext1, ext2, lenS_mk, eqNil_none, eqNil_some, neNil_none, neNil_some, ret_k, mem, Nat.zero_add, Nat.add_zero, Nat.mul_one, drewV, Bool.not_true, Bool.not_false]
  have H2' : Hp w0 w2 (⟨tb, 39, l.set (8 + j) g⟩ :: (Lj ++ (co ++ (Db ++ (cf ++ (Df ++ (Li2 ++ F))))))) := H2.to (by intro f; simp only [I, U8, U64, ptr, List.set_cons_zero, List.set_cons_succ, List.eraseIdx_cons_zero, List.eraseIdx_cons_succ, List.map_append, List.map_cons, List.map_nil, List.sum_append, List.sum_cons, List.sum_nil]; omega)
  refine ⟨(outV A now).length + 1, ?_⟩
  refine settle_fl (N := n + (outV A now).length) hij hl lj l5 hP outV_bytes (by omega) (by omega) ?_ (outV A now).length 0 n w2 B vs vr2 g Lj co Db sv (by omega) rfl hB hv (by rw [List.drop_zero]; exact hA2) rfl hLj hM H2'
  intro w' g' Lj' co' Db' sv' H3 hLj' hM' hB' hvl
  unfold orpimentlaw35_talk_settle_j11
  simp only [pv_some, nilO_ptr, faO_mk, gd_yes, gd_no, gd_yes', gd_no', cnd_true, cnd_false, pick_true, pick_false, not_bool, bin_add, bin_sub, bin_mul, bin_eql, bin_neq, bin_lss, bin_leq, bin_gtr, bin_geq, ext0, ext1, ext2, lenS_mk, eqNil_none, eqNil_some, neNil_none, neNil_some, ret_k, mem, Nat.zero_add, Nat.add_zero, Nat.mul_one, drewV, Bool.not_true, Bool.not_false]
  rw [wrap64_id (by omega) (by omega), show (i : Int) + 1 = ((i + 1 : Nat) : Int) from by omega]
  exact kk w' g' Li2 Lj' co' Db' sv' (H3.to (by intro f; simp only [I, U8, U64, ptr, List.set_cons_zero, List.set_cons_succ, List.eraseIdx_cons_zero, List.eraseIdx_cons_succ, List.map_append, List.map_cons, List.map_nil, List.sum_append, List.sum_cons, List.sum_nil]; omega)) hLi2 hLj' hM' ((inv_out hA (by omega)).mono (by omega)) (hB'.mono (by omega)) (by omega)
def settleF : Nat → LM → LM → Int → List (List Int) → List (List Int) → Option (LM × LM × Int × List (List Int) × List (List Int))
  | 0, A, B, c, g0, g1 => some (A, B, c, g0, g1)
  | k + 1, A, B, c, g0, g1 => (halfF c A B).bind fun r => (halfF c r.2.1 r.1).bind fun r2 => settleF k r2.2.1 r2.1 (c + 1) (g0 ++ r2.2.2) (g1 ++ r.2.2)
/-- A talk in memory: the links of the program, and what has come. -/
def Tk (w0 : Base) (tb b0 b1 : Nat) (l : List Value) (A B : LM) (c : Int) (v0 v1 : List (List Int)) (L : List Chunk) : Prop :=
  ∃ L0 L1 g0 g1 co0 Db0 sv0 co1 Db1 sv1, Lk w0 b0 A L0 ∧ Lk w0 b1 B L1 ∧ MsgP w0 g0 v0 co0 Db0 sv0 ∧ MsgP w0 g1 v1 co1 Db1 sv1 ∧ l.length = 10 ∧ l[0]? = some (ptr b0 0) ∧ l[1]? = some (ptr b1 0) ∧ l[5]? = some (I c) ∧ l[8]? = some g0 ∧ l[9]? = some g1 ∧
    L = ⟨tb, 39, l⟩ :: (L0 ++ (L1 ++ (co0 ++ (Db0 ++ (co1 ++ Db1)))))
theorem set_self {l : List Value} {q : Nat} {g : Value} (h : l[q]? = some g) : l.set q g = l := by
  obtain ⟨h1, h2⟩ := List.getElem?_eq_some_iff.1 h
  rw [← h2, List.set_getElem_self]
theorem settle_r {tb b0 b1 : Nat} {A' B' : LM} {c' : Int} {v0' v1' : List (List Int)} {x12 : Nat}
    (kk : ∀ w' l' L', Hp w0 w' (L' ++ F) → Tk w0 tb b0 b1 l' A' B' c' v0' v1' L' → LInv 40000 A' → LInv 40000 B' → R (.returned (.bool true)) w') :
    ∀ (d p n : Nat) (w : World) (A B : LM) (c : Int) (v0 v1 : List (List Int)) (l : List Value) (L : List Chunk), p + d = x12 → x12 < 1000 → n + 200 * d < 40000 → LInv n A → LInv n B → v0.length ≤ n → v1.length ≤ n → 0 ≤ c ∧ c + d < 2 ^ 60 → settleF d A B c v0 v1 = some (A', B', c', v0', v1') →
      Tk w0 tb b0 b1 l A B c v0 v1 L → Hp w0 w (L ++ F) → orpimentlaw35_talk_settle_l3 R (d + 1) (ptr tb 0) (I (x12 : Int)) (I (p : Int)) w := by
  intro d
  induction d with
  | zero =>
    intro p n w A B c v0 v1 l L hp hx hn hA hB hv0 hv1 hc hS hT H
    rw [orpimentlaw35_talk_settle_l3_succ]
    unfold orpimentlaw35_talk_settle_b1 orpimentlaw35_talk_settle_j1
    simp only [pv_some, nilO_ptr, faO_mk, gd_yes, gd_no, gd_yes', gd_no', cnd_true, cnd_false, pick_true, pick_false, not_bool, bin_add, bin_sub, bin_mul, bin_eql, bin_neq, bin_lss, bin_leq, bin_gtr, bin_geq, ext0, ext1, ext2, lenS_mk, eqNil_none, eqNil_some, neNil_none, neNil_some, ret_k, mem, Nat.zero_add, Nat.add_zero, Nat.mul_one, drewV, Bool.not_true, Bool.not_false, show decide ((p : Int) < (x12 : Int)) = false from decide_eq_false (by omega)]
    simp only [settleF, Option.some.injEq, Prod.mk.injEq] at hS
    obtain ⟨rfl, rfl, rfl, rfl, rfl⟩ := hS
    exact kk w l L H hT (hA.mono (by omega)) (hB.mono (by omega))
  | succ d ih =>
    intro p n w A B c v0 v1 l L hp hx hn hA hB hv0 hv1 hc hS hT H
    rw [orpimentlaw35_talk_settle_l3_succ]
    unfold orpimentlaw35_talk_settle_b1 orpimentlaw35_talk_settle_j4 orpimentlaw35_talk_settle_j6 orpimentlaw35_talk_settle_j8 orpimentlaw35_talk_settle_j9
    simp only [pv_some, nilO_ptr, faO_mk, gd_yes, gd_no, gd_yes', gd_no', cnd_true, cnd_false, pick_true, pick_false, not_bool, bin_add, bin_sub, bin_mul, bin_eql, bin_neq, bin_lss, bin_leq, bin_gtr, bin_geq, ext0, ext1, ext2, lenS_mk, eqNil_none, eqNil_some, neNil_none, neNil_some, ret_k, mem, Nat.zero_add, Nat.add_zero, Nat.mul_one, drewV, Bool.not_true, Bool.not_false, show decide ((p : Int) < (x12 : Int)) = true from decide_eq_true (by omega)]
    obtain ⟨L0, L1, g0, g1, co0, Db0, sv0, co1, Db1, sv1, hL0, hL1, hM0, hM1, hl, l0, l1, l5, l8, l9, rfl⟩ := hT
    unfold settleF at hS
    obtain ⟨⟨A1, B1, r1⟩, hh1, hS⟩ := Option.bind_eq_some_iff.1 hS
    obtain ⟨⟨B2, A2, r0⟩, hh2, hS⟩ := Option.bind_eq_some_iff.1 hS
    refine ⟨2 + 1, ?_⟩
    show orpimentlaw35_talk_settle_l2 _ _ (2 + 1) _ _ _ _ w
    rw [orpimentlaw35_talk_settle_l2_succ]
    unfold orpimentlaw35_talk_settle_b2 orpimentlaw35_talk_settle_j10
    simp only [show decide ((0 : Int) < 2) = true from rfl, pv_some, nilO_ptr, faO_mk, gd_yes, gd_no, gd_yes', gd_no', cnd_true, cnd_false, pick_true, pick_false, not_bool, bin_add, bin_sub, bin_mul, bin_eql, bin_neq, bin_lss, bin_leq, bin_gtr, bin_geq, ext0, ext1, ext2, lenS_mk, eqNil_none, eqNil_some, neNil_none, neNil_some, ret_k, mem, Nat.zero_add, Nat.add_zero, Nat.mul_one, drewV, Bool.not_true, Bool.not_false]
    have H0 : Hp w0 w (⟨tb, 39, l.set (8 + 1) g1⟩ :: (L0 ++ (L1 ++ (co1 ++ (Db1 ++ (co0 ++ (Db0 ++ F))))))) := by rw [set_self l9]; exact H.to (by intro f; simp only [I, U8, U64, ptr, List.set_cons_zero, List.set_cons_succ, List.eraseIdx_cons_zero, List.eraseIdx_cons_succ, List.map_append, List.map_cons, List.map_nil, List.sum_append, List.sum_cons, List.sum_nil]; omega)
    refine settle_half (i := 0) (j := 1) rfl hl l0 l1 l5 hA hB (by omega) hv1 hh1 hL0 hL1 hM1 H0 fun w2 g1' L0' L1' co1' Db1' sv1' H1 hL0' hL1' hM1' hA1 hB1 hv1' => ?_
    show orpimentlaw35_talk_settle_l2 _ _ (1 + 1) _ _ _ _ w2
    rw [orpimentlaw35_talk_settle_l2_succ]
    unfold orpimentlaw35_talk_settle_b2 orpimentlaw35_talk_settle_j10
    simp only [show decide (((0 + 1 : Nat) : Int) < 2) = true from rfl, pv_some, nilO_ptr, faO_mk, gd_yes, gd_no, gd_yes', gd_no', cnd_true, cnd_false, pick_true, pick_false, not_bool, bin_add, bin_sub, bin_mul, bin_eql, bin_neq, bin_lss, bin_leq, bin_gtr, bin_geq, ext0, ext1, ext2, lenS_mk, eqNil_none, eqNil_some, neNil_none, neNil_some, ret_k, mem, Nat.zero_add, Nat.add_zero, Nat.mul_one, drewV, Bool.not_true, Bool.not_false]
    generalize hl2 : l.set (8 + 1) g1' = l2 at H1
    have hl2l : l2.length = 10 := by rw [← hl2]; simp [hl]
    have l20 : l2[0]? = some (ptr b0 0) := by rw [← hl2]; exact set_ne l0 (by omega)
    have l21 : l2[1]? = some (ptr b1 0) := by rw [← hl2]; exact set_ne l1 (by omega)
    have l25 : l2[5]? = some (I c) := by rw [← hl2]; exact set_ne l5 (by omega)
    have l28 : l2[8]? = some g0 := by rw [← hl2]; exact set_ne l8 (by omega)
    have l29 : l2[9]? = some g1' := by rw [← hl2]; exact List.getElem?_set_self (by omega)
    have H1' : Hp w0 w2 (⟨tb, 39, l2.set (8 + 0) g0⟩ :: (L1' ++ (L0' ++ (co0 ++ (Db0 ++ (co1' ++ (Db1' ++ F))))))) := by rw [set_self l28]; exact H1.to (by intro f; simp only [I, U8, U64, ptr, List.set_cons_zero, List.set_cons_succ, List.eraseIdx_cons_zero, List.eraseIdx_cons_succ, List.map_append, List.map_cons, List.map_nil, List.sum_append, List.sum_cons, List.sum_nil]; omega)
    refine settle_half (i := 1) (j := 0) rfl hl2l l21 l20 l25 hB1 hA1 (by omega) (by omega) hh2 hL1' hL0' hM0 H1' fun w3 g0' L1'' L0'' co0' Db0' sv0' H2 hL1'' hL0'' hM0' hB2 hA2 hv0' => ?_
    show orpimentlaw35_talk_settle_l2 _ _ (0 + 1) _ _ _ _ w3
    rw [orpimentlaw35_talk_settle_l2_succ]
    unfold orpimentlaw35_talk_settle_b2 orpimentlaw35_talk_settle_j7
    simp only [show decide (((1 + 1 : Nat) : Int) < 2) = false from rfl, pv_some, nilO_ptr, faO_mk, gd_yes, gd_no, gd_yes', gd_no', cnd_true, cnd_false, pick_true, pick_false, not_bool, bin_add, bin_sub, bin_mul, bin_eql, bin_neq, bin_lss, bin_leq, bin_gtr, bin_geq, ext0, ext1, ext2, lenS_mk, eqNil_none, eqNil_some, neNil_none, neNil_some, ret_k, mem, Nat.zero_add, Nat.add_zero, Nat.mul_one, drewV, Bool.not_true, Bool.not_false]
    refine ld_h H2 0 rfl (set_ne l25 (by omega)) ?_
    simp only [pv_some, nilO_ptr, faO_mk, gd_yes, gd_no, gd_yes', gd_no', cnd_true, cnd_false, pick_true, pick_false, not_bool, bin_add, bin_sub, bin_mul, bin_eql, bin_neq, bin_lss, bin_leq, bin_gtr, bin_geq, ext0, ext1, ext2, lenS_mk, eqNil_none, eqNil_some, neNil_none, neNil_some, ret_k, mem, Nat.zero_add, Nat.add_zero, Nat.mul_one, drewV, Bool.not_true, Bool.not_false]
    rw [wrap64_id (by omega) (by omega)]
    refine st_h H2 0 rfl (by simp [hl2l]) rfl fun w4 H4 => ?_
    unfold orpimentlaw35_talk_settle_j5
    simp only [pv_some, nilO_ptr, faO_mk, gd_yes, gd_no, gd_yes', gd_no', cnd_true, cnd_false, pick_true, pick_false, not_bool, bin_add, bin_sub, bin_mul, bin_eql, bin_neq, bin_lss, bin_leq, bin_gtr, bin_geq, ext0, ext1, ext2, lenS_mk, eqNil_none, eqNil_some, neNil_none, neNil_some, ret_k, mem, Nat.zero_add, Nat.add_zero, Nat.mul_one, drewV, Bool.not_true, Bool.not_false]
    rw [wrap64_id (by omega) (by omega), show (p : Int) + 1 = ((p + 1 : Nat) : Int) from by omega]
    simp only [List.set_cons_zero] at H4
    generalize hl3 : (l2.set (8 + 0) g0').set 5 (I (c + 1)) = l3 at H4
    have hS' : settleF d A2 B2 (c + 1) (v0 ++ r0) (v1 ++ r1) = some (A', B', c', v0', v1') := hS
    refine ih (p + 1) (n + 64 + 64) w4 A2 B2 (c + 1) (v0 ++ r0) (v1 ++ r1) l3 (⟨tb, 39, l3⟩ :: (L0'' ++ (L1'' ++ (co0' ++ (Db0' ++ (co1' ++ Db1')))))) (by omega) hx (by omega) hA2 hB2 (by omega) (by omega) (by omega) hS' ⟨L0'', L1'', g0', g1', co0', Db0', sv0', co1', Db1', sv1', hL0'', hL1'', hM0', hM1', ?_, ?_, ?_, ?_, ?_, ?_, rfl⟩ (H4.to (by intro f; simp only [I, U8, U64, ptr, List.set_cons_zero, List.set_cons_succ, List.eraseIdx_cons_zero, List.eraseIdx_cons_succ, List.map_append, List.map_cons, List.map_nil, List.sum_append, List.sum_cons, List.sum_nil]; omega))
    · rw [← hl3]; simp [hl2l]
    · rw [← hl3]; exact set_ne (set_ne l20 (by omega)) (by omega)
    · rw [← hl3]; exact set_ne (set_ne l21 (by omega)) (by omega)
    · rw [← hl3]; exact List.getElem?_set_self (by simp [hl2l])
    · rw [← hl3]; exact set_ne (List.getElem?_set_self (by omega)) (by omega)
    · rw [← hl3]; exact set_ne (set_ne l29 (by omega)) (by omega)
theorem settle_spec {tb b0 b1 n d : Nat} {A B A' B' : LM} {c c' : Int} {v0 v1 v0' v1' : List (List Int)} {l : List Value} (H : Hp w0 w (L ++ F)) (hT : Tk w0 tb b0 b1 l A B c v0 v1 L) (hd : d < 1000) (hn : n + 200 * d < 40000) (hA : LInv n A) (hB : LInv n B) (hv0 : v0.length ≤ n) (hv1 : v1.length ≤ n) (hc : 0 ≤ c ∧ c + d < 2 ^ 60) (hS : settleF d A B c v0 v1 = some (A', B', c', v0', v1')) :
    Calls Pg 27 ⟨[ptr tb 0, I (d : Int)]⟩ w fun e w' => ∃ l' L', e = .returned (.bool true) ∧ Hp w0 w' (L' ++ F) ∧ Tk w0 tb b0 b1 l' A' B' c' v0' v1' L' ∧ LInv 40000 A' ∧ LInv 40000 B' := by
  apply orpimentlaw35_talk_settle_calls
  unfold orpimentlaw35_talk_settle orpimentlaw35_talk_settle_j2 orpimentlaw35_talk_settle_j3
  exact ⟨d + 1, settle_r (fun w' l' L' H' hT' i1 i2 => ⟨l', L', rfl, H', hT', i1, i2⟩) d 0 n w A B c v0 v1 l L (by omega) hd hn hA hB hv0 hv1 hc hS hT H⟩
end
end Go.Proofs.Ytmnpndgmfmjfhaa.Den
