/- Links: the reference's Output. Conditions: none. -/
import Derived.Test.YtmnpndgmfmjfhaaQ12
section
set_option linter.unusedVariables false
set_option linter.unusedSimpArgs false
set_option maxRecDepth 8000
namespace Go.Proofs.Ytmnpndgmfmjfhaa.Den
open Go Go.RowKit
section
variable {w w' : World} {w0 : Base} {F L : List Chunk} {R : ER}
/-- One frame more. -/
theorem rout_app {s s' : Value} {os : List OM} {co Db cs : List Chunk} {sv : List Value} {x : Int} {ys : List Int} {K : VK} {ty : Nat} {cc : Array Bool} (hP : OutP 145 w0 s os co Db sv) (hs' : Sl 5 1 s' ys.length (bv ys) cs) (hlen : os.length < 2 ^ 30)
    (H : Hp w0 w (cs ++ (co ++ (Db ++ F)))) (k : ∀ w' s2 co2, OutP 145 w0 s2 (os ++ [(x, ys)]) co2 (cs ++ Db) (sv ++ [s']) → Hp w0 w' (co2 ++ ((cs ++ Db) ++ F)) → K s2 w') :
    valV Pg R (Instr.buildSlice 127 1 ⟨[(0, .agg ⟨[I x, s']⟩)]⟩) (fun v => blt Pg R .append ⟨[127, 127]⟩ ty cc ⟨[s, v]⟩ K) w := by
  refine lit1_h (v := .agg ⟨[I x, s']⟩) elT127 H rfl (by omega) fun w1 nb H1 => ?_
  have H1' : Hp w0 w1 (⟨nb, 145, [I x, s']⟩ :: (cs ++ (co ++ (Db ++ F)))) := H1
  have H2 : Hp w0 w1 (co ++ (⟨nb, 145, [I x, s']⟩ :: ((cs ++ Db) ++ F))) := H1'.to (by intro f; simp only [I, U8, U64, ptr, List.set_cons_zero, List.set_cons_succ, List.eraseIdx_cons_zero, List.eraseIdx_cons_succ, List.map_append, List.map_cons, List.map_nil, List.sum_append, List.sum_cons, List.sum_nil]; omega)
  refine append_h elT127 H2 hP.sl (m := 1) (ys := [I x, s']) (.inr ⟨nb, 0, 1, 145, [I x, s'], rfl, by omega, by simp, by simp, rfl⟩)
    (by intro c hc; simp at hc; rcases hc with rfl | rfl <;> first | rfl | exact sl_sc hs') (by omega) (by omega) fun w3 s3 cs3 H3 h3 => ?_
  refine k w3 s3 cs3 ⟨?_, by simp [hP.svl], ?_⟩ (H3.to (by intro f; simp only [I, U8, U64, ptr, List.set_cons_zero, List.set_cons_succ, List.eraseIdx_cons_zero, List.eraseIdx_cons_succ, List.map_append, List.map_cons, List.map_nil, List.sum_append, List.sum_cons, List.sum_nil]; omega))
  · rw [ocells_append hP.svl]
    have e : ocells [(x, ys)] [s'] = [I x, s'] := by simp [ocells, ocell]
    rw [e, List.length_append]; exact h3
  · intro i o v ho hv
    by_cases hi : i < os.length
    · rw [List.getElem?_append_left hi] at ho
      rw [List.getElem?_append_left (by rw [hP.svl]; exact hi)] at hv
      exact (hP.dat i o v ho hv).mono (fun c hc => by simp [hc])
    · rw [List.getElem?_append_right (by omega)] at ho
      rw [List.getElem?_append_right (by rw [hP.svl]; omega), hP.svl] at hv
      have hi0 : i - os.length = 0 := by
        have := (List.getElem?_eq_some_iff.1 ho).1
        simp at this; omega
      rw [hi0] at ho hv
      simp only [List.getElem?_cons_zero, Option.some.injEq] at ho hv
      subst ho; subst hv
      exact hs'.rdL (fun c hc => by simp [hc])
theorem renc_call {k m f : Int} {last : Bool} {s : Value} {d : List Int} {K : VK} (hs : RdL w0 F 1 s d.length (bv d)) (H : Hp w0 w F)
    (k1 : ∀ w' s' cs er, Hp w0 w' (cs ++ F) → Sl 5 1 s' (encR k last m f d).length (bv (encR k last m f d)) cs → K (.tuple ⟨[s', I er]⟩) w') : cal Pg R 17 ⟨[.agg ⟨frm k last m f s⟩]⟩ K w := by
  refine cal_h (rEncode_spec hs H) ?_
  rintro e w' ⟨s', n', ys, cs, rfl, H', hs', h1, h2⟩
  refine k1 w' s' cs _ H' ?_
  unfold encR
  by_cases he : encE k last m f d.length = 0
  · obtain ⟨g1, g2, g3⟩ := h2 he
    rw [if_pos he, encB_length, ← g2, ← g3]; exact hs'
  · obtain ⟨g1, g2, g3⟩ := h1 he
    rw [if_neg he]; subst g1; subst g3; exact hs'
/-- The acknowledgments that are due. -/
theorem rout_acks {b : Nat} {M : LM} {su sus sp sa sw x1 x8 : Value} {cu ca cw : List Chunk} {ws : List Int} {G : List Chunk} (hup : Sl 4 1 su M.up.length (M.up.map .bool) cu)
    (hca : Sl 144 6 sa M.acks.length (acells M.acks) ca) (hcw : Sl 3 1 sw ws.length (iv ws) cw) (hws : 0 < ws.length) (hw : ∀ a ∈ M.acks, a.w < M.up.length) (hal : M.acks.length < 2 ^ 29)
    (h1 : ∀ c ∈ cu, c ∈ G) (h2 : ∀ c ∈ ca, c ∈ G) (h3 : ∀ c ∈ cw, c ∈ G)
    (hq : ∀ w' s co Db sv, OutP 145 w0 s (M.acks.map (outAck M.up ws)) co Db sv → Hp w0 w' (co ++ (Db ++ (⟨b, 125, rlc M su sus sp sa⟩ :: G))) → F54_j3 R (ptr b 0) x1 sw x8 s w') :
    ∀ (d i : Nat) (w : World) (s : Value) (co Db : List Chunk) (sv : List Value), i + d = M.acks.length → OutP 145 w0 s ((M.acks.take i).map (outAck M.up ws)) co Db sv → Hp w0 w (co ++ (Db ++ (⟨b, 125, rlc M su sus sp sa⟩ :: G))) →
      F54_l3 R (d + 1) (ptr b 0) x1 sw x8 s (I (i : Int)) w := by
  intro d
  induction d with
  | zero =>
    intro i w s co Db sv hi hP H
    rw [F54_l3_succ]
    unfold F54_b3
    have H0 : Hp w0 w (⟨b, 125, rlc M su sus sp sa⟩ :: (co ++ (Db ++ G))) := H.to (by intro f; simp only [I, U8, U64, ptr, List.set_cons_zero, List.set_cons_succ, List.eraseIdx_cons_zero, List.eraseIdx_cons_succ, List.map_append, List.map_cons, List.map_nil, List.sum_append, List.sum_cons, List.sum_nil]; omega)
    simp only [pv_some, nilO_ptr, faO_mk, gd_yes, gd_no, gd_yes', gd_no', cnd_true, cnd_false, pick_true, pick_false, not_bool, bin_add, bin_sub, bin_mul, bin_eql, bin_neq, bin_lss, bin_leq, bin_gtr, bin_geq, ext0, ext1, ext2, lenS_mk, eqNil_none, eqNil_some, neNil_none, neNil_some, ret_k, mem, Nat.zero_add, Nat.add_zero, Nat.mul_one, drewV, Bool.not_true, Bool.not_false]
    refine ld_h H0 0 rfl rfl ?_
    simp only [lenS_sl hca, pv_some, nilO_ptr, faO_mk, gd_yes, gd_no, gd_yes', gd_no', cnd_true, cnd_false, pick_true, pick_false, not_bool, bin_add, bin_sub, bin_mul, bin_eql, bin_neq, bin_lss, bin_leq, bin_gtr, bin_geq, ext0, ext1, ext2, lenS_mk, eqNil_none, eqNil_some, neNil_none, neNil_some, ret_k, mem, Nat.zero_add, Nat.add_zero, Nat.mul_one, drewV, Bool.not_true, Bool.not_false]
    simp only [show decide ((i : Int) < (M.acks.length : Int)) = false from decide_eq_false (by omega), pv_some, nilO_ptr, faO_mk, gd_yes, gd_no, gd_yes', gd_no', cnd_true, cnd_false, pick_true, pick_false, not_bool, bin_add, bin_sub, bin_mul, bin_eql, bin_neq, bin_lss, bin_leq, bin_gtr, bin_geq, ext0, ext1, ext2, lenS_mk, eqNil_none, eqNil_some, neNil_none, neNil_some, ret_k, mem, Nat.zero_add, Nat.add_zero, Nat.mul_one, drewV, Bool.not_true, Bool.not_false]
    rw [List.take_of_length_le (by omega)] at hP
    exact hq w s co Db sv hP H
  | succ d ih =>
    intro i w s co Db sv hi hP H
    rw [F54_l3_succ]
    unfold F54_b3
    have hlt : i < M.acks.length := by omega
    obtain ⟨a, ha⟩ : ∃ a, M.acks[i]? = some a := ⟨_, List.getElem?_eq_getElem hlt⟩
    have haw := hw a (List.mem_of_getElem? ha)
    have H0 : Hp w0 w (⟨b, 125, rlc M su sus sp sa⟩ :: (co ++ (Db ++ G))) := H.to (by intro f; simp only [I, U8, U64, ptr, List.set_cons_zero, List.set_cons_succ, List.eraseIdx_cons_zero, List.eraseIdx_cons_succ, List.map_append, List.map_cons, List.map_nil, List.sum_append, List.sum_cons, List.sum_nil]; omega)
    simp only [pv_some, nilO_ptr, faO_mk, gd_yes, gd_no, gd_yes', gd_no', cnd_true, cnd_false, pick_true, pick_false, not_bool, bin_add, bin_sub, bin_mul, bin_eql, bin_neq, bin_lss, bin_leq, bin_gtr, bin_geq, ext0, ext1, ext2, lenS_mk, eqNil_none, eqNil_some, neNil_none, neNil_some, ret_k, mem, Nat.zero_add, Nat.add_zero, Nat.mul_one, drewV, Bool.not_true, Bool.not_false]
    refine ld_h H0 0 rfl rfl ?_
    simp only [lenS_sl hca, pv_some, nilO_ptr, faO_mk, gd_yes, gd_no, gd_yes', gd_no', cnd_true, cnd_false, pick_true, pick_false, not_bool, bin_add, bin_sub, bin_mul, bin_eql, bin_neq, bin_lss, bin_leq, bin_gtr, bin_geq, ext0, ext1, ext2, lenS_mk, eqNil_none, eqNil_some, neNil_none, neNil_some, ret_k, mem, Nat.zero_add, Nat.add_zero, Nat.mul_one, drewV, Bool.not_true, Bool.not_false]
    simp only [show decide ((i : Int) < (M.acks.length : Int)) = true from decide_eq_true (by omega), lenS_sl hcw, pv_some, nilO_ptr, faO_mk, gd_yes, gd_no, gd_yes', gd_no', cnd_true, cnd_false, pick_true, pick_false, not_bool, bin_add, bin_sub, bin_mul, bin_eql, bin_neq, bin_lss, bin_leq, bin_gtr, bin_geq, ext0, ext1, ext2, lenS_mk, eqNil_none, eqNil_some, neNil_none, neNil_some, ret_k, mem, Nat.zero_add, Nat.add_zero, Nat.mul_one, drewV, Bool.not_true, Bool.not_false]
    simp only [show decide ((0 : Int) < (ws.length : Int)) = true from decide_eq_true (by omega), pv_some, nilO_ptr, faO_mk, gd_yes, gd_no, gd_yes', gd_no', cnd_true, cnd_false, pick_true, pick_false, not_bool, bin_add, bin_sub, bin_mul, bin_eql, bin_neq, bin_lss, bin_leq, bin_gtr, bin_geq, ext0, ext1, ext2, lenS_mk, eqNil_none, eqNil_some, neNil_none, neNil_some, ret_k, mem, Nat.zero_add, Nat.add_zero, Nat.mul_one, drewV, Bool.not_true, Bool.not_false]
    unfold F54_j26 F54_j28
    simp only [pv_some, nilO_ptr, faO_mk, gd_yes, gd_no, gd_yes', gd_no', cnd_true, cnd_false, pick_true, pick_false, not_bool, bin_add, bin_sub, bin_mul, bin_eql, bin_neq, bin_lss, bin_leq, bin_gtr, bin_geq, ext0, ext1, ext2, lenS_mk, eqNil_none, eqNil_some, neNil_none, neNil_some, ret_k, mem, Nat.zero_add, Nat.add_zero, Nat.mul_one, drewV, Bool.not_true, Bool.not_false]
    refine ld_h H0 0 rfl rfl ?_
    obtain ⟨ba, cap, rest, hca', hsa, g1, g2, g3⟩ := hca.chunk (by omega)
    have eix : ixS 6 sa (I (i : Int)) = some (ptr ba (i * 6)) := by rw [hsa]; have := ixS_mk (sz := 6) (b := ba) (o := 0) (c := cap) (n := M.acks.length) (j := i) (k := .i64) hlt; simpa using this
    have hlen := acells_len M.acks
    simp only [eix, pv_some, nilO_ptr, faO_mk, gd_yes, gd_no, gd_yes', gd_no', cnd_true, cnd_false, pick_true, pick_false, not_bool, bin_add, bin_sub, bin_mul, bin_eql, bin_neq, bin_lss, bin_leq, bin_gtr, bin_geq, ext0, ext1, ext2, lenS_mk, eqNil_none, eqNil_some, neNil_none, neNil_some, ret_k, mem, Nat.zero_add, Nat.add_zero, Nat.mul_one, drewV, Bool.not_true, Bool.not_false]
    have hcell : ((acells M.acks ++ rest).drop (i * 6 + 1)).take 5 = frm 2 false a.m a.f (.slice none 0 0) := by
      apply List.ext_getElem?
      intro m
      rw [List.getElem?_take]
      by_cases hm : m < 5
      · rw [if_pos hm, List.getElem?_drop, List.getElem?_append_left (by rw [hlen]; omega), Nat.add_assoc, acells_get ha (by omega)]
        have : m = 0 ∨ m = 1 ∨ m = 2 ∨ m = 3 ∨ m = 4 := by omega
        rcases this with rfl | rfl | rfl | rfl | rfl <;> rfl
      · rw [if_neg hm, List.getElem?_eq_none (by simp [frm]; omega)]
    have hmem : (⟨ba, 144, acells M.acks ++ rest⟩ : Chunk) ∈ ⟨b, 125, rlc M su sus sp sa⟩ :: (co ++ (Db ++ G)) := by
      have : (⟨ba, 144, acells M.acks ++ rest⟩ : Chunk) ∈ G := h2 _ (by rw [hca']; simp)
      simp [this]
    refine ldN_blk (H0.blk _ hmem).2 (by show _ ≤ (acells M.acks ++ rest).length; rw [List.length_append, hlen]; omega) ?_
    rw [show ((acells M.acks ++ rest).drop (i * 6 + 1)).take 5 = frm 2 false a.m a.f (.slice none 0 0) from hcell]
    refine renc_call (d := []) (k := 2) (last := false) (m := a.m) (f := a.f) (s := .slice none 0 0) rdnil H0 fun w5 s5 cs5 er H5 h5 => ?_
    simp only [pv_some, nilO_ptr, faO_mk, gd_yes, gd_no, gd_yes', gd_no', cnd_true, cnd_false, pick_true, pick_false, not_bool, bin_add, bin_sub, bin_mul, bin_eql, bin_neq, bin_lss, bin_leq, bin_gtr, bin_geq, ext0, ext1, ext2, lenS_mk, eqNil_none, eqNil_some, neNil_none, neNil_some, ret_k, mem, Nat.zero_add, Nat.add_zero, Nat.mul_one, drewV, Bool.not_true, Bool.not_false]
    have H6 : Hp w0 w5 (⟨b, 125, rlc M su sus sp sa⟩ :: (cs5 ++ (co ++ (Db ++ G)))) := H5.to (by intro f; simp only [I, U8, U64, ptr, List.set_cons_zero, List.set_cons_succ, List.eraseIdx_cons_zero, List.eraseIdx_cons_succ, List.map_append, List.map_cons, List.map_nil, List.sum_append, List.sum_cons, List.sum_nil]; omega)
    refine ld_h H6 0 rfl rfl ?_
    simp only [eix, pv_some, nilO_ptr, faO_mk, gd_yes, gd_no, gd_yes', gd_no', cnd_true, cnd_false, pick_true, pick_false, not_bool, bin_add, bin_sub, bin_mul, bin_eql, bin_neq, bin_lss, bin_leq, bin_gtr, bin_geq, ext0, ext1, ext2, lenS_mk, eqNil_none, eqNil_some, neNil_none, neNil_some, ret_k, mem, Nat.zero_add, Nat.add_zero, Nat.mul_one, drewV, Bool.not_true, Bool.not_false]
    have hmem6 : (⟨ba, 144, acells M.acks ++ rest⟩ : Chunk) ∈ ⟨b, 125, rlc M su sus sp sa⟩ :: (cs5 ++ (co ++ (Db ++ G))) := by
      have : (⟨ba, 144, acells M.acks ++ rest⟩ : Chunk) ∈ G := h2 _ (by rw [hca']; simp)
      simp [this]
    refine ld1_blk (H6.blk _ hmem6).2 (v := I (a.w : Int)) (get_left (by have := acells_get ha (j := 0) (by omega); simpa [acell] using this)) ?_
    refine ld_h H6 0 rfl rfl ?_
    have hrd := (hup.rdL (w0 := w0) (L := ⟨b, 125, rlc M su sus sp sa⟩ :: (cs5 ++ (co ++ (Db ++ G)))) (fun c hc => by simp [h1 c hc])).rd H6
    refine ix1_rd (v := .bool M.up[a.w]) hrd (by simp [haw]) ?_
    have fin : ∀ {x : Int}, x = (outAck M.up ws a).1 → F54_j29 R (F54_l3 R (d + 1)) (ptr b 0) x1 sw x8 s (I (i : Int)) s5 (I x) w5 := by
      intro x hx
      unfold F54_j29
      rw [bldO2 (sl_cells h5)]
      simp only [pv_some, nilO_ptr, faO_mk, gd_yes, gd_no, gd_yes', gd_no', cnd_true, cnd_false, pick_true, pick_false, not_bool, bin_add, bin_sub, bin_mul, bin_eql, bin_neq, bin_lss, bin_leq, bin_gtr, bin_geq, ext0, ext1, ext2, lenS_mk, eqNil_none, eqNil_some, neNil_none, neNil_some, ret_k, mem, Nat.zero_add, Nat.add_zero, Nat.mul_one, drewV, Bool.not_true, Bool.not_false]
      have H7 : Hp w0 w5 (cs5 ++ (co ++ (Db ++ (⟨b, 125, rlc M su sus sp sa⟩ :: G)))) := H6.to (by intro f; simp only [I, U8, U64, ptr, List.set_cons_zero, List.set_cons_succ, List.eraseIdx_cons_zero, List.eraseIdx_cons_succ, List.map_append, List.map_cons, List.map_nil, List.sum_append, List.sum_cons, List.sum_nil]; omega)
      refine rout_app (x := x) (ys := encR 2 false a.m a.f []) hP h5 (by simp; omega) H7 fun w7 s7 co7 hP7 H7 => ?_
      unfold F54_j27
      try simp only [pv_some, nilO_ptr, faO_mk, gd_yes, gd_no, gd_yes', gd_no', cnd_true, cnd_false, pick_true, pick_false, not_bool, bin_add, bin_sub, bin_mul, bin_eql, bin_neq, bin_lss, bin_leq, bin_gtr, bin_geq, ext0, ext1, ext2, lenS_mk, eqNil_none, eqNil_some, neNil_none, neNil_some, ret_k, mem, Nat.zero_add, Nat.add_zero, Nat.mul_one, drewV, Bool.not_true, Bool.not_false]
      rw [wrap64_id (by omega) (by omega), show (i : Int) + 1 = ((i + 1 : Nat) : Int) from by omega]
      refine ih (i + 1) w7 s7 co7 (cs5 ++ Db) (sv ++ [s5]) (by omega) ?_ H7
      have : (M.acks.take (i + 1)).map (outAck M.up ws) = (M.acks.take i).map (outAck M.up ws) ++ [(x, encR 2 false a.m a.f [])] := by
        rw [List.take_add_one, ha]; simp [hx, outAck]
      rw [this]; exact hP7
    cases hb : M.up[a.w] with
    | true =>
      simp only [pv_some, nilO_ptr, faO_mk, gd_yes, gd_no, gd_yes', gd_no', cnd_true, cnd_false, pick_true, pick_false, not_bool, bin_add, bin_sub, bin_mul, bin_eql, bin_neq, bin_lss, bin_leq, bin_gtr, bin_geq, ext0, ext1, ext2, lenS_mk, eqNil_none, eqNil_some, neNil_none, neNil_some, ret_k, mem, Nat.zero_add, Nat.add_zero, Nat.mul_one, drewV, Bool.not_true, Bool.not_false]
      refine fin (x := (a.w : Int)) ?_
      unfold outAck; rw [if_pos (by simp [haw, hb])]
    | false =>
      simp only [pv_some, nilO_ptr, faO_mk, gd_yes, gd_no, gd_yes', gd_no', cnd_true, cnd_false, pick_true, pick_false, not_bool, bin_add, bin_sub, bin_mul, bin_eql, bin_neq, bin_lss, bin_leq, bin_gtr, bin_geq, ext0, ext1, ext2, lenS_mk, eqNil_none, eqNil_some, neNil_none, neNil_some, ret_k, mem, Nat.zero_add, Nat.add_zero, Nat.mul_one, drewV, Bool.not_true, Bool.not_false]
      have hrw := (hcw.rdL (w0 := w0) (L := ⟨b, 125, rlc M su sus sp sa⟩ :: (cs5 ++ (co ++ (Db ++ G)))) (fun c hc => by simp [h3 c hc])).rd H6
      have hw0 : (iv ws)[0]? = some (I (ws.headD 0)) := by
        cases ws with
        | nil => simp at hws
        | cons x r => rfl
      refine ix1_rd (j := 0) hrw hw0 ?_
      refine fin (x := ws.headD 0) ?_
      unfold outAck; rw [if_neg (by simp [haw, hb])]
theorem OutP.mono {t : Nat} {s : Value} {os : List OM} {co Db Db' : List Chunk} {sv : List Value} (h : OutP t w0 s os co Db sv) (hD : ∀ c ∈ Db, c ∈ Db') : OutP t w0 s os co Db' sv :=
  ⟨h.sl, h.svl, fun i o s h1 h2 => (h.dat i o s h1 h2).mono hD⟩
theorem rout_app2 {s s' : Value} {os : List OM} {co Db : List Chunk} {sv : List Value} {x : Int} {ys : List Int} {K : VK} {ty : Nat} {cc : Array Bool} (hP : OutP 145 w0 s os co Db sv) (hs' : RdL w0 Db 1 s' ys.length (bv ys)) (hlen : os.length < 2 ^ 30)
    (H : Hp w0 w (co ++ (Db ++ F))) (k : ∀ w' s2 co2, OutP 145 w0 s2 (os ++ [(x, ys)]) co2 Db (sv ++ [s']) → Hp w0 w' (co2 ++ (Db ++ F)) → K s2 w') :
    valV Pg R (Instr.buildSlice 127 1 ⟨[(0, .agg ⟨[I x, s']⟩)]⟩) (fun v => blt Pg R .append ⟨[127, 127]⟩ ty cc ⟨[s, v]⟩ K) w := by
  refine lit1_h (v := .agg ⟨[I x, s']⟩) elT127 H rfl (by omega) fun w1 nb H1 => ?_
  have H1' : Hp w0 w1 (⟨nb, 145, [I x, s']⟩ :: (co ++ (Db ++ F))) := H1
  have H2 : Hp w0 w1 (co ++ (⟨nb, 145, [I x, s']⟩ :: (Db ++ F))) := H1'.to (by intro f; simp only [I, U8, U64, ptr, List.set_cons_zero, List.set_cons_succ, List.eraseIdx_cons_zero, List.eraseIdx_cons_succ, List.map_append, List.map_cons, List.map_nil, List.sum_append, List.sum_cons, List.sum_nil]; omega)
  refine append_h elT127 H2 hP.sl (m := 1) (ys := [I x, s']) (.inr ⟨nb, 0, 1, 145, [I x, s'], rfl, by omega, by simp, by simp, rfl⟩)
    (by intro c hc; simp at hc; rcases hc with rfl | rfl <;> first | rfl | exact (rd_cells hs').2) (by omega) (by omega) fun w3 s3 cs3 H3 h3 => ?_
  refine k w3 s3 cs3 ⟨?_, by simp [hP.svl], ?_⟩ (H3.to (by intro f; simp only [I, U8, U64, ptr, List.set_cons_zero, List.set_cons_succ, List.eraseIdx_cons_zero, List.eraseIdx_cons_succ, List.map_append, List.map_cons, List.map_nil, List.sum_append, List.sum_cons, List.sum_nil]; omega))
  · rw [ocells_append hP.svl]
    have e : ocells [(x, ys)] [s'] = [I x, s'] := by simp [ocells, ocell]
    rw [e, List.length_append]; exact h3
  · intro i o v ho hv
    by_cases hi : i < os.length
    · rw [List.getElem?_append_left hi] at ho
      rw [List.getElem?_append_left (by rw [hP.svl]; exact hi)] at hv
      exact hP.dat i o v ho hv
    · rw [List.getElem?_append_right (by omega)] at ho
      rw [List.getElem?_append_right (by rw [hP.svl]; omega), hP.svl] at hv
      have hi0 : i - os.length = 0 := by
        have := (List.getElem?_eq_some_iff.1 ho).1
        simp at this; omega
      rw [hi0] at ho hv
      simp only [List.getElem?_cons_zero, Option.some.injEq] at ho hv
      subst ho; subst hv
      exact hs'
/-- One unit over all wires. -/
theorem rout_all {x0 x1 sw x8 x14 s5 : Value} {u : UM} {ws : List Int} {cw Db : List Chunk} {G : List Chunk} {os0 : List OM}
    {k1 : V6} (hcw : Sl 3 1 sw ws.length (iv ws) cw) (h3 : ∀ c ∈ cw, c ∈ G) (h5 : RdL w0 Db 1 s5 (encR 1 u.last u.m u.f u.d).length (bv (encR 1 u.last u.m u.f u.d))) (hwl : ws.length < 2 ^ 29) (hos : os0.length < 2 ^ 29)
    (hq : ∀ w' s co sv2, OutP 145 w0 s (os0 ++ outWs u ws) co Db sv2 → Hp w0 w' (co ++ (Db ++ G)) → F54_j10 R k1 x0 x1 sw x8 s x14 w') :
    ∀ (d j : Nat) (w : World) (s : Value) (co : List Chunk) (sv2 : List Value), j + d = ws.length → OutP 145 w0 s (os0 ++ outWs u (ws.take j)) co Db sv2 → Hp w0 w (co ++ (Db ++ G)) →
      F54_l1 R k1 (d + 1) x0 x1 sw x8 s x14 s5 (I (j : Int)) w := by
  intro d
  induction d with
  | zero =>
    intro j w s co sv2 hj hP H
    rw [F54_l1_succ]
    unfold F54_b2
    simp only [lenS_sl hcw, pv_some, nilO_ptr, faO_mk, gd_yes, gd_no, gd_yes', gd_no', cnd_true, cnd_false, pick_true, pick_false, not_bool, bin_add, bin_sub, bin_mul, bin_eql, bin_neq, bin_lss, bin_leq, bin_gtr, bin_geq, ext0, ext1, ext2, lenS_mk, eqNil_none, eqNil_some, neNil_none, neNil_some, ret_k, mem, Nat.zero_add, Nat.add_zero, Nat.mul_one, drewV, Bool.not_true, Bool.not_false, show decide ((j : Int) < (ws.length : Int)) = false from decide_eq_false (by omega)]
    rw [List.take_of_length_le (by omega)] at hP
    exact hq w s co sv2 hP H
  | succ d ih =>
    intro j w s co sv2 hj hP H
    rw [F54_l1_succ]
    unfold F54_b2 F54_j22
    have hlt : j < ws.length := by omega
    simp only [lenS_sl hcw, pv_some, nilO_ptr, faO_mk, gd_yes, gd_no, gd_yes', gd_no', cnd_true, cnd_false, pick_true, pick_false, not_bool, bin_add, bin_sub, bin_mul, bin_eql, bin_neq, bin_lss, bin_leq, bin_gtr, bin_geq, ext0, ext1, ext2, lenS_mk, eqNil_none, eqNil_some, neNil_none, neNil_some, ret_k, mem, Nat.zero_add, Nat.add_zero, Nat.mul_one, drewV, Bool.not_true, Bool.not_false, show decide ((j : Int) < (ws.length : Int)) = true from decide_eq_true (by omega)]
    have hrd := (hcw.rdL (w0 := w0) (L := co ++ (Db ++ G)) (fun c hc => by simp [h3 c hc])).rd H
    refine ix1_rd (v := I ws[j]) hrd (by simp [iv, hlt]) ?_
    rw [bldO2 (rd_cells h5).1]
    try simp only [pv_some, nilO_ptr, faO_mk, gd_yes, gd_no, gd_yes', gd_no', cnd_true, cnd_false, pick_true, pick_false, not_bool, bin_add, bin_sub, bin_mul, bin_eql, bin_neq, bin_lss, bin_leq, bin_gtr, bin_geq, ext0, ext1, ext2, lenS_mk, eqNil_none, eqNil_some, neNil_none, neNil_some, ret_k, mem, Nat.zero_add, Nat.add_zero, Nat.mul_one, drewV, Bool.not_true, Bool.not_false]
    refine rout_app2 (x := ws[j]) (ys := encR 1 u.last u.m u.f u.d) hP h5 (by simp [outWs]; omega) H fun w7 s7 co7 hP7 H7 => ?_
    try simp only [pv_some, nilO_ptr, faO_mk, gd_yes, gd_no, gd_yes', gd_no', cnd_true, cnd_false, pick_true, pick_false, not_bool, bin_add, bin_sub, bin_mul, bin_eql, bin_neq, bin_lss, bin_leq, bin_gtr, bin_geq, ext0, ext1, ext2, lenS_mk, eqNil_none, eqNil_some, neNil_none, neNil_some, ret_k, mem, Nat.zero_add, Nat.add_zero, Nat.mul_one, drewV, Bool.not_true, Bool.not_false]
    rw [wrap64_id (by omega) (by omega), show (j : Int) + 1 = ((j + 1 : Nat) : Int) from by omega]
    refine ih (j + 1) w7 s7 co7 (sv2 ++ [s5]) (by omega) ?_ H7
    have : os0 ++ outWs u (ws.take (j + 1)) = os0 ++ outWs u (ws.take j) ++ [(ws[j], encR 1 u.last u.m u.f u.d)] := by
      unfold outWs; rw [List.take_add_one, getElem_of_lt hlt, List.map_append, List.append_assoc]; rfl
    rw [this]; exact hP7
/-- The units of the window. -/
theorem rout_units {b bu cap N : Nat} {now : Int} {M0 : LM} {su sp sa sw : Value} {cw D G : List Chunk} {sv rest : List Value} {ws : List Int} {again : Bool}
    (hsu : Sl 3 1 sw ws.length (iv ws) cw) (hcw : ∀ c ∈ cw, c ∈ G) (hD : ∀ c ∈ D, c ∈ G) (hws : 0 < ws.length) (hws8 : ws.length < 2 ^ 10) (hN : N < 2 ^ 40) (hsvl : sv.length = N) (hqq : M0.quality = 0 ∨ M0.quality = 1 ∨ M0.quality = 2) :
    ∀ (d i : Nat) (w : World) (pre post : List UM) (t : Int) (os : List OM) (s : Value) (co Db : List Chunk) (sv2 : List Value), i + d = 8 → pre.length = i → (pre ++ post).length = N → 0 ≤ t → t < 1125899906842624 + (i : Int) → os.length + d * 4096 < 268435456 →
      (∀ (i : Nat) (u : UM) (s : Value), (pre ++ post)[i]? = some u → sv[i]? = some s → RdL w0 D 1 s u.d.length (bv u.d) ∧ s.cells = #[s] ∧ scalar s = true) →
      OutP 145 w0 s os co Db sv2 → Hp w0 w (co ++ (Db ++ (⟨b, 125, rlc { M0 with us := pre ++ post, turn := t } su (.slice (some ⟨bu, 0, none⟩) N cap) sp sa⟩ :: ⟨bu, 141, ucells (pre ++ post) sv ++ rest⟩ :: G))) →
      (∀ w' s' co' Db' sv2', OutP 145 w0 s' (os ++ (outUs again now M0.quality ws d t post).1) co' Db' sv2' →
        (∀ (i : Nat) (u : UM) (s : Value), (pre ++ (outUs again now M0.quality ws d t post).2.1)[i]? = some u → sv[i]? = some s → RdL w0 D 1 s u.d.length (bv u.d) ∧ s.cells = #[s] ∧ scalar s = true) → (pre ++ (outUs again now M0.quality ws d t post).2.1).length = N →
        Hp w0 w' (co' ++ (Db' ++ (⟨b, 125, rlc { M0 with us := pre ++ (outUs again now M0.quality ws d t post).2.1, turn := (outUs again now M0.quality ws d t post).2.2 } su (.slice (some ⟨bu, 0, none⟩) N cap) sp sa⟩ :: ⟨bu, 141, ucells (pre ++ (outUs again now M0.quality ws d t post).2.1) sv ++ rest⟩ :: G))) →
        R (.returned (.tuple ⟨[s', I 0]⟩)) w') →
      F54_l2 R (d + 1) (ptr b 0) (I now) sw (.bool again) s (I (i : Int)) w := by
  intro d
  induction d with
  | zero =>
    intro i w pre post t os s co Db sv2 hi hpre hlen ht0 ht hos hdat hP H hq
    rw [F54_l2_succ]
    unfold F54_b1
    have H1 : Hp w0 w (⟨b, 125, rlc { M0 with us := pre ++ post, turn := t } su (.slice (some ⟨bu, 0, none⟩) N cap) sp sa⟩ :: ⟨bu, 141, ucells (pre ++ post) sv ++ rest⟩ :: (co ++ (Db ++ G))) := H.to (by intro f; simp only [I, U8, U64, ptr, List.set_cons_zero, List.set_cons_succ, List.eraseIdx_cons_zero, List.eraseIdx_cons_succ, List.map_append, List.map_cons, List.map_nil, List.sum_append, List.sum_cons, List.sum_nil]; omega)
    have e : outUs again now M0.quality ws 0 t post = ([], post, t) := by unfold outUs; rfl
    rw [e] at hq
    have fin : F54_j6 R s w := by
      unfold F54_j6
      exact hq w s co Db sv2 (by simpa using hP) hdat hlen H
    simp only [pv_some, nilO_ptr, faO_mk, gd_yes, gd_no, gd_yes', gd_no', cnd_true, cnd_false, pick_true, pick_false, not_bool, bin_add, bin_sub, bin_mul, bin_eql, bin_neq, bin_lss, bin_leq, bin_gtr, bin_geq, ext0, ext1, ext2, lenS_mk, eqNil_none, eqNil_some, neNil_none, neNil_some, ret_k, mem, Nat.zero_add, Nat.add_zero, Nat.mul_one, drewV, Bool.not_true, Bool.not_false]
    refine ld_h H1 0 rfl rfl ?_
    simp only [pv_some, nilO_ptr, faO_mk, gd_yes, gd_no, gd_yes', gd_no', cnd_true, cnd_false, pick_true, pick_false, not_bool, bin_add, bin_sub, bin_mul, bin_eql, bin_neq, bin_lss, bin_leq, bin_gtr, bin_geq, ext0, ext1, ext2, lenS_mk, eqNil_none, eqNil_some, neNil_none, neNil_some, ret_k, mem, Nat.zero_add, Nat.add_zero, Nat.mul_one, drewV, Bool.not_true, Bool.not_false]
    by_cases hlt : (i : Int) < (N : Int)
    · simp only [decide_eq_true hlt, decide_eq_false (show ¬ ((i : Int) < 8) from by omega), pv_some, nilO_ptr, faO_mk, gd_yes, gd_no, gd_yes', gd_no', cnd_true, cnd_false, pick_true, pick_false, not_bool, bin_add, bin_sub, bin_mul, bin_eql, bin_neq, bin_lss, bin_leq, bin_gtr, bin_geq, ext0, ext1, ext2, lenS_mk, eqNil_none, eqNil_some, neNil_none, neNil_some, ret_k, mem, Nat.zero_add, Nat.add_zero, Nat.mul_one, drewV, Bool.not_true, Bool.not_false]
      exact fin
    · simp only [decide_eq_false hlt, pv_some, nilO_ptr, faO_mk, gd_yes, gd_no, gd_yes', gd_no', cnd_true, cnd_false, pick_true, pick_false, not_bool, bin_add, bin_sub, bin_mul, bin_eql, bin_neq, bin_lss, bin_leq, bin_gtr, bin_geq, ext0, ext1, ext2, lenS_mk, eqNil_none, eqNil_some, neNil_none, neNil_some, ret_k, mem, Nat.zero_add, Nat.add_zero, Nat.mul_one, drewV, Bool.not_true, Bool.not_false]
      exact fin
  | succ d ih =>
    intro i w pre post t os s co Db sv2 hi hpre hlen ht0 ht hos hdat hP H hq
    rw [F54_l2_succ]
    unfold F54_b1
    have H1 : Hp w0 w (⟨b, 125, rlc { M0 with us := pre ++ post, turn := t } su (.slice (some ⟨bu, 0, none⟩) N cap) sp sa⟩ :: ⟨bu, 141, ucells (pre ++ post) sv ++ rest⟩ :: (co ++ (Db ++ G))) := H.to (by intro f; simp only [I, U8, U64, ptr, List.set_cons_zero, List.set_cons_succ, List.eraseIdx_cons_zero, List.eraseIdx_cons_succ, List.map_append, List.map_cons, List.map_nil, List.sum_append, List.sum_cons, List.sum_nil]; omega)
    simp only [pv_some, nilO_ptr, faO_mk, gd_yes, gd_no, gd_yes', gd_no', cnd_true, cnd_false, pick_true, pick_false, not_bool, bin_add, bin_sub, bin_mul, bin_eql, bin_neq, bin_lss, bin_leq, bin_gtr, bin_geq, ext0, ext1, ext2, lenS_mk, eqNil_none, eqNil_some, neNil_none, neNil_some, ret_k, mem, Nat.zero_add, Nat.add_zero, Nat.mul_one, drewV, Bool.not_true, Bool.not_false]
    refine ld_h H1 0 rfl rfl ?_
    simp only [pv_some, nilO_ptr, faO_mk, gd_yes, gd_no, gd_yes', gd_no', cnd_true, cnd_false, pick_true, pick_false, not_bool, bin_add, bin_sub, bin_mul, bin_eql, bin_neq, bin_lss, bin_leq, bin_gtr, bin_geq, ext0, ext1, ext2, lenS_mk, eqNil_none, eqNil_some, neNil_none, neNil_some, ret_k, mem, Nat.zero_add, Nat.add_zero, Nat.mul_one, drewV, Bool.not_true, Bool.not_false]
    cases post with
    | nil =>
      have hNi : N = i := by rw [← hlen, List.append_nil, hpre]
      have e : outUs again now M0.quality ws (d + 1) t [] = ([], [], t) := by unfold outUs; rfl
      rw [e] at hq
      simp only [decide_eq_false (show ¬ ((i : Int) < (N : Int)) from by omega), pv_some, nilO_ptr, faO_mk, gd_yes, gd_no, gd_yes', gd_no', cnd_true, cnd_false, pick_true, pick_false, not_bool, bin_add, bin_sub, bin_mul, bin_eql, bin_neq, bin_lss, bin_leq, bin_gtr, bin_geq, ext0, ext1, ext2, lenS_mk, eqNil_none, eqNil_some, neNil_none, neNil_some, ret_k, mem, Nat.zero_add, Nat.add_zero, Nat.mul_one, drewV, Bool.not_true, Bool.not_false]
      unfold F54_j6
      exact hq w s co Db sv2 (by simpa using hP) hdat hlen H
    | cons u r =>
      have hlt : i < N := by rw [← hlen]; simp; omega
      simp only [decide_eq_true (show (i : Int) < (N : Int) from by omega), decide_eq_true (show (i : Int) < 8 from by omega), pv_some, nilO_ptr, faO_mk, gd_yes, gd_no, gd_yes', gd_no', cnd_true, cnd_false, pick_true, pick_false, not_bool, bin_add, bin_sub, bin_mul, bin_eql, bin_neq, bin_lss, bin_leq, bin_gtr, bin_geq, ext0, ext1, ext2, lenS_mk, eqNil_none, eqNil_some, neNil_none, neNil_some, ret_k, mem, Nat.zero_add, Nat.add_zero, Nat.mul_one, drewV, Bool.not_true, Bool.not_false]
      have hu : (pre ++ u :: r)[i]? = some u := by rw [List.getElem?_append_right (by omega), hpre, Nat.sub_self]; rfl
      obtain ⟨s1, hs1⟩ : ∃ s, sv[i]? = some s := ⟨_, List.getElem?_eq_getElem (by omega)⟩
      have hsv' : sv.length = (pre ++ u :: r).length := by rw [hsvl, hlen]
      have hulen := ucells_len hsv'
      have hcat : (ucells (pre ++ u :: r) sv ++ rest)[i * 6 + 5]? = some (I u.at_) := get_left (by have := ucells_get hu hs1 (j := 5) (by omega); simpa [ucell] using this)
      have eix : ixS 6 (.slice (some ⟨bu, 0, none⟩) N cap) (.int .i64 (i : Int)) = some (ptr bu (i * 6)) := by have := ixS_mk (sz := 6) (b := bu) (o := 0) (c := cap) (n := N) (j := i) (k := .i64) hlt; simpa using this
      have next : ∀ {w : World} {s : Value} (h : F54_l2 R (d + 1) (ptr b 0) (I now) sw (.bool again) s (I ((i + 1 : Nat) : Int)) w), F54_j10 R (F54_l2 R (d + 1)) (ptr b 0) (I now) sw (.bool again) s (I (i : Int)) w := by
        intro w s h
        unfold F54_j10
        simp only [pv_some, nilO_ptr, faO_mk, gd_yes, gd_no, gd_yes', gd_no', cnd_true, cnd_false, pick_true, pick_false, not_bool, bin_add, bin_sub, bin_mul, bin_eql, bin_neq, bin_lss, bin_leq, bin_gtr, bin_geq, ext0, ext1, ext2, lenS_mk, eqNil_none, eqNil_some, neNil_none, neNil_some, ret_k, mem, Nat.zero_add, Nat.add_zero, Nat.mul_one, drewV, Bool.not_true, Bool.not_false]
        rw [wrap64_id (by omega) (by omega), show (i : Int) + 1 = ((i + 1 : Nat) : Int) from by omega]
        exact h
      have e1 : ∀ (u : UM) (l : List UM), pre ++ [u] ++ l = pre ++ u :: l := fun u l => by rw [List.append_assoc]; rfl
      have skip : again = false → 0 ≤ u.at_ → F54_j10 R (F54_l2 R (d + 1)) (ptr b 0) (I now) sw (.bool again) s (I (i : Int)) w := by
        intro ha hat
        have e : outUs again now M0.quality ws (d + 1) t (u :: r) = ((outUs again now M0.quality ws d t r).1, u :: (outUs again now M0.quality ws d t r).2.1, (outUs again now M0.quality ws d t r).2.2) := by
          rw [outUs, if_pos (by simp [ha, hat])]
        refine next ?_
        refine ih (i + 1) w (pre ++ [u]) r t os s co Db sv2 (by omega) (by rw [List.length_append, hpre]; rfl) (by rw [e1]; exact hlen) ht0 (by omega) (Nat.lt_of_le_of_lt (Nat.add_le_add_left (Nat.mul_le_mul_right _ (Nat.le_succ d)) _) hos) (by rw [e1]; exact hdat) hP (by rw [e1]; exact H) ?_
        intro w' s' co' Db' sv2' g1 g2 g3 g4
        rw [e1] at g2 g3 g4
        rw [e] at hq
        exact hq w' s' co' Db' sv2' g1 g2 g3 g4
      have send : ¬ (again = false ∧ 0 ≤ u.at_) → F54_j12 R (F54_l2 R (d + 1)) (ptr b 0) (I now) sw (.bool again) s (I (i : Int)) w := by
        intro hns
        have e : outUs again now M0.quality ws (d + 1) t (u :: r) = (outWs u (overI M0.quality t ws) ++ (outUs again now M0.quality ws d (overT M0.quality t) r).1, { u with at_ := now } :: (outUs again now M0.quality ws d (overT M0.quality t) r).2.1, (outUs again now M0.quality ws d (overT M0.quality t) r).2.2) := by
          rw [outUs, if_neg]
          intro h; apply hns; simpa using h
        unfold F54_j12
        simp only [pv_some, nilO_ptr, faO_mk, gd_yes, gd_no, gd_yes', gd_no', cnd_true, cnd_false, pick_true, pick_false, not_bool, bin_add, bin_sub, bin_mul, bin_eql, bin_neq, bin_lss, bin_leq, bin_gtr, bin_geq, ext0, ext1, ext2, lenS_mk, eqNil_none, eqNil_some, neNil_none, neNil_some, ret_k, mem, Nat.zero_add, Nat.add_zero, Nat.mul_one, drewV, Bool.not_true, Bool.not_false]
        refine ld_h H1 0 rfl rfl ?_
        simp only [eix, pv_some, nilO_ptr, faO_mk, gd_yes, gd_no, gd_yes', gd_no', cnd_true, cnd_false, pick_true, pick_false, not_bool, bin_add, bin_sub, bin_mul, bin_eql, bin_neq, bin_lss, bin_leq, bin_gtr, bin_geq, ext0, ext1, ext2, lenS_mk, eqNil_none, eqNil_some, neNil_none, neNil_some, ret_k, mem, Nat.zero_add, Nat.add_zero, Nat.mul_one, drewV, Bool.not_true, Bool.not_false]
        have hcell : ((ucells (pre ++ u :: r) sv ++ rest).drop (i * 6)).take 5 = frm 1 u.last u.m u.f s1 := by
          apply List.ext_getElem?
          intro m
          rw [List.getElem?_take]
          by_cases hm : m < 5
          · rw [if_pos hm, List.getElem?_drop, List.getElem?_append_left (by rw [hulen]; omega), ucells_get hu hs1 (by omega)]
            have : m = 0 ∨ m = 1 ∨ m = 2 ∨ m = 3 ∨ m = 4 := by omega
            rcases this with rfl | rfl | rfl | rfl | rfl <;> rfl
          · rw [if_neg hm, List.getElem?_eq_none (by simp [frm]; omega)]
        refine ldN_h H1 1 rfl (by rw [List.length_append, hulen]; omega) ?_
        rw [hcell]
        have hsd := (hdat i u s1 hu hs1).1
        refine renc_call (d := u.d) (k := 1) (last := u.last) (m := u.m) (f := u.f) (s := s1) (hsd.mono (fun c hc => by simp [hD c hc])) H1 fun w5 s5 cs5 er H5 h5 => ?_
        simp only [pv_some, nilO_ptr, faO_mk, gd_yes, gd_no, gd_yes', gd_no', cnd_true, cnd_false, pick_true, pick_false, not_bool, bin_add, bin_sub, bin_mul, bin_eql, bin_neq, bin_lss, bin_leq, bin_gtr, bin_geq, ext0, ext1, ext2, lenS_mk, eqNil_none, eqNil_some, neNil_none, neNil_some, ret_k, mem, Nat.zero_add, Nat.add_zero, Nat.mul_one, drewV, Bool.not_true, Bool.not_false]
        have H6 : Hp w0 w5 (⟨b, 125, rlc { M0 with us := pre ++ u :: r, turn := t } su (.slice (some ⟨bu, 0, none⟩) N cap) sp sa⟩ :: ⟨bu, 141, ucells (pre ++ u :: r) sv ++ rest⟩ :: (cs5 ++ (co ++ (Db ++ G)))) := H5.to (by intro f; simp only [I, U8, U64, ptr, List.set_cons_zero, List.set_cons_succ, List.eraseIdx_cons_zero, List.eraseIdx_cons_succ, List.map_append, List.map_cons, List.map_nil, List.sum_append, List.sum_cons, List.sum_nil]; omega)
        refine ld_h H6 0 rfl rfl ?_
        simp only [eix, pv_some, nilO_ptr, faO_mk, gd_yes, gd_no, gd_yes', gd_no', cnd_true, cnd_false, pick_true, pick_false, not_bool, bin_add, bin_sub, bin_mul, bin_eql, bin_neq, bin_lss, bin_leq, bin_gtr, bin_geq, ext0, ext1, ext2, lenS_mk, eqNil_none, eqNil_some, neNil_none, neNil_some, ret_k, mem, Nat.zero_add, Nat.add_zero, Nat.mul_one, drewV, Bool.not_true, Bool.not_false]
        refine st_h H6 1 rfl (by rw [List.length_append, hulen]; omega) rfl fun w7 H7 => ?_
        have eset : (ucells (pre ++ u :: r) sv ++ rest).set (i * 6 + 5) (I now) = ucells (pre ++ { u with at_ := now } :: r) sv ++ rest := by
          rw [set_left (by rw [hulen]; omega), ucells_at hu hs1]
          congr 2
          rw [List.set_append_right _ _ (by omega), hpre, Nat.sub_self]; rfl
        have H8 : Hp w0 w7 (⟨b, 125, rlc { M0 with us := pre ++ { u with at_ := now } :: r, turn := t } su (.slice (some ⟨bu, 0, none⟩) N cap) sp sa⟩ :: ⟨bu, 141, ucells (pre ++ { u with at_ := now } :: r) sv ++ rest⟩ :: (cs5 ++ (co ++ (Db ++ G)))) := by
          rw [← eset]; exact H7
        have hu' : (pre ++ { u with at_ := now } :: r)[i]? = some { u with at_ := now } := by rw [List.getElem?_append_right (by omega), hpre, Nat.sub_self]; rfl
        have hdat' : ∀ (i' : Nat) (u' : UM) (s : Value), (pre ++ { u with at_ := now } :: r)[i']? = some u' → sv[i']? = some s → RdL w0 D 1 s u'.d.length (bv u'.d) ∧ s.cells = #[s] ∧ scalar s = true := by
          intro i' u' s' h1 h2
          by_cases hii : i' = i
          · subst hii
            rw [hu'] at h1; injection h1 with h1; subst h1
            exact hdat i' u s' hu h2
          · refine hdat i' u' s' ?_ h2
            rw [← h1]
            by_cases hl : i' < pre.length
            · rw [List.getElem?_append_left hl, List.getElem?_append_left hl]
            · rw [List.getElem?_append_right (by omega), List.getElem?_append_right (by omega)]
              obtain ⟨m, hm⟩ : ∃ m, i' - pre.length = m + 1 := ⟨i' - pre.length - 1, by omega⟩
              rw [hm]; rfl
        have hol := overI_len M0.quality t ws
        have e2 : ∀ l : List UM, pre ++ [{ u with at_ := now }] ++ l = pre ++ { u with at_ := now } :: l := fun l => by rw [List.append_assoc]; rfl
        have fin : ∀ {w : World} {s : Value} {co : List Chunk} {Db : List Chunk} {sv2 : List Value}, OutP 145 w0 s (os ++ outWs u (overI M0.quality t ws)) co Db sv2 →
            Hp w0 w (co ++ (Db ++ (⟨b, 125, rlc { M0 with us := pre ++ { u with at_ := now } :: r, turn := overT M0.quality t } su (.slice (some ⟨bu, 0, none⟩) N cap) sp sa⟩ :: ⟨bu, 141, ucells (pre ++ { u with at_ := now } :: r) sv ++ rest⟩ :: G))) →
            F54_j10 R (F54_l2 R (d + 1)) (ptr b 0) (I now) sw (.bool again) s (I (i : Int)) w := by
          intro w s co Db sv2 hP H
          refine next ?_
          refine ih (i + 1) w (pre ++ [{ u with at_ := now }]) r (overT M0.quality t) (os ++ outWs u (overI M0.quality t ws)) s co Db sv2 (by omega) (by rw [List.length_append, hpre]; rfl) (by rw [e2, ← hlen]; simp) ?_ ?_ (by simp [outWs]; omega) (by rw [e2]; exact hdat') hP (by rw [e2]; exact H) ?_
          · unfold overT; split
            · exact ht0
            · split <;> omega
          · unfold overT; split
            · omega
            · split <;> omega
          intro w' s' co' Db' sv2' g1 g2 g3 g4
          rw [e2] at g2 g3 g4
          rw [e] at hq
          exact hq w' s' co' Db' sv2' (by rw [← List.append_assoc]; exact g1) g2 g3 g4
        have H8' : Hp w0 w7 (cs5 ++ (co ++ (Db ++ (⟨b, 125, rlc { M0 with us := pre ++ { u with at_ := now } :: r, turn := t } su (.slice (some ⟨bu, 0, none⟩) N cap) sp sa⟩ :: ⟨bu, 141, ucells (pre ++ { u with at_ := now } :: r) sv ++ rest⟩ :: G)))) := H8.to (by intro f; simp only [I, U8, U64, ptr, List.set_cons_zero, List.set_cons_succ, List.eraseIdx_cons_zero, List.eraseIdx_cons_succ, List.map_append, List.map_cons, List.map_nil, List.sum_append, List.sum_cons, List.sum_nil]; omega)
        refine ld_h H8 0 rfl rfl ?_
        have hrw := (hsu.rdL (w0 := w0) (L := ⟨b, 125, rlc { M0 with us := pre ++ { u with at_ := now } :: r, turn := t } su (.slice (some ⟨bu, 0, none⟩) N cap) sp sa⟩ :: ⟨bu, 141, ucells (pre ++ { u with at_ := now } :: r) sv ++ rest⟩ :: (cs5 ++ (co ++ (Db ++ G)))) (fun c hc => by simp [hcw c hc])).rd H8
        have one : ∀ x : Int, outWs u [x] = [(x, encR 1 u.last u.m u.f u.d)] := fun x => rfl
        unfold F54_j13
        rcases hqq with q0 | q0 | q0
        · have eo : overI M0.quality t ws = [ws.headD 0] := by
            unfold overI; rw [if_pos q0]
            cases ws with
            | nil => simp at hws
            | cons x r => rfl
          have et : overT M0.quality t = t := by unfold overT; rw [if_pos q0]
          rw [eo, et] at fin
          simp only [q0, pv_some, nilO_ptr, faO_mk, gd_yes, gd_no, gd_yes', gd_no', cnd_true, cnd_false, pick_true, pick_false, not_bool, bin_add, bin_sub, bin_mul, bin_eql, bin_neq, bin_lss, bin_leq, bin_gtr, bin_geq, ext0, ext1, ext2, lenS_mk, eqNil_none, eqNil_some, neNil_none, neNil_some, ret_k, mem, Nat.zero_add, Nat.add_zero, Nat.mul_one, drewV, Bool.not_true, Bool.not_false]
          try simp only [decide_true]
          unfold F54_j14
          simp only [pv_some, nilO_ptr, faO_mk, gd_yes, gd_no, gd_yes', gd_no', cnd_true, cnd_false, pick_true, pick_false, not_bool, bin_add, bin_sub, bin_mul, bin_eql, bin_neq, bin_lss, bin_leq, bin_gtr, bin_geq, ext0, ext1, ext2, lenS_mk, eqNil_none, eqNil_some, neNil_none, neNil_some, ret_k, mem, Nat.zero_add, Nat.add_zero, Nat.mul_one, drewV, Bool.not_true, Bool.not_false]
          have hw0 : (iv ws)[0]? = some (I (ws.headD 0)) := by
            cases ws with
            | nil => simp at hws
            | cons x r => rfl
          refine ix1_rd (j := 0) hrw hw0 ?_
          rw [bldO2 (sl_cells h5)]
          try simp only [pv_some, nilO_ptr, faO_mk, gd_yes, gd_no, gd_yes', gd_no', cnd_true, cnd_false, pick_true, pick_false, not_bool, bin_add, bin_sub, bin_mul, bin_eql, bin_neq, bin_lss, bin_leq, bin_gtr, bin_geq, ext0, ext1, ext2, lenS_mk, eqNil_none, eqNil_some, neNil_none, neNil_some, ret_k, mem, Nat.zero_add, Nat.add_zero, Nat.mul_one, drewV, Bool.not_true, Bool.not_false]
          refine rout_app (x := ws.headD 0) (ys := encR 1 u.last u.m u.f u.d) hP h5 (by omega) H8' fun w9 s9 co9 hP9 H9 => ?_
          exact fin hP9 H9
        · have hm : (t.toNat % ws.length) < ws.length := Nat.mod_lt _ hws
          have etm : t.tmod (ws.length : Int) = ((t.toNat % ws.length : Nat) : Int) := by
            obtain ⟨k, rfl⟩ : ∃ k : Nat, t = k := ⟨t.toNat, by omega⟩
            rfl
          have eo : overI M0.quality t ws = [ws[t.toNat % ws.length]] := by
            unfold overI; rw [if_neg (by omega), if_pos q0, etm, Int.toNat_natCast, List.drop_eq_getElem_cons hm]; rfl
          have et : overT M0.quality t = t + 1 := by unfold overT; rw [if_neg (by omega), if_pos q0]
          rw [eo, et] at fin
          simp only [q0, pv_some, nilO_ptr, faO_mk, gd_yes, gd_no, gd_yes', gd_no', cnd_true, cnd_false, pick_true, pick_false, not_bool, bin_add, bin_sub, bin_mul, bin_eql, bin_neq, bin_lss, bin_leq, bin_gtr, bin_geq, ext0, ext1, ext2, lenS_mk, eqNil_none, eqNil_some, neNil_none, neNil_some, ret_k, mem, Nat.zero_add, Nat.add_zero, Nat.mul_one, drewV, Bool.not_true, Bool.not_false]
          simp only [show decide ((1 : Int) = 0) = false from rfl]
          unfold F54_j14
          simp only [pv_some, nilO_ptr, faO_mk, gd_yes, gd_no, gd_yes', gd_no', cnd_true, cnd_false, pick_true, pick_false, not_bool, bin_add, bin_sub, bin_mul, bin_eql, bin_neq, bin_lss, bin_leq, bin_gtr, bin_geq, ext0, ext1, ext2, lenS_mk, eqNil_none, eqNil_some, neNil_none, neNil_some, ret_k, mem, Nat.zero_add, Nat.add_zero, Nat.mul_one, drewV, Bool.not_true, Bool.not_false]
          unfold F54_j15
          simp only [pv_some, nilO_ptr, faO_mk, gd_yes, gd_no, gd_yes', gd_no', cnd_true, cnd_false, pick_true, pick_false, not_bool, bin_add, bin_sub, bin_mul, bin_eql, bin_neq, bin_lss, bin_leq, bin_gtr, bin_geq, ext0, ext1, ext2, lenS_mk, eqNil_none, eqNil_some, neNil_none, neNil_some, ret_k, mem, Nat.zero_add, Nat.add_zero, Nat.mul_one, drewV, Bool.not_true, Bool.not_false]
          try simp only [decide_true]
          unfold F54_j16
          simp only [pv_some, nilO_ptr, faO_mk, gd_yes, gd_no, gd_yes', gd_no', cnd_true, cnd_false, pick_true, pick_false, not_bool, bin_add, bin_sub, bin_mul, bin_eql, bin_neq, bin_lss, bin_leq, bin_gtr, bin_geq, ext0, ext1, ext2, lenS_mk, eqNil_none, eqNil_some, neNil_none, neNil_some, ret_k, mem, Nat.zero_add, Nat.add_zero, Nat.mul_one, drewV, Bool.not_true, Bool.not_false]
          unfold F54_j17
          simp only [pv_some, nilO_ptr, faO_mk, gd_yes, gd_no, gd_yes', gd_no', cnd_true, cnd_false, pick_true, pick_false, not_bool, bin_add, bin_sub, bin_mul, bin_eql, bin_neq, bin_lss, bin_leq, bin_gtr, bin_geq, ext0, ext1, ext2, lenS_mk, eqNil_none, eqNil_some, neNil_none, neNil_some, ret_k, mem, Nat.zero_add, Nat.add_zero, Nat.mul_one, drewV, Bool.not_true, Bool.not_false]
          refine ld_h H8 0 rfl rfl ?_
          rw [lenS_sl hsu]
          simp only [pv_some, nilO_ptr, faO_mk, gd_yes, gd_no, gd_yes', gd_no', cnd_true, cnd_false, pick_true, pick_false, not_bool, bin_add, bin_sub, bin_mul, bin_eql, bin_neq, bin_lss, bin_leq, bin_gtr, bin_geq, ext0, ext1, ext2, lenS_mk, eqNil_none, eqNil_some, neNil_none, neNil_some, ret_k, mem, Nat.zero_add, Nat.add_zero, Nat.mul_one, drewV, Bool.not_true, Bool.not_false]
          rw [bin_rem (by omega), etm]
          simp only [pv_some, nilO_ptr, faO_mk, gd_yes, gd_no, gd_yes', gd_no', cnd_true, cnd_false, pick_true, pick_false, not_bool, bin_add, bin_sub, bin_mul, bin_eql, bin_neq, bin_lss, bin_leq, bin_gtr, bin_geq, ext0, ext1, ext2, lenS_mk, eqNil_none, eqNil_some, neNil_none, neNil_some, ret_k, mem, Nat.zero_add, Nat.add_zero, Nat.mul_one, drewV, Bool.not_true, Bool.not_false]
          refine ix1_rd (j := t.toNat % ws.length) (v := I ws[t.toNat % ws.length]) hrw (by simp [iv, hm]) ?_
          rw [bldO2 (sl_cells h5)]
          try simp only [pv_some, nilO_ptr, faO_mk, gd_yes, gd_no, gd_yes', gd_no', cnd_true, cnd_false, pick_true, pick_false, not_bool, bin_add, bin_sub, bin_mul, bin_eql, bin_neq, bin_lss, bin_leq, bin_gtr, bin_geq, ext0, ext1, ext2, lenS_mk, eqNil_none, eqNil_some, neNil_none, neNil_some, ret_k, mem, Nat.zero_add, Nat.add_zero, Nat.mul_one, drewV, Bool.not_true, Bool.not_false]
          refine rout_app (x := ws[t.toNat % ws.length]) (ys := encR 1 u.last u.m u.f u.d) hP h5 (by omega) H8' fun w9 s9 co9 hP9 H9 => ?_
          have H10 : Hp w0 w9 (⟨b, 125, rlc { M0 with us := pre ++ { u with at_ := now } :: r, turn := t } su (.slice (some ⟨bu, 0, none⟩) N cap) sp sa⟩ :: (co9 ++ ((cs5 ++ Db) ++ (⟨bu, 141, ucells (pre ++ { u with at_ := now } :: r) sv ++ rest⟩ :: G)))) := H9.to (by intro f; simp only [I, U8, U64, ptr, List.set_cons_zero, List.set_cons_succ, List.eraseIdx_cons_zero, List.eraseIdx_cons_succ, List.map_append, List.map_cons, List.map_nil, List.sum_append, List.sum_cons, List.sum_nil]; omega)
          refine ld_h H10 0 rfl rfl ?_
          simp only [pv_some, nilO_ptr, faO_mk, gd_yes, gd_no, gd_yes', gd_no', cnd_true, cnd_false, pick_true, pick_false, not_bool, bin_add, bin_sub, bin_mul, bin_eql, bin_neq, bin_lss, bin_leq, bin_gtr, bin_geq, ext0, ext1, ext2, lenS_mk, eqNil_none, eqNil_some, neNil_none, neNil_some, ret_k, mem, Nat.zero_add, Nat.add_zero, Nat.mul_one, drewV, Bool.not_true, Bool.not_false]
          rw [wrap64_id (by omega) (by omega)]
          refine st_h H10 0 rfl (by simp [rlc]) rfl fun w11 H11 => ?_
          have H12 : Hp w0 w11 (⟨b, 125, rlc { M0 with us := pre ++ { u with at_ := now } :: r, turn := t + 1 } su (.slice (some ⟨bu, 0, none⟩) N cap) sp sa⟩ :: (co9 ++ ((cs5 ++ Db) ++ (⟨bu, 141, ucells (pre ++ { u with at_ := now } :: r) sv ++ rest⟩ :: G)))) := H11
          exact fin hP9 (H12.to (by intro f; simp only [I, U8, U64, ptr, List.set_cons_zero, List.set_cons_succ, List.eraseIdx_cons_zero, List.eraseIdx_cons_succ, List.map_append, List.map_cons, List.map_nil, List.sum_append, List.sum_cons, List.sum_nil]; omega))
        · have eo : overI M0.quality t ws = ws := by unfold overI; rw [if_neg (by omega), if_neg (by omega)]
          have et : overT M0.quality t = t := by unfold overT; rw [if_neg (by omega), if_neg (by omega)]
          rw [eo, et] at fin
          rw [eo] at hol
          simp only [q0, pv_some, nilO_ptr, faO_mk, gd_yes, gd_no, gd_yes', gd_no', cnd_true, cnd_false, pick_true, pick_false, not_bool, bin_add, bin_sub, bin_mul, bin_eql, bin_neq, bin_lss, bin_leq, bin_gtr, bin_geq, ext0, ext1, ext2, lenS_mk, eqNil_none, eqNil_some, neNil_none, neNil_some, ret_k, mem, Nat.zero_add, Nat.add_zero, Nat.mul_one, drewV, Bool.not_true, Bool.not_false]
          simp only [show decide ((2 : Int) = 0) = false from rfl]
          unfold F54_j14
          simp only [pv_some, nilO_ptr, faO_mk, gd_yes, gd_no, gd_yes', gd_no', cnd_true, cnd_false, pick_true, pick_false, not_bool, bin_add, bin_sub, bin_mul, bin_eql, bin_neq, bin_lss, bin_leq, bin_gtr, bin_geq, ext0, ext1, ext2, lenS_mk, eqNil_none, eqNil_some, neNil_none, neNil_some, ret_k, mem, Nat.zero_add, Nat.add_zero, Nat.mul_one, drewV, Bool.not_true, Bool.not_false]
          unfold F54_j15
          simp only [pv_some, nilO_ptr, faO_mk, gd_yes, gd_no, gd_yes', gd_no', cnd_true, cnd_false, pick_true, pick_false, not_bool, bin_add, bin_sub, bin_mul, bin_eql, bin_neq, bin_lss, bin_leq, bin_gtr, bin_geq, ext0, ext1, ext2, lenS_mk, eqNil_none, eqNil_some, neNil_none, neNil_some, ret_k, mem, Nat.zero_add, Nat.add_zero, Nat.mul_one, drewV, Bool.not_true, Bool.not_false]
          simp only [show decide ((2 : Int) = 1) = false from rfl]
          unfold F54_j16
          simp only [pv_some, nilO_ptr, faO_mk, gd_yes, gd_no, gd_yes', gd_no', cnd_true, cnd_false, pick_true, pick_false, not_bool, bin_add, bin_sub, bin_mul, bin_eql, bin_neq, bin_lss, bin_leq, bin_gtr, bin_geq, ext0, ext1, ext2, lenS_mk, eqNil_none, eqNil_some, neNil_none, neNil_some, ret_k, mem, Nat.zero_add, Nat.add_zero, Nat.mul_one, drewV, Bool.not_true, Bool.not_false]
          unfold F54_j18
          simp only [pv_some, nilO_ptr, faO_mk, gd_yes, gd_no, gd_yes', gd_no', cnd_true, cnd_false, pick_true, pick_false, not_bool, bin_add, bin_sub, bin_mul, bin_eql, bin_neq, bin_lss, bin_leq, bin_gtr, bin_geq, ext0, ext1, ext2, lenS_mk, eqNil_none, eqNil_some, neNil_none, neNil_some, ret_k, mem, Nat.zero_add, Nat.add_zero, Nat.mul_one, drewV, Bool.not_true, Bool.not_false]
          try simp only [decide_true]
          unfold F54_j19
          simp only [pv_some, nilO_ptr, faO_mk, gd_yes, gd_no, gd_yes', gd_no', cnd_true, cnd_false, pick_true, pick_false, not_bool, bin_add, bin_sub, bin_mul, bin_eql, bin_neq, bin_lss, bin_leq, bin_gtr, bin_geq, ext0, ext1, ext2, lenS_mk, eqNil_none, eqNil_some, neNil_none, neNil_some, ret_k, mem, Nat.zero_add, Nat.add_zero, Nat.mul_one, drewV, Bool.not_true, Bool.not_false]
          unfold F54_j20 F54_j21
          refine ⟨ws.length + 1, ?_⟩
          refine rout_all (u := u) (ws := ws) (cw := cw) (Db := cs5 ++ Db) (os0 := os) (G := ⟨b, 125, rlc { M0 with us := pre ++ { u with at_ := now } :: r, turn := t } su (.slice (some ⟨bu, 0, none⟩) N cap) sp sa⟩ :: ⟨bu, 141, ucells (pre ++ { u with at_ := now } :: r) sv ++ rest⟩ :: G) hsu (fun c hc => by simp [hcw c hc]) (h5.rdL (fun c hc => by simp [hc])) (by omega) (by omega) (fun w' s co sv2 g1 g2 => fin g1 g2) ws.length 0 w7 s co sv2 (by omega) ?_ (H8.to (by intro f; simp only [I, U8, U64, ptr, List.set_cons_zero, List.set_cons_succ, List.eraseIdx_cons_zero, List.eraseIdx_cons_succ, List.map_append, List.map_cons, List.map_nil, List.sum_append, List.sum_cons, List.sum_nil]; omega))
          rw [show outWs u (ws.take 0) = [] from rfl, List.append_nil]
          exact hP.mono (fun c hc => by simp [hc])
      unfold F54_j9 F54_j11 F54_j23
      cases ha : again with
      | true =>
        rw [ha] at send
        simp only [pv_some, nilO_ptr, faO_mk, gd_yes, gd_no, gd_yes', gd_no', cnd_true, cnd_false, pick_true, pick_false, not_bool, bin_add, bin_sub, bin_mul, bin_eql, bin_neq, bin_lss, bin_leq, bin_gtr, bin_geq, ext0, ext1, ext2, lenS_mk, eqNil_none, eqNil_some, neNil_none, neNil_some, ret_k, mem, Nat.zero_add, Nat.add_zero, Nat.mul_one, drewV, Bool.not_true, Bool.not_false]
        exact send (by simp)
      | false =>
        rw [ha] at send skip
        simp only [pv_some, nilO_ptr, faO_mk, gd_yes, gd_no, gd_yes', gd_no', cnd_true, cnd_false, pick_true, pick_false, not_bool, bin_add, bin_sub, bin_mul, bin_eql, bin_neq, bin_lss, bin_leq, bin_gtr, bin_geq, ext0, ext1, ext2, lenS_mk, eqNil_none, eqNil_some, neNil_none, neNil_some, ret_k, mem, Nat.zero_add, Nat.add_zero, Nat.mul_one, drewV, Bool.not_true, Bool.not_false]
        refine ld_h H1 0 rfl rfl ?_
        simp only [eix, pv_some, nilO_ptr, faO_mk, gd_yes, gd_no, gd_yes', gd_no', cnd_true, cnd_false, pick_true, pick_false, not_bool, bin_add, bin_sub, bin_mul, bin_eql, bin_neq, bin_lss, bin_leq, bin_gtr, bin_geq, ext0, ext1, ext2, lenS_mk, eqNil_none, eqNil_some, neNil_none, neNil_some, ret_k, mem, Nat.zero_add, Nat.add_zero, Nat.mul_one, drewV, Bool.not_true, Bool.not_false]
        refine ld_h H1 1 rfl hcat ?_
        simp only [pv_some, nilO_ptr, faO_mk, gd_yes, gd_no, gd_yes', gd_no', cnd_true, cnd_false, pick_true, pick_false, not_bool, bin_add, bin_sub, bin_mul, bin_eql, bin_neq, bin_lss, bin_leq, bin_gtr, bin_geq, ext0, ext1, ext2, lenS_mk, eqNil_none, eqNil_some, neNil_none, neNil_some, ret_k, mem, Nat.zero_add, Nat.add_zero, Nat.mul_one, drewV, Bool.not_true, Bool.not_false]
        refine cnd_decide (fun h => skip rfl h) (fun h => send (fun h' => h h'.2))
end
end Go.Proofs.Ytmnpndgmfmjfhaa.Den
end

section
set_option linter.unusedVariables false
set_option linter.unusedSimpArgs false
set_option maxRecDepth 8000
namespace Go.Proofs.Ytmnpndgmfmjfhaa.Den
open Go Go.RowKit
section
variable {w w' : World} {w0 : Base} {F L : List Chunk} {R : ER}
/-- Behind the acknowledgments. -/
theorem rout_j4 {b : Nat} {M : LM} {now : Int} {again : Bool} {su sus sp sw s : Value} {cu cus cp ca D cw co Db : List Chunk} {sv sv2 : List Value} {ws : List Int} {os : List OM} (hlk : LkP 141 144 w0 M su sus sp (.slice none 0 0) cu cus cp [] D sv) (hwf : Wf M) (hqq : M.quality = 0 ∨ M.quality = 1 ∨ M.quality = 2)
    (hsu : Sl 3 1 sw ws.length (iv ws) cw) (hws : 0 < ws.length) (hws8 : ws.length ≤ 8) (hos : os.length < 134217728) (hP : OutP 145 w0 s os co Db sv2) (hrep : M.repeats ≤ 6)
    (H : Hp w0 w (co ++ (Db ++ (⟨b, 125, rlc M su sus sp (.slice none 0 0)⟩ :: (cus ++ (cu ++ (cp ++ (cw ++ (D ++ F)))))))))
    (hq : ∀ w' s' co' Db' sv2' cus' , OutP 145 w0 s' (os ++ (outUs again now M.quality ws 8 M.turn M.us).1) co' Db' sv2' →
      LkP 141 144 w0 { M with repeats := if again then M.repeats + 1 else M.repeats, us := (outUs again now M.quality ws 8 M.turn M.us).2.1, turn := (outUs again now M.quality ws 8 M.turn M.us).2.2 } su sus sp (.slice none 0 0) cu cus' cp [] D sv →
      Hp w0 w' (co' ++ (Db' ++ (⟨b, 125, rlc { M with repeats := if again then M.repeats + 1 else M.repeats, us := (outUs again now M.quality ws 8 M.turn M.us).2.1, turn := (outUs again now M.quality ws 8 M.turn M.us).2.2 } su sus sp (.slice none 0 0)⟩ :: (cus' ++ (cu ++ (cp ++ (cw ++ (D ++ F)))))))) →
      R (.returned (.tuple ⟨[s', I 0]⟩)) w') : F54_j4 R (ptr b 0) (I now) sw (.bool again) s w := by
  have hrw : IntKind.i64.wrap (M.repeats + 1) = M.repeats + 1 := wrap64_id (by have := hwf.rep; omega) (by omega)
  -- the loop
  have fin : ∀ {w : World} {M1 : LM}, M1 = { M with repeats := if again then M.repeats + 1 else M.repeats } → Hp w0 w (⟨b, 125, rlc M1 su sus sp (.slice none 0 0)⟩ :: (co ++ (Db ++ (cus ++ (cu ++ (cp ++ (cw ++ (D ++ F)))))))) → F54_j5 R (ptr b 0) (I now) sw (.bool again) s w := by
    intro w M1 hM1 H
    subst hM1
    unfold F54_j5 F54_j7 F54_j8
    by_cases hul : 0 < M.us.length
    · refine ⟨8 + 1, ?_⟩
      obtain ⟨bu, cap, rest, rfl, rfl, g1, g2, g3⟩ := hlk.us.chunk hul
      have hul2 := hwf.ul
      have H' : Hp w0 w (co ++ (Db ++ (⟨b, 125, rlc { M with repeats := if again then M.repeats + 1 else M.repeats } su (.slice (some ⟨bu, 0, none⟩) M.us.length cap) sp (.slice none 0 0)⟩ :: ⟨bu, 141, ucells M.us sv ++ rest⟩ :: (cu ++ (cp ++ (cw ++ (D ++ F))))))) := H.to (by intro f; simp only [I, U8, U64, ptr, List.set_cons_zero, List.set_cons_succ, List.eraseIdx_cons_zero, List.eraseIdx_cons_succ, List.map_append, List.map_cons, List.map_nil, List.sum_append, List.sum_cons, List.sum_nil]; omega)
      refine rout_units (cw := cw) (b := b) (bu := bu) (cap := cap) (M0 := { M with repeats := if again then M.repeats + 1 else M.repeats }) (su := su) (sp := sp) (sa := .slice none 0 0) (D := D) (G := cu ++ (cp ++ (cw ++ (D ++ F)))) (sv := sv) (rest := rest) (N := M.us.length)
        hsu (fun c hc => by simp [hc]) (fun c hc => by simp [hc]) hws (by omega) (by omega) hlk.svl hqq 8 0 w [] M.us M.turn os s co Db sv2 (by omega) rfl rfl hwf.turn.1 (by have := hwf.turn.2; omega) (by omega) hlk.dat hP H' ?_
      intro w' s' co' Db' sv2' h1 h2 h3 h4
      simp only [List.nil_append] at h1 h2 h3 h4
      refine hq w' s' co' Db' sv2' [⟨bu, 141, ucells (outUs again now M.quality ws 8 M.turn M.us).2.1 sv ++ rest⟩] h1 ⟨hlk.up, ?_, by rw [h3, hlk.svl], h2, hlk.part, hlk.acks⟩ h4
      refine .inr ⟨bu, cap, rest, rfl, ?_, ?_, ?_, ?_⟩
      · show Value.slice _ _ _ = Value.slice _ (outUs again now M.quality ws 8 M.turn M.us).2.1.length _
        rw [h3]
      · show (ucells (outUs again now M.quality ws 8 M.turn M.us).2.1 sv).length = _
        rw [ucells_len (by rw [hlk.svl]; exact h3.symm)]
      · show (outUs again now M.quality ws 8 M.turn M.us).2.1.length ≤ cap; rw [h3]; exact g2
      · show rest.length = (cap - (outUs again now M.quality ws 8 M.turn M.us).2.1.length) * 6; rw [h3]; exact g3
    · have hM : M.us = [] := List.length_eq_zero_iff.1 (by omega)
      refine ⟨0 + 1, ?_⟩
      show F54_l2 R (0 + 1) _ _ _ _ _ _ w
      rw [F54_l2_succ]
      unfold F54_b1
      simp only [pv_some, nilO_ptr, faO_mk, gd_yes, gd_no, gd_yes', gd_no', cnd_true, cnd_false, pick_true, pick_false, not_bool, bin_add, bin_sub, bin_mul, bin_eql, bin_neq, bin_lss, bin_leq, bin_gtr, bin_geq, ext0, ext1, ext2, lenS_mk, eqNil_none, eqNil_some, neNil_none, neNil_some, ret_k, mem, Nat.zero_add, Nat.add_zero, Nat.mul_one, drewV, Bool.not_true, Bool.not_false]
      refine ld_h H 0 rfl rfl ?_
      rw [lenS_sl hlk.us, hM]
      simp only [List.length_nil, pv_some, nilO_ptr, faO_mk, gd_yes, gd_no, gd_yes', gd_no', cnd_true, cnd_false, pick_true, pick_false, not_bool, bin_add, bin_sub, bin_mul, bin_eql, bin_neq, bin_lss, bin_leq, bin_gtr, bin_geq, ext0, ext1, ext2, lenS_mk, eqNil_none, eqNil_some, neNil_none, neNil_some, ret_k, mem, Nat.zero_add, Nat.add_zero, Nat.mul_one, drewV, Bool.not_true, Bool.not_false, show decide ((0 : Int) < ((0 : Nat) : Int)) = false from rfl]
      unfold F54_j6
      have e : outUs again now M.quality ws 8 M.turn M.us = ([], [], M.turn) := by rw [hM]; rfl
      rw [e] at hq
      refine hq w s co Db sv2 cus (by simpa using hP) ⟨hlk.up, ?_, ?_, ?_, hlk.part, hlk.acks⟩ ?_
      · have := hlk.us; rw [hM] at this; exact this
      · have := hlk.svl; rw [hM] at this; exact this
      · intro i u s h; simp at h
      · have hc : rlc { M with repeats := if again then M.repeats + 1 else M.repeats, us := [], turn := M.turn } su sus sp (.slice none 0 0) = rlc { M with repeats := if again then M.repeats + 1 else M.repeats } su sus sp (.slice none 0 0) := rfl
        rw [hc]
        exact H.to (by intro f; simp only [I, U8, U64, ptr, List.set_cons_zero, List.set_cons_succ, List.eraseIdx_cons_zero, List.eraseIdx_cons_succ, List.map_append, List.map_cons, List.map_nil, List.sum_append, List.sum_cons, List.sum_nil]; omega)
  unfold F54_j4
  have H1 : Hp w0 w (⟨b, 125, rlc M su sus sp (.slice none 0 0)⟩ :: (co ++ (Db ++ (cus ++ (cu ++ (cp ++ (cw ++ (D ++ F)))))))) := H.to (by intro f; simp only [I, U8, U64, ptr, List.set_cons_zero, List.set_cons_succ, List.eraseIdx_cons_zero, List.eraseIdx_cons_succ, List.map_append, List.map_cons, List.map_nil, List.sum_append, List.sum_cons, List.sum_nil]; omega)
  cases ha : again with
  | true =>
    rw [ha] at fin
    simp only [pv_some, nilO_ptr, faO_mk, gd_yes, gd_no, gd_yes', gd_no', cnd_true, cnd_false, pick_true, pick_false, not_bool, bin_add, bin_sub, bin_mul, bin_eql, bin_neq, bin_lss, bin_leq, bin_gtr, bin_geq, ext0, ext1, ext2, lenS_mk, eqNil_none, eqNil_some, neNil_none, neNil_some, ret_k, mem, Nat.zero_add, Nat.add_zero, Nat.mul_one, drewV, Bool.not_true, Bool.not_false]
    refine ld_h H1 0 rfl rfl ?_
    simp only [pv_some, nilO_ptr, faO_mk, gd_yes, gd_no, gd_yes', gd_no', cnd_true, cnd_false, pick_true, pick_false, not_bool, bin_add, bin_sub, bin_mul, bin_eql, bin_neq, bin_lss, bin_leq, bin_gtr, bin_geq, ext0, ext1, ext2, lenS_mk, eqNil_none, eqNil_some, neNil_none, neNil_some, ret_k, mem, Nat.zero_add, Nat.add_zero, Nat.mul_one, drewV, Bool.not_true, Bool.not_false]
    refine st_h H1 0 rfl (by simp [rlc]) rfl fun w2 H2 => ?_
    rw [hrw] at H2
    exact fin rfl H2
  | false =>
    rw [ha] at fin
    simp only [pv_some, nilO_ptr, faO_mk, gd_yes, gd_no, gd_yes', gd_no', cnd_true, cnd_false, pick_true, pick_false, not_bool, bin_add, bin_sub, bin_mul, bin_eql, bin_neq, bin_lss, bin_leq, bin_gtr, bin_geq, ext0, ext1, ext2, lenS_mk, eqNil_none, eqNil_some, neNil_none, neNil_some, ret_k, mem, Nat.zero_add, Nat.add_zero, Nat.mul_one, drewV, Bool.not_true, Bool.not_false]
    exact fin rfl H1
set_option maxHeartbeats 800000 in
theorem rOutput_spec {b : Nat} {M : LM} {now : Int} (H : Hp w0 w (L ++ F)) (hL : rLk w0 b M L) (hwf : Wf M) (hqq : M.quality = 0 ∨ M.quality = 1 ∨ M.quality = 2) : Calls Pg 54 ⟨[ptr b 0, I now]⟩ w (OutPost w0 F rLk 145 b M now) := by
  obtain ⟨su, sus, sp, sa, cu, cus, cp, ca, D, sv, hlk, rfl⟩ := hL
  have H0 : Hp w0 w (⟨b, 125, rlc M su sus sp sa⟩ :: (cus ++ (cu ++ (cp ++ (ca ++ (D ++ F)))))) := H.to (by intro f; simp only [I, U8, U64, ptr, List.set_cons_zero, List.set_cons_succ, List.eraseIdx_cons_zero, List.eraseIdx_cons_succ, List.map_append, List.map_cons, List.map_nil, List.sum_append, List.sum_cons, List.sum_nil]; omega)
  apply F54_calls
  unfold F54
  refine cal_h (rtime_spec (now := now) H0) ?_
  rintro e w1 ⟨rfl, rfl⟩
  simp only [pv_some, nilO_ptr, faO_mk, gd_yes, gd_no, gd_yes', gd_no', cnd_true, cnd_false, pick_true, pick_false, not_bool, bin_add, bin_sub, bin_mul, bin_eql, bin_neq, bin_lss, bin_leq, bin_gtr, bin_geq, ext0, ext1, ext2, lenS_mk, eqNil_none, eqNil_some, neNil_none, neNil_some, ret_k, mem, Nat.zero_add, Nat.add_zero, Nat.mul_one, drewV, Bool.not_true, Bool.not_false]
  refine cnd_decide (fun h => ?_) (fun h => ?_)
  · refine ⟨.slice none 0 0, [], [], [], _, ?_, H0.to (L' := [] ++ ([] ++ ((⟨b, 125, rlc M su sus sp sa⟩ :: (cu ++ (cus ++ (cp ++ (ca ++ D))))) ++ F))) (by intro f; simp only [I, U8, U64, ptr, List.set_cons_zero, List.set_cons_succ, List.eraseIdx_cons_zero, List.eraseIdx_cons_succ, List.map_append, List.map_cons, List.map_nil, List.sum_append, List.sum_cons, List.sum_nil]; omega), ?_, ?_⟩
    · unfold outE; rw [if_pos h]
    · have : outV M now = [] := by unfold outV; rw [if_pos]; unfold outE; rw [if_pos h]; exact h
      rw [this]; exact ⟨Sl.nil, rfl, fun i o s h => by simp at h⟩
    · unfold outM; rw [if_pos h]; exact ⟨_, _, _, _, _, _, _, _, _, _, hlk, rfl⟩
  have ht : timeE M now = 0 := by simpa using h
  have hnow : 0 ≤ now ∧ now ≤ 1099511627776 := by
    unfold timeE at ht
    by_cases hn : now < 0 ∨ 1099511627776 < now
    · rw [if_pos hn] at ht; exact absurd ht (by decide)
    · omega
  unfold F54_j1
  refine cal_h (rusable_spec (b := b) H0 hlk.up (fun c hc => by simp [hc]) (by have := hwf.up8; omega)) ?_
  rintro e w2 ⟨sw, cw, rfl, H2, hsw⟩
  have H3 : Hp w0 w2.drew (⟨b, 125, rlc M su sus sp sa⟩ :: (cw ++ (cus ++ (cu ++ (cp ++ (ca ++ (D ++ F))))))) := H2.drew.to (by intro f; simp only [I, U8, U64, ptr, List.set_cons_zero, List.set_cons_succ, List.eraseIdx_cons_zero, List.eraseIdx_cons_succ, List.map_append, List.map_cons, List.map_nil, List.sum_append, List.sum_cons, List.sum_nil]; omega)
  simp only [pv_some, nilO_ptr, faO_mk, gd_yes, gd_no, gd_yes', gd_no', cnd_true, cnd_false, pick_true, pick_false, not_bool, bin_add, bin_sub, bin_mul, bin_eql, bin_neq, bin_lss, bin_leq, bin_gtr, bin_geq, ext0, ext1, ext2, lenS_mk, eqNil_none, eqNil_some, neNil_none, neNil_some, ret_k, mem, Nat.zero_add, Nat.add_zero, Nat.mul_one, drewV, Bool.not_true, Bool.not_false]
  have goal : F54_j30 (OutPost w0 F rLk 145 b M now) (ptr b 0) (I now) sw (.bool (againB M now)) w2.drew := by
    have hlen8 : (useI 0 M.up).length ≤ 8 := Nat.le_trans (useI_le _ _) hwf.up8
    -- the rest
    have go : ¬ (againB M now = true ∧ useI 0 M.up ≠ [] ∧ M.repeats = 6) → F54_j2 (OutPost w0 F rLk 145 b M now) (ptr b 0) (I now) sw (.bool (againB M now)) w2.drew := by
      intro hnb
      have hE : outE M now = 0 := by unfold outE; rw [if_neg h, if_neg hnb]
      unfold F54_j2
      simp only [pv_some, nilO_ptr, faO_mk, gd_yes, gd_no, gd_yes', gd_no', cnd_true, cnd_false, pick_true, pick_false, not_bool, bin_add, bin_sub, bin_mul, bin_eql, bin_neq, bin_lss, bin_leq, bin_gtr, bin_geq, ext0, ext1, ext2, lenS_mk, eqNil_none, eqNil_some, neNil_none, neNil_some, ret_k, mem, Nat.zero_add, Nat.add_zero, Nat.mul_one, drewV, Bool.not_true, Bool.not_false]
      refine st_h H3 0 rfl (by simp [rlc]) rfl fun w3 H4 => ?_
      replace H4 : Hp w0 w3 (⟨b, 125, rlc { M with clock := now } su sus sp sa⟩ :: (cw ++ (cus ++ (cu ++ (cp ++ (ca ++ (D ++ F))))))) := H4
      refine lit0_h elT127 H4 fun w4 s0 H5 hs0 => ?_
      unfold F54_j24 F54_j25
      have j3 : ∀ {w : World} {s : Value} {co Db : List Chunk} {sv2 : List Value}, OutP 145 w0 s (if useI 0 M.up = [] then [] else M.acks.map (outAck M.up (useI 0 M.up))) co Db sv2 →
          Hp w0 w (co ++ (Db ++ (⟨b, 125, rlc { M with clock := now } su sus sp sa⟩ :: (cw ++ (cus ++ (cu ++ (cp ++ (ca ++ (D ++ F))))))))) → F54_j3 (OutPost w0 F rLk 145 b M now) (ptr b 0) (I now) sw (.bool (againB M now)) s w := by
        intro w s co Db sv2 hP H
        unfold F54_j3
        simp only [pv_some, nilO_ptr, faO_mk, gd_yes, gd_no, gd_yes', gd_no', cnd_true, cnd_false, pick_true, pick_false, not_bool, bin_add, bin_sub, bin_mul, bin_eql, bin_neq, bin_lss, bin_leq, bin_gtr, bin_geq, ext0, ext1, ext2, lenS_mk, eqNil_none, eqNil_some, neNil_none, neNil_some, ret_k, mem, Nat.zero_add, Nat.add_zero, Nat.mul_one, drewV, Bool.not_true, Bool.not_false]
        have H' : Hp w0 w (⟨b, 125, rlc { M with clock := now } su sus sp sa⟩ :: (co ++ (Db ++ (cw ++ (cus ++ (cu ++ (cp ++ (ca ++ (D ++ F))))))))) := H.to (by intro f; simp only [I, U8, U64, ptr, List.set_cons_zero, List.set_cons_succ, List.eraseIdx_cons_zero, List.eraseIdx_cons_succ, List.map_append, List.map_cons, List.map_nil, List.sum_append, List.sum_cons, List.sum_nil]; omega)
        refine st_h H' 0 rfl (by simp [rlc]) rfl fun w4 H5 => ?_
        replace H5 : Hp w0 w4 (⟨b, 125, rlc { M with clock := now, acks := [] } su sus sp (.slice none 0 0)⟩ :: (co ++ (Db ++ (cw ++ (cus ++ (cu ++ (cp ++ (ca ++ (D ++ F))))))))) := H5
        simp only [lenS_sl hsw, pv_some, nilO_ptr, faO_mk, gd_yes, gd_no, gd_yes', gd_no', cnd_true, cnd_false, pick_true, pick_false, not_bool, bin_add, bin_sub, bin_mul, bin_eql, bin_neq, bin_lss, bin_leq, bin_gtr, bin_geq, ext0, ext1, ext2, lenS_mk, eqNil_none, eqNil_some, neNil_none, neNil_some, ret_k, mem, Nat.zero_add, Nat.add_zero, Nat.mul_one, drewV, Bool.not_true, Bool.not_false]
        have hlk5 : LkP 141 144 w0 { M with clock := now, acks := [] } su sus sp (.slice none 0 0) cu cus cp [] D sv := ⟨hlk.up, hlk.us, hlk.svl, hlk.dat, hlk.part, Sl.nil⟩
        refine cnd_decide (fun h0 => ?_) (fun h0 => ?_)
        · have hws : useI 0 M.up = [] := List.length_eq_zero_iff.1 (by omega)
          rw [if_pos hws] at hP
          refine ⟨s, co, Db, sv2, ⟨b, 125, rlc { M with clock := now, acks := [] } su sus sp (.slice none 0 0)⟩ :: (cu ++ (cus ++ (cp ++ ([] ++ D)))), ?_, H5.to (by intro f; simp only [I, U8, U64, ptr, List.set_cons_zero, List.set_cons_succ, List.eraseIdx_cons_zero, List.eraseIdx_cons_succ, List.map_append, List.map_cons, List.map_nil, List.sum_append, List.sum_cons, List.sum_nil]; omega), ?_, ?_⟩
          · rw [hE]
          · have : outV M now = [] := by unfold outV; rw [if_neg (by rw [hE]; simp), if_pos hws]
            rw [this]; exact hP
          · have : outM M now = { M with clock := now, acks := [] } := by unfold outM; rw [if_neg h, if_neg hnb, if_pos hws]
            rw [this]; exact ⟨_, _, _, _, _, _, _, _, _, _, hlk5, rfl⟩
        · have hws : useI 0 M.up ≠ [] := fun hn => by rw [hn] at h0; simp at h0
          rw [if_neg hws] at hP
          have hw0 := iv_ne hws
          have hwf5 : Wf { M with clock := now, acks := [] } := { hwf with clock := hnow, aw := fun a ha => by simp at ha, al := by simp }
          refine rout_j4 (M := { M with clock := now, acks := [] }) (cus := cus) (cu := cu) (cp := cp) (ca := []) (D := D) (cw := cw) (F := ca ++ F) hlk5 hwf5 hqq hsw hw0 hlen8 (by have := hwf.al; simpa using this) hP hwf.rep.2 (H5.to (by intro f; simp only [I, U8, U64, ptr, List.set_cons_zero, List.set_cons_succ, List.eraseIdx_cons_zero, List.eraseIdx_cons_succ, List.map_append, List.map_cons, List.map_nil, List.sum_append, List.sum_cons, List.sum_nil]; omega)) ?_
          intro w6 s6 co6 Db6 sv6 cus6 hP6 hlk6 H7
          have eV : outV M now = M.acks.map (outAck M.up (useI 0 M.up)) ++ (outUs (againB M now) now M.quality (useI 0 M.up) 8 M.turn M.us).1 := by unfold outV; rw [if_neg (by rw [hE]; simp), if_neg hws]
          have eM : outM M now = { M with clock := now, acks := [], repeats := if againB M now then M.repeats + 1 else M.repeats, us := (outUs (againB M now) now M.quality (useI 0 M.up) 8 M.turn M.us).2.1, turn := (outUs (againB M now) now M.quality (useI 0 M.up) 8 M.turn M.us).2.2 } := by
            unfold outM; rw [if_neg h, if_neg hnb, if_neg hws]
          refine ⟨s6, co6, Db6, sv6, ⟨b, 125, rlc (outM M now) su sus sp (.slice none 0 0)⟩ :: (cu ++ (cus6 ++ (cp ++ ([] ++ D)))), by rw [hE], ?_, by rw [eV]; exact hP6, ?_⟩
          · rw [eM]; exact H7.to (by intro f; simp only [I, U8, U64, ptr, List.set_cons_zero, List.set_cons_succ, List.eraseIdx_cons_zero, List.eraseIdx_cons_succ, List.map_append, List.map_cons, List.map_nil, List.sum_append, List.sum_cons, List.sum_nil]; omega)
          · rw [eM]; exact ⟨_, _, _, _, _, _, _, _, _, _, hlk6, rfl⟩
      have P0 : OutP 145 w0 s0 ([] : List OM) [] [] [] := ⟨hs0, rfl, fun i o s h => by simp at h⟩
      by_cases hws : useI 0 M.up = []
      · rw [if_pos hws] at j3
        refine ⟨0 + 1, ?_⟩
        show F54_l3 _ (0 + 1) _ _ _ _ _ _ w4
        rw [F54_l3_succ]
        unfold F54_b3
        simp only [pv_some, nilO_ptr, faO_mk, gd_yes, gd_no, gd_yes', gd_no', cnd_true, cnd_false, pick_true, pick_false, not_bool, bin_add, bin_sub, bin_mul, bin_eql, bin_neq, bin_lss, bin_leq, bin_gtr, bin_geq, ext0, ext1, ext2, lenS_mk, eqNil_none, eqNil_some, neNil_none, neNil_some, ret_k, mem, Nat.zero_add, Nat.add_zero, Nat.mul_one, drewV, Bool.not_true, Bool.not_false]
        refine ld_h H5 0 rfl rfl ?_
        simp only [lenS_sl hlk.acks, lenS_sl hsw, hws, pv_some, nilO_ptr, faO_mk, gd_yes, gd_no, gd_yes', gd_no', cnd_true, cnd_false, pick_true, pick_false, not_bool, bin_add, bin_sub, bin_mul, bin_eql, bin_neq, bin_lss, bin_leq, bin_gtr, bin_geq, ext0, ext1, ext2, lenS_mk, eqNil_none, eqNil_some, neNil_none, neNil_some, ret_k, mem, Nat.zero_add, Nat.add_zero, Nat.mul_one, drewV, Bool.not_true, Bool.not_false]
        try simp only [List.length_nil, show decide ((0 : Int) < ((0 : Nat) : Int)) = false from rfl]
        by_cases ha0 : (0 : Int) < (M.acks.length : Int)
        · simp only [decide_eq_true ha0, lenS_sl hsw, hws, List.length_nil, pv_some, nilO_ptr, faO_mk, gd_yes, gd_no, gd_yes', gd_no', cnd_true, cnd_false, pick_true, pick_false, not_bool, bin_add, bin_sub, bin_mul, bin_eql, bin_neq, bin_lss, bin_leq, bin_gtr, bin_geq, ext0, ext1, ext2, lenS_mk, eqNil_none, eqNil_some, neNil_none, neNil_some, ret_k, mem, Nat.zero_add, Nat.add_zero, Nat.mul_one, drewV, Bool.not_true, Bool.not_false]
          simp only [show decide ((0 : Int) < ((0 : Nat) : Int)) = false from rfl, pv_some, nilO_ptr, faO_mk, gd_yes, gd_no, gd_yes', gd_no', cnd_true, cnd_false, pick_true, pick_false, not_bool, bin_add, bin_sub, bin_mul, bin_eql, bin_neq, bin_lss, bin_leq, bin_gtr, bin_geq, ext0, ext1, ext2, lenS_mk, eqNil_none, eqNil_some, neNil_none, neNil_some, ret_k, mem, Nat.zero_add, Nat.add_zero, Nat.mul_one, drewV, Bool.not_true, Bool.not_false]
          exact j3 P0 H5
        · simp only [decide_eq_false ha0, pv_some, nilO_ptr, faO_mk, gd_yes, gd_no, gd_yes', gd_no', cnd_true, cnd_false, pick_true, pick_false, not_bool, bin_add, bin_sub, bin_mul, bin_eql, bin_neq, bin_lss, bin_leq, bin_gtr, bin_geq, ext0, ext1, ext2, lenS_mk, eqNil_none, eqNil_some, neNil_none, neNil_some, ret_k, mem, Nat.zero_add, Nat.add_zero, Nat.mul_one, drewV, Bool.not_true, Bool.not_false]
          exact j3 P0 H5
      · rw [if_neg hws] at j3
        have hw0 := iv_ne hws
        refine ⟨M.acks.length + 1, ?_⟩
        refine rout_acks (b := b) (M := { M with clock := now }) (su := su) (sus := sus) (sp := sp) (sa := sa) (cu := cu) (ca := ca) (cw := cw) (ws := useI 0 M.up) (G := cw ++ (cus ++ (cu ++ (cp ++ (ca ++ (D ++ F)))))) hlk.up hlk.acks hsw hw0 hwf.aw (by have := hwf.al; show M.acks.length < _; omega)
          (fun c hc => by simp [hc]) (fun c hc => by simp [hc]) (fun c hc => by simp [hc]) (fun w' s co Db sv g1 g2 => j3 g1 g2) M.acks.length 0 w4 s0 [] [] [] (by show 0 + M.acks.length = M.acks.length; omega) P0 H5
    unfold F54_j30
    cases ha : againB M now with
    | false =>
      rw [ha] at go
      simp only [pv_some, nilO_ptr, faO_mk, gd_yes, gd_no, gd_yes', gd_no', cnd_true, cnd_false, pick_true, pick_false, not_bool, bin_add, bin_sub, bin_mul, bin_eql, bin_neq, bin_lss, bin_leq, bin_gtr, bin_geq, ext0, ext1, ext2, lenS_mk, eqNil_none, eqNil_some, neNil_none, neNil_some, ret_k, mem, Nat.zero_add, Nat.add_zero, Nat.mul_one, drewV, Bool.not_true, Bool.not_false]
      exact go (by simp)
    | true =>
      rw [ha] at go
      simp only [lenS_sl hsw, pv_some, nilO_ptr, faO_mk, gd_yes, gd_no, gd_yes', gd_no', cnd_true, cnd_false, pick_true, pick_false, not_bool, bin_add, bin_sub, bin_mul, bin_eql, bin_neq, bin_lss, bin_leq, bin_gtr, bin_geq, ext0, ext1, ext2, lenS_mk, eqNil_none, eqNil_some, neNil_none, neNil_some, ret_k, mem, Nat.zero_add, Nat.add_zero, Nat.mul_one, drewV, Bool.not_true, Bool.not_false]
      by_cases h0 : (0 : Int) < (((useI 0 M.up).length : Nat) : Int)
      · have hws : useI 0 M.up ≠ [] := fun hn => by rw [hn] at h0; simp at h0
        simp only [decide_eq_true h0, pv_some, nilO_ptr, faO_mk, gd_yes, gd_no, gd_yes', gd_no', cnd_true, cnd_false, pick_true, pick_false, not_bool, bin_add, bin_sub, bin_mul, bin_eql, bin_neq, bin_lss, bin_leq, bin_gtr, bin_geq, ext0, ext1, ext2, lenS_mk, eqNil_none, eqNil_some, neNil_none, neNil_some, ret_k, mem, Nat.zero_add, Nat.add_zero, Nat.mul_one, drewV, Bool.not_true, Bool.not_false]
        refine ld_h H3 0 rfl rfl ?_
        simp only [pv_some, nilO_ptr, faO_mk, gd_yes, gd_no, gd_yes', gd_no', cnd_true, cnd_false, pick_true, pick_false, not_bool, bin_add, bin_sub, bin_mul, bin_eql, bin_neq, bin_lss, bin_leq, bin_gtr, bin_geq, ext0, ext1, ext2, lenS_mk, eqNil_none, eqNil_some, neNil_none, neNil_some, ret_k, mem, Nat.zero_add, Nat.add_zero, Nat.mul_one, drewV, Bool.not_true, Bool.not_false]
        refine cnd_decide (fun h6 => ?_) (fun h6 => ?_)
        · refine st_h H3 0 rfl (by simp [rlc]) rfl fun w3 H4 => ?_
          replace H4 : Hp w0 w3 (⟨b, 125, rlc { M with broken := true } su sus sp sa⟩ :: (cw ++ (cus ++ (cu ++ (cp ++ (ca ++ (D ++ F))))))) := H4
          have hb : againB M now = true ∧ useI 0 M.up ≠ [] ∧ M.repeats = 6 := ⟨ha, hws, h6⟩
          have hE : outE M now = 4 := by unfold outE; rw [if_neg h, if_pos hb]
          refine ⟨.slice none 0 0, [], [], [], ⟨b, 125, rlc { M with broken := true } su sus sp sa⟩ :: (cu ++ (cus ++ (cp ++ (ca ++ D)))), by rw [hE], H4.to (by intro f; simp only [I, U8, U64, ptr, List.set_cons_zero, List.set_cons_succ, List.eraseIdx_cons_zero, List.eraseIdx_cons_succ, List.map_append, List.map_cons, List.map_nil, List.sum_append, List.sum_cons, List.sum_nil]; omega), ?_, ?_⟩
          · have : outV M now = [] := by unfold outV; rw [if_pos]; rw [hE]; decide
            rw [this]; exact ⟨Sl.nil, rfl, fun i o s h => by simp at h⟩
          · have : outM M now = { M with broken := true } := by unfold outM; rw [if_neg h, if_pos hb]
            rw [this]; exact ⟨_, _, _, _, _, _, _, _, _, _, ⟨hlk.up, hlk.us, hlk.svl, hlk.dat, hlk.part, hlk.acks⟩, rfl⟩
        · exact go (fun hh => h6 hh.2.2)
      · simp only [decide_eq_false h0, pv_some, nilO_ptr, faO_mk, gd_yes, gd_no, gd_yes', gd_no', cnd_true, cnd_false, pick_true, pick_false, not_bool, bin_add, bin_sub, bin_mul, bin_eql, bin_neq, bin_lss, bin_leq, bin_gtr, bin_geq, ext0, ext1, ext2, lenS_mk, eqNil_none, eqNil_some, neNil_none, neNil_some, ret_k, mem, Nat.zero_add, Nat.add_zero, Nat.mul_one, drewV, Bool.not_true, Bool.not_false]
        exact go (fun hh => h0 (by have := iv_ne hh.2.1; omega))
  -- again
  refine ld_h H3 0 rfl rfl ?_
  simp only [lenS_sl hlk.us, pv_some, nilO_ptr, faO_mk, gd_yes, gd_no, gd_yes', gd_no', cnd_true, cnd_false, pick_true, pick_false, not_bool, bin_add, bin_sub, bin_mul, bin_eql, bin_neq, bin_lss, bin_leq, bin_gtr, bin_geq, ext0, ext1, ext2, lenS_mk, eqNil_none, eqNil_some, neNil_none, neNil_some, ret_k, mem, Nat.zero_add, Nat.add_zero, Nat.mul_one, drewV, Bool.not_true, Bool.not_false]
  cases hM : M.us with
  | nil =>
    have ea : againB M now = false := by unfold againB; rw [hM]
    rw [ea] at goal
    simp only [List.length_nil, show decide ((0 : Int) < ((0 : Nat) : Int)) = false from rfl, pv_some, nilO_ptr, faO_mk, gd_yes, gd_no, gd_yes', gd_no', cnd_true, cnd_false, pick_true, pick_false, not_bool, bin_add, bin_sub, bin_mul, bin_eql, bin_neq, bin_lss, bin_leq, bin_gtr, bin_geq, ext0, ext1, ext2, lenS_mk, eqNil_none, eqNil_some, neNil_none, neNil_some, ret_k, mem, Nat.zero_add, Nat.add_zero, Nat.mul_one, drewV, Bool.not_true, Bool.not_false]
    exact goal
  | cons u r =>
    have hul : 0 < M.us.length := by rw [hM]; simp
    obtain ⟨bu, cap, rest, hcus, hsus, g1, g2, g3⟩ := hlk.us.chunk hul
    obtain ⟨s, hs⟩ : ∃ s, sv[0]? = some s := ⟨_, List.getElem?_eq_getElem (by rw [hlk.svl]; exact hul)⟩
    have hu : M.us[0]? = some u := by rw [hM]; rfl
    have hc5 : (ucells M.us sv ++ rest)[5]? = some (I u.at_) := get_left (by have := ucells_get hu hs (j := 5) (by omega); simpa [ucell] using this)
    have e0 : ixS 6 sus (.int .i64 0) = some (ptr bu 0) := by
      rw [hsus]; have := ixS_mk (sz := 6) (b := bu) (o := 0) (c := cap) (n := M.us.length) (j := 0) (k := .i64) hul; simpa using this
    have hblk : w2.drew.cell? ⟨bu, 5, none⟩ = some (I u.at_) := by
      have hm : (⟨bu, 141, ucells M.us sv ++ rest⟩ : Chunk) ∈ ⟨b, 125, rlc M su sus sp sa⟩ :: (cw ++ (cus ++ (cu ++ (cp ++ (ca ++ (D ++ F)))))) := by rw [hcus]; simp
      rw [(H3.blk _ hm).2.cell]; exact hc5
    have hat := hwf.at_ u (by rw [hM]; simp)
    simp only [show decide ((0 : Int) < (((u :: r).length : Nat) : Int)) = true from decide_eq_true (by simp), pv_some, nilO_ptr, faO_mk, gd_yes, gd_no, gd_yes', gd_no', cnd_true, cnd_false, pick_true, pick_false, not_bool, bin_add, bin_sub, bin_mul, bin_eql, bin_neq, bin_lss, bin_leq, bin_gtr, bin_geq, ext0, ext1, ext2, lenS_mk, eqNil_none, eqNil_some, neNil_none, neNil_some, ret_k, mem, Nat.zero_add, Nat.add_zero, Nat.mul_one, drewV, Bool.not_true, Bool.not_false]
    refine ld_h H3 0 rfl rfl ?_
    simp only [e0, pv_some, nilO_ptr, faO_mk, gd_yes, gd_no, gd_yes', gd_no', cnd_true, cnd_false, pick_true, pick_false, not_bool, bin_add, bin_sub, bin_mul, bin_eql, bin_neq, bin_lss, bin_leq, bin_gtr, bin_geq, ext0, ext1, ext2, lenS_mk, eqNil_none, eqNil_some, neNil_none, neNil_some, ret_k, mem, Nat.zero_add, Nat.add_zero, Nat.mul_one, drewV, Bool.not_true, Bool.not_false]
    refine ld1_a hblk ?_
    simp only [pv_some, nilO_ptr, faO_mk, gd_yes, gd_no, gd_yes', gd_no', cnd_true, cnd_false, pick_true, pick_false, not_bool, bin_add, bin_sub, bin_mul, bin_eql, bin_neq, bin_lss, bin_leq, bin_gtr, bin_geq, ext0, ext1, ext2, lenS_mk, eqNil_none, eqNil_some, neNil_none, neNil_some, ret_k, mem, Nat.zero_add, Nat.add_zero, Nat.mul_one, drewV, Bool.not_true, Bool.not_false]
    by_cases h0 : 0 ≤ u.at_
    · simp only [decide_eq_true h0, pv_some, nilO_ptr, faO_mk, gd_yes, gd_no, gd_yes', gd_no', cnd_true, cnd_false, pick_true, pick_false, not_bool, bin_add, bin_sub, bin_mul, bin_eql, bin_neq, bin_lss, bin_leq, bin_gtr, bin_geq, ext0, ext1, ext2, lenS_mk, eqNil_none, eqNil_some, neNil_none, neNil_some, ret_k, mem, Nat.zero_add, Nat.add_zero, Nat.mul_one, drewV, Bool.not_true, Bool.not_false]
      refine ld_h H3 0 rfl rfl ?_
      simp only [e0, pv_some, nilO_ptr, faO_mk, gd_yes, gd_no, gd_yes', gd_no', cnd_true, cnd_false, pick_true, pick_false, not_bool, bin_add, bin_sub, bin_mul, bin_eql, bin_neq, bin_lss, bin_leq, bin_gtr, bin_geq, ext0, ext1, ext2, lenS_mk, eqNil_none, eqNil_some, neNil_none, neNil_some, ret_k, mem, Nat.zero_add, Nat.add_zero, Nat.mul_one, drewV, Bool.not_true, Bool.not_false]
      refine ld1_a hblk ?_
      simp only [pv_some, nilO_ptr, faO_mk, gd_yes, gd_no, gd_yes', gd_no', cnd_true, cnd_false, pick_true, pick_false, not_bool, bin_add, bin_sub, bin_mul, bin_eql, bin_neq, bin_lss, bin_leq, bin_gtr, bin_geq, ext0, ext1, ext2, lenS_mk, eqNil_none, eqNil_some, neNil_none, neNil_some, ret_k, mem, Nat.zero_add, Nat.add_zero, Nat.mul_one, drewV, Bool.not_true, Bool.not_false]
      refine ld_h H3 0 rfl rfl ?_
      simp only [pv_some, nilO_ptr, faO_mk, gd_yes, gd_no, gd_yes', gd_no', cnd_true, cnd_false, pick_true, pick_false, not_bool, bin_add, bin_sub, bin_mul, bin_eql, bin_neq, bin_lss, bin_leq, bin_gtr, bin_geq, ext0, ext1, ext2, lenS_mk, eqNil_none, eqNil_some, neNil_none, neNil_some, ret_k, mem, Nat.zero_add, Nat.add_zero, Nat.mul_one, drewV, Bool.not_true, Bool.not_false]
      rw [wrap64_id (by omega) (by omega)]
      have ea : againB M now = decide (M.timeout ≤ now - u.at_) := by unfold againB; rw [hM]; simp [h0]
      rw [← ea]; exact goal
    · simp only [decide_eq_false h0, pv_some, nilO_ptr, faO_mk, gd_yes, gd_no, gd_yes', gd_no', cnd_true, cnd_false, pick_true, pick_false, not_bool, bin_add, bin_sub, bin_mul, bin_eql, bin_neq, bin_lss, bin_leq, bin_gtr, bin_geq, ext0, ext1, ext2, lenS_mk, eqNil_none, eqNil_some, neNil_none, neNil_some, ret_k, mem, Nat.zero_add, Nat.add_zero, Nat.mul_one, drewV, Bool.not_true, Bool.not_false]
      have ea : againB M now = false := by unfold againB; rw [hM]; simp [h0]
      rw [ea] at goal; exact goal
end
end Go.Proofs.Ytmnpndgmfmjfhaa.Den
end
