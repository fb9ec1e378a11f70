/- Links: Output, walked. Conditions: none. -/
import Derived.Test.YtmnpndgmfmjfhaaLkQ
set_option linter.unusedVariables false
set_option linter.unusedSimpArgs false
set_option maxRecDepth 8000
namespace Go.Proofs.Ytmnpndgmfmjfhaa.Den
open Go Go.RowKit
abbrev OM := Int × List Int
def encR (k : Int) (last : Bool) (m f : Int) (d : List Int) : List Int := if encE k last m f d.length = 0 then encB k last m f d else []
def outAck (up : List Bool) (ws : List Int) (a : AM) : OM := (if up.getD a.w false then (a.w : Int) else ws.headD 0, encR 2 false a.m a.f [])
def outWs (u : UM) (ws : List Int) : List OM := ws.map fun w => (w, encR 1 u.last u.m u.f u.d)
def outUs (again : Bool) (now q : Int) (ws : List Int) : Nat → Int → List UM → List OM × List UM × Int
  | 0, t, us => ([], us, t)
  | _ + 1, t, [] => ([], [], t)
  | n + 1, t, u :: r => if !again && decide (0 ≤ u.at_) then ((outUs again now q ws n t r).1, u :: (outUs again now q ws n t r).2.1, (outUs again now q ws n t r).2.2)
    else (outWs u (overI q t ws) ++ (outUs again now q ws n (overT q t) r).1, { u with at_ := now } :: (outUs again now q ws n (overT q t) r).2.1, (outUs again now q ws n (overT q t) r).2.2)
def againB (M : LM) (now : Int) : Bool := match M.us with
  | [] => false
  | u :: _ => decide (0 ≤ u.at_) && decide (M.timeout ≤ now - u.at_)
def outE (M : LM) (now : Int) : Int := if timeE M now ≠ 0 then timeE M now else if againB M now = true ∧ useI 0 M.up ≠ [] ∧ M.repeats = 6 then 4 else 0
def outV (M : LM) (now : Int) : List OM := if outE M now ≠ 0 then [] else if useI 0 M.up = [] then [] else
  M.acks.map (outAck M.up (useI 0 M.up)) ++ (outUs (againB M now) now M.quality (useI 0 M.up) 8 M.turn M.us).1
def outM (M : LM) (now : Int) : LM := if timeE M now ≠ 0 then M else if againB M now = true ∧ useI 0 M.up ≠ [] ∧ M.repeats = 6 then { M with broken := true } else if useI 0 M.up = [] then { M with clock := now, acks := [] } else
  { M with clock := now, acks := [], repeats := if againB M now then M.repeats + 1 else M.repeats, us := (outUs (againB M now) now M.quality (useI 0 M.up) 8 M.turn M.us).2.1, turn := (outUs (againB M now) now M.quality (useI 0 M.up) 8 M.turn M.us).2.2 }
def ocell (o : OM) (s : Value) : List Value := [I o.1, s]
def ocells (os : List OM) (sv : List Value) : List Value := (List.zipWith ocell os sv).flatten
/-- Frames that are sent, in memory. -/
structure OutP (t : Nat) (w0 : Base) (s : Value) (os : List OM) (co Db : List Chunk) (sv : List Value) : Prop where
  sl : Sl t 2 s os.length (ocells os sv) co
  svl : sv.length = os.length
  dat : ∀ (i : Nat) (o : OM) (s : Value), os[i]? = some o → sv[i]? = some s → RdL w0 Db 1 s o.2.length (bv o.2)
theorem ocells_append {os os' : List OM} {sv sv' : List Value} (h : sv.length = os.length) : ocells (os ++ os') (sv ++ sv') = ocells os sv ++ ocells os' sv' := by
  unfold ocells; rw [List.zipWith_append (by rw [h]), List.flatten_append]
theorem bldO2 {w : Int} {s : Value} (h : s.cells = #[s]) : bldO [I 0, .slice none 0 0] [(0, 1, I w), (1, 1, s)] = some (.agg ⟨[I w, s]⟩) := by
  simp [bldO, buildL, h, cellsI]
section
variable {w w' : World} {w0 : Base} {F L : List Chunk} {R : ER}
theorem OutP.nil : OutP 90 w0 (.slice none 0 0) [] [] [] [] := ⟨Sl.nil, rfl, fun i o s h => by simp at h⟩
/-- One frame more. -/
theorem out_app {s s' : Value} {os : List OM} {co Db cs : List Chunk} {sv : List Value} {x : Int} {ys : List Int} {K : VK} {ty : Nat} {cc : Array Bool} (hP : OutP 90 w0 s os co Db sv) (hs' : Sl 5 1 s' ys.length (bv ys) cs) (hlen : os.length < 2 ^ 30)
    (H : Hp w0 w (cs ++ (co ++ (Db ++ F)))) (k : ∀ w' s2 co2, OutP 90 w0 s2 (os ++ [(x, ys)]) co2 (cs ++ Db) (sv ++ [s']) → Hp w0 w' (co2 ++ ((cs ++ Db) ++ F)) → K s2 w') :
    valV Pg R (Instr.buildSlice 43 1 ⟨[(0, .agg ⟨[I x, s']⟩)]⟩) (fun v => blt Pg R .append ⟨[43, 43]⟩ ty cc ⟨[s, v]⟩ K) w := by
  refine lit1_h (v := .agg ⟨[I x, s']⟩) elT43 H rfl (by omega) fun w1 nb H1 => ?_
  have H1' : Hp w0 w1 (⟨nb, 90, [I x, s']⟩ :: (cs ++ (co ++ (Db ++ F)))) := H1
  have H2 : Hp w0 w1 (co ++ (⟨nb, 90, [I x, s']⟩ :: ((cs ++ Db) ++ F))) := H1'.to (by intro f; simp only [I, U8, U64, ptr, List.set_cons_zero, List.set_cons_succ, List.eraseIdx_cons_zero, List.eraseIdx_cons_succ, List.map_append, List.map_cons, List.map_nil, List.sum_append, List.sum_cons, List.sum_nil]; omega)
  refine append_h elT43 H2 hP.sl (m := 1) (ys := [I x, s']) (.inr ⟨nb, 0, 1, 90, [I x, s'], rfl, by omega, by simp, by simp, rfl⟩)
    (by intro c hc; simp at hc; rcases hc with rfl | rfl <;> first | rfl | exact sl_scalar hs') (by omega) (by omega) fun w3 s3 cs3 H3 h3 => ?_
  refine k w3 s3 cs3 ⟨?_, by simp [hP.svl], ?_⟩ (H3.to (by intro f; simp only [I, U8, U64, ptr, List.set_cons_zero, List.set_cons_succ, List.eraseIdx_cons_zero, List.eraseIdx_cons_succ, List.map_append, List.map_cons, List.map_nil, List.sum_append, List.sum_cons, List.sum_nil]; omega))
  · rw [ocells_append hP.svl]
    have e : ocells [(x, ys)] [s'] = [I x, s'] := by simp [ocells, ocell]
    rw [e, List.length_append]; exact h3
  · intro i o v ho hv
    by_cases hi : i < os.length
    · rw [List.getElem?_append_left hi] at ho
      rw [List.getElem?_append_left (by rw [hP.svl]; exact hi)] at hv
      exact (hP.dat i o v ho hv).mono (fun c hc => by simp [hc])
    · rw [List.getElem?_append_right (by omega)] at ho
      rw [List.getElem?_append_right (by rw [hP.svl]; omega), hP.svl] at hv
      have hi0 : i - os.length = 0 := by
        have := (List.getElem?_eq_some_iff.1 ho).1
        simp at this; omega
      rw [hi0] at ho hv
      simp only [List.getElem?_cons_zero, Option.some.injEq] at ho hv
      subst ho; subst hv
      exact hs'.rdL (fun c hc => by simp [hc])
/-- Encode, with what it hands back as encR. -/
theorem enc_call {k m f : Int} {last : Bool} {s : Value} {d : List Int} {K : VK} (hs : RdL w0 F 1 s d.length (bv d)) (H : Hp w0 w F)
    (k1 : ∀ w' s' cs er, Hp w0 w' (cs ++ F) → Sl 5 1 s' (encR k last m f d).length (bv (encR k last m f d)) cs → K (.tuple ⟨[s', I er]⟩) w') : cal Pg R 16 ⟨[.agg ⟨frm k last m f s⟩]⟩ K w := by
  refine cal_h (Encode_spec hs H) ?_
  rintro e w' ⟨s', n', ys, cs, rfl, H', hs', h1, h2⟩
  refine k1 w' s' cs _ H' ?_
  unfold encR
  by_cases he : encE k last m f d.length = 0
  · obtain ⟨g1, g2, g3⟩ := h2 he
    rw [if_pos he, encB_length, ← g2, ← g3]; exact hs'
  · obtain ⟨g1, g2, g3⟩ := h1 he
    rw [if_neg he]; subst g1; subst g3; exact hs'
theorem rdnil : RdL w0 F 1 (.slice none 0 0) 0 (bv []) := .inl (.inl ⟨0, rfl, by simp, rfl⟩)
/-- The acknowledgments that are due. -/
theorem out_acks {b : Nat} {M : LM} {su sus sp sx sa sw x1 x8 : Value} {cu ca cw : List Chunk} {acks : List AM} {ws : List Int} {G : List Chunk} (hup : Sl 4 1 su M.up.length (M.up.map .bool) cu)
    (hca : Sl 107 6 sa acks.length (acells acks) ca) (hcw : Sl 3 1 sw ws.length (iv ws) cw) (hws : 0 < ws.length) (hw : ∀ a ∈ acks, a.w < M.up.length) (hal : acks.length < 2 ^ 29)
    (h1 : ∀ c ∈ cu, c ∈ G) (h2 : ∀ c ∈ ca, c ∈ G) (h3 : ∀ c ∈ cw, c ∈ G)
    (hq : ∀ w' s co Db sv, OutP 90 w0 s (acks.map (outAck M.up ws)) co Db sv → Hp w0 w' (co ++ (Db ++ (⟨b, 96, lkc M su sus sp sx⟩ :: G))) → links_Link_Output_j5 R (ptr b 0) x1 sw x8 s w') :
    ∀ (d i : Nat) (w : World) (s : Value) (co Db : List Chunk) (sv : List Value), i + d = acks.length → OutP 90 w0 s ((acks.take i).map (outAck M.up ws)) co Db sv → Hp w0 w (co ++ (Db ++ (⟨b, 96, lkc M su sus sp sx⟩ :: G))) →
      links_Link_Output_l3 R (d + 1) (ptr b 0) x1 sw x8 s sa (I (acks.length : Int)) (I (i : Int)) w := by
  intro d
  induction d with
  | zero =>
    intro i w s co Db sv hi hP H
    rw [links_Link_Output_l3_succ]
    unfold links_Link_Output_b3
    simp only [pv_some, nilO_ptr, faO_mk, gd_yes, gd_no, gd_yes', gd_no', cnd_true, cnd_false, pick_true, pick_false, not_bool, bin_add, bin_sub, bin_mul, bin_eql, bin_neq, bin_lss, bin_leq, bin_gtr, bin_geq, ext0, ext1, ext2, lenS_mk, eqNil_none, eqNil_some, neNil_none, neNil_some, ret_k, mem, Nat.zero_add, Nat.add_zero, Nat.mul_one, drewV, Bool.not_true, Bool.not_false, show decide ((i : Int) < (acks.length : Int)) = false from decide_eq_false (by omega)]
    rw [List.take_of_length_le (by omega)] at hP
    exact hq w s co Db sv hP H
  | succ d ih =>
    intro i w s co Db sv hi hP H
    rw [links_Link_Output_l3_succ]
    unfold links_Link_Output_b3 links_Link_Output_j18 links_Link_Output_j20
    have hlt : i < acks.length := by omega
    obtain ⟨a, ha⟩ : ∃ a, acks[i]? = some a := ⟨_, List.getElem?_eq_getElem hlt⟩
    have haw := hw a (List.mem_of_getElem? ha)
    simp only [pv_some, nilO_ptr, faO_mk, gd_yes, gd_no, gd_yes', gd_no', cnd_true, cnd_false, pick_true, pick_false, not_bool, bin_add, bin_sub, bin_mul, bin_eql, bin_neq, bin_lss, bin_leq, bin_gtr, bin_geq, ext0, ext1, ext2, lenS_mk, eqNil_none, eqNil_some, neNil_none, neNil_some, ret_k, mem, Nat.zero_add, Nat.add_zero, Nat.mul_one, drewV, Bool.not_true, Bool.not_false, show decide ((i : Int) < (acks.length : Int)) = true from decide_eq_true (by omega)]
    obtain ⟨ba, cap, rest, hca', hsa, g1, g2, g3⟩ := hca.chunk (by omega)
    rw [hsa, ixS_mk hlt]
    simp only [pv_some, nilO_ptr, faO_mk, gd_yes, gd_no, gd_yes', gd_no', cnd_true, cnd_false, pick_true, pick_false, not_bool, bin_add, bin_sub, bin_mul, bin_eql, bin_neq, bin_lss, bin_leq, bin_gtr, bin_geq, ext0, ext1, ext2, lenS_mk, eqNil_none, eqNil_some, neNil_none, neNil_some, ret_k, mem, Nat.zero_add, Nat.add_zero, Nat.mul_one, drewV, Bool.not_true, Bool.not_false]
    have hlen := acells_len acks
    have hcell : ((acells acks ++ rest).drop (i * 6)).take 6 = acell a := by
      apply List.ext_getElem?
      intro m
      rw [List.getElem?_take]
      by_cases hm : m < 6
      · rw [if_pos hm, List.getElem?_drop, List.getElem?_append_left (by rw [hlen]; omega)]
        exact acells_get ha hm
      · rw [if_neg hm, List.getElem?_eq_none (by simp [acell]; omega)]
    have hmem : (⟨ba, 107, acells acks ++ rest⟩ : Chunk) ∈ co ++ (Db ++ (⟨b, 96, lkc M su sus sp sx⟩ :: G)) := by
      have : (⟨ba, 107, acells acks ++ rest⟩ : Chunk) ∈ G := h2 _ (by rw [hca']; simp)
      simp [this]
    refine ldN_blk (H.blk _ hmem).2 (by show _ ≤ (acells acks ++ rest).length; rw [List.length_append, hlen]; omega) ?_
    show al Pg 107 _ w
    refine al_h H (z := [I 0, I 0, .bool false, I 0, I 0, .slice none 0 0]) (by kernel_rfl) fun w1 ab H1 => ?_
    rw [show ((acells acks ++ rest).drop (i * 6)).take 6 = acell a from hcell]
    refine stA_h H1 0 rfl rfl rfl (by intro c hc; simp [acell] at hc; rcases hc with rfl | rfl | rfl | rfl | rfl | rfl <;> rfl) fun w2 H2 => ?_
    rw [← hsa]
    unfold links_Link_Output_j22
    have H3 : Hp w0 w2.drew (⟨ab, 107, acell a⟩ :: ⟨b, 96, lkc M su sus sp sx⟩ :: (co ++ (Db ++ G))) := H2.drew.to (by intro f; simp only [I, U8, U64, ptr, List.set_cons_zero, List.set_cons_succ, List.eraseIdx_cons_zero, List.eraseIdx_cons_succ, List.map_append, List.map_cons, List.map_nil, List.sum_append, List.sum_cons, List.sum_nil]; omega)
    simp only [pv_some, nilO_ptr, faO_mk, gd_yes, gd_no, gd_yes', gd_no', cnd_true, cnd_false, pick_true, pick_false, not_bool, bin_add, bin_sub, bin_mul, bin_eql, bin_neq, bin_lss, bin_leq, bin_gtr, bin_geq, ext0, ext1, ext2, lenS_mk, eqNil_none, eqNil_some, neNil_none, neNil_some, ret_k, mem, Nat.zero_add, Nat.add_zero, Nat.mul_one, drewV, Bool.not_true, Bool.not_false]
    refine ld_h H3 1 rfl rfl ?_
    refine ld_h H3 0 rfl rfl ?_
    have hrd := (hup.rdL (w0 := w0) (L := ⟨ab, 107, acell a⟩ :: ⟨b, 96, lkc M su sus sp sx⟩ :: (co ++ (Db ++ G))) (fun c hc => by simp [h1 c hc])).rd H3
    refine ix1_rd (v := .bool M.up[a.w]) hrd (by simp [haw]) ?_
    have fin : ∀ {w : World} {x : Int}, x = (outAck M.up ws a).1 → Hp w0 w (⟨ab, 107, [I x, I 2, .bool false, I a.m, I a.f, .slice none 0 0]⟩ :: ⟨b, 96, lkc M su sus sp sx⟩ :: (co ++ (Db ++ G))) →
        links_Link_Output_j21 R (links_Link_Output_l3 R (d + 1)) (ptr b 0) x1 sw x8 s (ptr ab 0) sa (I (acks.length : Int)) (I (i : Int)) w := by
      intro w x hx H
      unfold links_Link_Output_j21 links_Link_Output_j19
      simp only [pv_some, nilO_ptr, faO_mk, gd_yes, gd_no, gd_yes', gd_no', cnd_true, cnd_false, pick_true, pick_false, not_bool, bin_add, bin_sub, bin_mul, bin_eql, bin_neq, bin_lss, bin_leq, bin_gtr, bin_geq, ext0, ext1, ext2, lenS_mk, eqNil_none, eqNil_some, neNil_none, neNil_some, ret_k, mem, Nat.zero_add, Nat.add_zero, Nat.mul_one, drewV, Bool.not_true, Bool.not_false]
      refine ldN_h H 0 rfl (by simp) ?_
      refine enc_call (d := []) (k := 2) (last := false) (m := a.m) (f := a.f) (s := .slice none 0 0) rdnil H fun w5 s5 cs5 er H5 h5 => ?_
      simp only [pv_some, nilO_ptr, faO_mk, gd_yes, gd_no, gd_yes', gd_no', cnd_true, cnd_false, pick_true, pick_false, not_bool, bin_add, bin_sub, bin_mul, bin_eql, bin_neq, bin_lss, bin_leq, bin_gtr, bin_geq, ext0, ext1, ext2, lenS_mk, eqNil_none, eqNil_some, neNil_none, neNil_some, ret_k, mem, Nat.zero_add, Nat.add_zero, Nat.mul_one, drewV, Bool.not_true, Bool.not_false]
      have H6 : Hp w0 w5 (⟨ab, 107, [I x, I 2, .bool false, I a.m, I a.f, .slice none 0 0]⟩ :: (cs5 ++ (co ++ (Db ++ (⟨b, 96, lkc M su sus sp sx⟩ :: G))))) := H5.to (by intro f; simp only [I, U8, U64, ptr, List.set_cons_zero, List.set_cons_succ, List.eraseIdx_cons_zero, List.eraseIdx_cons_succ, List.map_append, List.map_cons, List.map_nil, List.sum_append, List.sum_cons, List.sum_nil]; omega)
      refine ld_h H6 0 rfl rfl ?_
      rw [bldO2 (sl_cells h5)]
      simp only [pv_some, nilO_ptr, faO_mk, gd_yes, gd_no, gd_yes', gd_no', cnd_true, cnd_false, pick_true, pick_false, not_bool, bin_add, bin_sub, bin_mul, bin_eql, bin_neq, bin_lss, bin_leq, bin_gtr, bin_geq, ext0, ext1, ext2, lenS_mk, eqNil_none, eqNil_some, neNil_none, neNil_some, ret_k, mem, Nat.zero_add, Nat.add_zero, Nat.mul_one, drewV, Bool.not_true, Bool.not_false]
      refine out_app (x := x) (ys := encR 2 false a.m a.f []) hP h5 (by simp; omega) H6.tail fun w7 s7 co7 hP7 H7 => ?_
      rw [wrap64_id (by omega) (by omega), show (i : Int) + 1 = ((i + 1 : Nat) : Int) from by omega]
      refine ih (i + 1) w7 s7 co7 (cs5 ++ Db) (sv ++ [s5]) (by omega) ?_ H7
      have : (acks.take (i + 1)).map (outAck M.up ws) = (acks.take i).map (outAck M.up ws) ++ [(x, encR 2 false a.m a.f [])] := by
        rw [List.take_add_one, ha]; simp [hx, outAck]
      rw [this]; exact hP7
    cases hb : M.up[a.w] with
    | true =>
      simp only [pv_some, nilO_ptr, faO_mk, gd_yes, gd_no, gd_yes', gd_no', cnd_true, cnd_false, pick_true, pick_false, not_bool, bin_add, bin_sub, bin_mul, bin_eql, bin_neq, bin_lss, bin_leq, bin_gtr, bin_geq, ext0, ext1, ext2, lenS_mk, eqNil_none, eqNil_some, neNil_none, neNil_some, ret_k, mem, Nat.zero_add, Nat.add_zero, Nat.mul_one, drewV, Bool.not_true, Bool.not_false]
      refine fin (x := (a.w : Int)) ?_ H3
      unfold outAck; rw [if_pos (by simp [haw, hb])]
    | false =>
      simp only [pv_some, nilO_ptr, faO_mk, gd_yes, gd_no, gd_yes', gd_no', cnd_true, cnd_false, pick_true, pick_false, not_bool, bin_add, bin_sub, bin_mul, bin_eql, bin_neq, bin_lss, bin_leq, bin_gtr, bin_geq, ext0, ext1, ext2, lenS_mk, eqNil_none, eqNil_some, neNil_none, neNil_some, ret_k, mem, Nat.zero_add, Nat.add_zero, Nat.mul_one, drewV, Bool.not_true, Bool.not_false]
      have hrw := (hcw.rdL (w0 := w0) (L := ⟨ab, 107, acell a⟩ :: ⟨b, 96, lkc M su sus sp sx⟩ :: (co ++ (Db ++ G))) (fun c hc => by simp [h3 c hc])).rd H3
      have hw0 : (iv ws)[0]? = some (I (ws.headD 0)) := by
        cases ws with
        | nil => simp at hws
        | cons x r => rfl
      refine ix1_rd (j := 0) hrw hw0 ?_
      try simp only [pv_some, nilO_ptr, faO_mk, gd_yes, gd_no, gd_yes', gd_no', cnd_true, cnd_false, pick_true, pick_false, not_bool, bin_add, bin_sub, bin_mul, bin_eql, bin_neq, bin_lss, bin_leq, bin_gtr, bin_geq, ext0, ext1, ext2, lenS_mk, eqNil_none, eqNil_some, neNil_none, neNil_some, ret_k, mem, Nat.zero_add, Nat.add_zero, Nat.mul_one, drewV, Bool.not_true, Bool.not_false]
      refine st_h H3 0 rfl (by simp [acell]) rfl fun w4 H4 => ?_
      refine fin (x := ws.headD 0) ?_ H4
      unfold outAck; rw [if_neg (by simp [haw, hb])]
/-- One unit over its wires. -/
theorem out_wires {b bu i j0 : Nat} {M : LM} {su sus sp sx s2 x1 sw x8 x139 : Value} {us : List UM} {sv rest : List Value} {u : UM} {su1 : Value} {wl : List Int} {G : List Chunk} {os0 : List OM}
    {k1 : Value → Value → Value → Value → Value → Value → Value → WP} (hu : us[i]? = some u) (hs : sv[i]? = some su1) (hsv : sv.length = us.length) (hsd : RdL w0 G 1 su1 u.d.length (bv u.d)) (hw2 : RdL w0 G 1 s2 wl.length (iv wl)) (hwl : wl.length < 2 ^ 29) (hos : os0.length < 2 ^ 29)
    (hq : ∀ w' s co Db sv2, OutP 90 w0 s (os0 ++ outWs u wl) co Db sv2 → Hp w0 w' (co ++ (Db ++ (⟨b, 96, lkc M su sus sp sx⟩ :: ⟨bu, 101, ucells us sv ++ rest⟩ :: G))) → links_Link_Output_j11 R k1 (ptr b 0) x1 sw x8 s x139 (I (j0 : Int)) w') :
    ∀ (d j : Nat) (w : World) (s : Value) (co Db : List Chunk) (sv2 : List Value), j + d = wl.length → OutP 90 w0 s (os0 ++ outWs u (wl.take j)) co Db sv2 → Hp w0 w (co ++ (Db ++ (⟨b, 96, lkc M su sus sp sx⟩ :: ⟨bu, 101, ucells us sv ++ rest⟩ :: G))) →
      links_Link_Output_l1 R k1 (d + 1) (ptr b 0) x1 sw x8 s (ptr bu (i * 6)) x139 (I (j0 : Int)) s2 (I (wl.length : Int)) (I (j : Int)) w := by
  intro d
  induction d with
  | zero =>
    intro j w s co Db sv2 hj hP H
    rw [links_Link_Output_l1_succ]
    unfold links_Link_Output_b2
    simp only [pv_some, nilO_ptr, faO_mk, gd_yes, gd_no, gd_yes', gd_no', cnd_true, cnd_false, pick_true, pick_false, not_bool, bin_add, bin_sub, bin_mul, bin_eql, bin_neq, bin_lss, bin_leq, bin_gtr, bin_geq, ext0, ext1, ext2, lenS_mk, eqNil_none, eqNil_some, neNil_none, neNil_some, ret_k, mem, Nat.zero_add, Nat.add_zero, Nat.mul_one, drewV, Bool.not_true, Bool.not_false, show decide ((j : Int) < (wl.length : Int)) = false from decide_eq_false (by omega)]
    rw [List.take_of_length_le (by omega)] at hP
    exact hq w s co Db sv2 hP H
  | succ d ih =>
    intro j w s co Db sv2 hj hP H
    rw [links_Link_Output_l1_succ]
    unfold links_Link_Output_b2 links_Link_Output_j15
    have hlt : j < wl.length := by omega
    simp only [pv_some, nilO_ptr, faO_mk, gd_yes, gd_no, gd_yes', gd_no', cnd_true, cnd_false, pick_true, pick_false, not_bool, bin_add, bin_sub, bin_mul, bin_eql, bin_neq, bin_lss, bin_leq, bin_gtr, bin_geq, ext0, ext1, ext2, lenS_mk, eqNil_none, eqNil_some, neNil_none, neNil_some, ret_k, mem, Nat.zero_add, Nat.add_zero, Nat.mul_one, drewV, Bool.not_true, Bool.not_false, show decide ((j : Int) < (wl.length : Int)) = true from decide_eq_true (by omega)]
    have hrd := (hw2.mono (L' := co ++ (Db ++ (⟨b, 96, lkc M su sus sp sx⟩ :: ⟨bu, 101, ucells us sv ++ rest⟩ :: G))) (fun c hc => by simp [hc])).rd H
    refine ix1_rd (v := I wl[j]) hrd (by simp [iv, hlt]) ?_
    try simp only [pv_some, nilO_ptr, faO_mk, gd_yes, gd_no, gd_yes', gd_no', cnd_true, cnd_false, pick_true, pick_false, not_bool, bin_add, bin_sub, bin_mul, bin_eql, bin_neq, bin_lss, bin_leq, bin_gtr, bin_geq, ext0, ext1, ext2, lenS_mk, eqNil_none, eqNil_some, neNil_none, neNil_some, ret_k, mem, Nat.zero_add, Nat.add_zero, Nat.mul_one, drewV, Bool.not_true, Bool.not_false]
    have hmem : (⟨bu, 101, ucells us sv ++ rest⟩ : Chunk) ∈ co ++ (Db ++ (⟨b, 96, lkc M su sus sp sx⟩ :: ⟨bu, 101, ucells us sv ++ rest⟩ :: G)) := by simp
    have hlen := ucells_len hsv
    have hiu : i < us.length := (List.getElem?_eq_some_iff.1 hu).1
    have hcell : ((ucells us sv ++ rest).drop (i * 6)).take 5 = frm 1 u.last u.m u.f su1 := by
      apply List.ext_getElem?
      intro m
      rw [List.getElem?_take]
      by_cases hm : m < 5
      · rw [if_pos hm, List.getElem?_drop, List.getElem?_append_left (by rw [hlen]; omega), ucells_get hu hs (by omega)]
        have : m = 0 ∨ m = 1 ∨ m = 2 ∨ m = 3 ∨ m = 4 := by omega
        rcases this with rfl | rfl | rfl | rfl | rfl <;> rfl
      · rw [if_neg hm, List.getElem?_eq_none (by simp [frm]; omega)]
    refine ldN_blk (H.blk _ hmem).2 (by show _ ≤ (ucells us sv ++ rest).length; rw [List.length_append, hlen]; omega) ?_
    rw [show (({ b := bu, t := 101, l := ucells us sv ++ rest } : Chunk).l.drop (i * 6)).take 5 = frm 1 u.last u.m u.f su1 from hcell]
    refine enc_call (d := u.d) (k := 1) (last := u.last) (m := u.m) (f := u.f) (s := su1) (hsd.mono (fun c hc => by simp [hc])) H fun w5 s5 cs5 er H5 h5 => ?_
    try simp only [pv_some, nilO_ptr, faO_mk, gd_yes, gd_no, gd_yes', gd_no', cnd_true, cnd_false, pick_true, pick_false, not_bool, bin_add, bin_sub, bin_mul, bin_eql, bin_neq, bin_lss, bin_leq, bin_gtr, bin_geq, ext0, ext1, ext2, lenS_mk, eqNil_none, eqNil_some, neNil_none, neNil_some, ret_k, mem, Nat.zero_add, Nat.add_zero, Nat.mul_one, drewV, Bool.not_true, Bool.not_false]
    rw [bldO2 (sl_cells h5)]
    try simp only [pv_some, nilO_ptr, faO_mk, gd_yes, gd_no, gd_yes', gd_no', cnd_true, cnd_false, pick_true, pick_false, not_bool, bin_add, bin_sub, bin_mul, bin_eql, bin_neq, bin_lss, bin_leq, bin_gtr, bin_geq, ext0, ext1, ext2, lenS_mk, eqNil_none, eqNil_some, neNil_none, neNil_some, ret_k, mem, Nat.zero_add, Nat.add_zero, Nat.mul_one, drewV, Bool.not_true, Bool.not_false]
    refine out_app (x := wl[j]) (ys := encR 1 u.last u.m u.f u.d) hP h5 (by simp [outWs]; omega) H5 fun w7 s7 co7 hP7 H7 => ?_
    try simp only [pv_some, nilO_ptr, faO_mk, gd_yes, gd_no, gd_yes', gd_no', cnd_true, cnd_false, pick_true, pick_false, not_bool, bin_add, bin_sub, bin_mul, bin_eql, bin_neq, bin_lss, bin_leq, bin_gtr, bin_geq, ext0, ext1, ext2, lenS_mk, eqNil_none, eqNil_some, neNil_none, neNil_some, ret_k, mem, Nat.zero_add, Nat.add_zero, Nat.mul_one, drewV, Bool.not_true, Bool.not_false]
    rw [wrap64_id (by omega) (by omega), show (j : Int) + 1 = ((j + 1 : Nat) : Int) from by omega]
    refine ih (j + 1) w7 s7 co7 (cs5 ++ Db) (sv2 ++ [s5]) (by omega) ?_ H7
    have : os0 ++ outWs u (wl.take (j + 1)) = os0 ++ outWs u (wl.take j) ++ [(wl[j], encR 1 u.last u.m u.f u.d)] := by
      unfold outWs; rw [List.take_add_one, getElem_of_lt hlt, List.map_append, List.append_assoc]; rfl
    rw [this]; exact hP7
theorem overI_len (q t : Int) (ws : List Int) : (overI q t ws).length ≤ ws.length := by
  unfold overI
  split
  · rw [List.length_take]; omega
  · split
    · rw [List.length_take, List.length_drop]; omega
    · exact Nat.le_refl _
/-- The units of the window. -/
theorem out_units {b bu cap k : Nat} {now : Int} {M0 : LM} {su sp sx sw : Value} {cu cw D G : List Chunk} {sv rest : List Value} {ws : List Int} {again : Bool} {N : Nat}
    (hsu : Sl 3 1 sw ws.length (iv ws) cw) (hcw : ∀ c ∈ cw, c ∈ G) (hD : ∀ c ∈ D, c ∈ G) (hws : 0 < ws.length) (hws8 : ws.length < 2 ^ 10) (hN : N < 2 ^ 40) (hsvl : sv.length = N) (hkN : k ≤ N) (hk8 : k ≤ 8) :
    ∀ (d i : Nat) (w : World) (pre post : List UM) (t : Int) (os : List OM) (s : Value) (co Db : List Chunk) (sv2 : List Value), i + d = k → pre.length = i → (pre ++ post).length = N → 0 ≤ t → t < 1125899906842624 + (i : Int) → os.length + d * 4096 < 268435456 →
      (∀ (i : Nat) (u : UM) (s : Value), (pre ++ post)[i]? = some u → sv[i]? = some s → RdL w0 D 1 s u.d.length (bv u.d) ∧ s.cells = #[s] ∧ scalar s = true) →
      OutP 90 w0 s os co Db sv2 → Hp w0 w (co ++ (Db ++ (⟨b, 96, lkc { M0 with us := pre ++ post, turn := t } su (.slice (some ⟨bu, 0, none⟩) N cap) sp sx⟩ :: ⟨bu, 101, ucells (pre ++ post) sv ++ rest⟩ :: G))) →
      (∀ w' s' co' Db' sv2', OutP 90 w0 s' (os ++ (outUs again now M0.quality ws d t post).1) co' Db' sv2' →
        (∀ (i : Nat) (u : UM) (s : Value), (pre ++ (outUs again now M0.quality ws d t post).2.1)[i]? = some u → sv[i]? = some s → RdL w0 D 1 s u.d.length (bv u.d) ∧ s.cells = #[s] ∧ scalar s = true) → (pre ++ (outUs again now M0.quality ws d t post).2.1).length = N →
        Hp w0 w' (co' ++ (Db' ++ (⟨b, 96, lkc { M0 with us := pre ++ (outUs again now M0.quality ws d t post).2.1, turn := (outUs again now M0.quality ws d t post).2.2 } su (.slice (some ⟨bu, 0, none⟩) N cap) sp sx⟩ :: ⟨bu, 101, ucells (pre ++ (outUs again now M0.quality ws d t post).2.1) sv ++ rest⟩ :: G))) →
        R (.returned (.tuple ⟨[s', I 0]⟩)) w') →
      links_Link_Output_l2 R (d + 1) (ptr b 0) (I now) sw (.bool again) s (I (k : Int)) (I (i : Int)) w := by
  intro d
  induction d with
  | zero =>
    intro i w pre post t os s co Db sv2 hi hpre hlen ht0 ht hos hdat hP H hq
    rw [links_Link_Output_l2_succ]
    unfold links_Link_Output_b1 links_Link_Output_j7
    simp only [pv_some, nilO_ptr, faO_mk, gd_yes, gd_no, gd_yes', gd_no', cnd_true, cnd_false, pick_true, pick_false, not_bool, bin_add, bin_sub, bin_mul, bin_eql, bin_neq, bin_lss, bin_leq, bin_gtr, bin_geq, ext0, ext1, ext2, lenS_mk, eqNil_none, eqNil_some, neNil_none, neNil_some, ret_k, mem, Nat.zero_add, Nat.add_zero, Nat.mul_one, drewV, Bool.not_true, Bool.not_false, show decide ((i : Int) < (k : Int)) = false from decide_eq_false (by omega)]
    have e : outUs again now M0.quality ws 0 t post = ([], post, t) := by unfold outUs; rfl
    rw [e] at hq
    exact hq w s co Db sv2 (by simpa using hP) hdat hlen H
  | succ d ih =>
    intro i w pre post t os s co Db sv2 hi hpre hlen ht0 ht hos hdat hP H hq
    cases post with
    | nil => simp at hlen; omega
    | cons u r =>
      rw [links_Link_Output_l2_succ]
      unfold links_Link_Output_b1 links_Link_Output_j10 links_Link_Output_j12
      simp only [pv_some, nilO_ptr, faO_mk, gd_yes, gd_no, gd_yes', gd_no', cnd_true, cnd_false, pick_true, pick_false, not_bool, bin_add, bin_sub, bin_mul, bin_eql, bin_neq, bin_lss, bin_leq, bin_gtr, bin_geq, ext0, ext1, ext2, lenS_mk, eqNil_none, eqNil_some, neNil_none, neNil_some, ret_k, mem, Nat.zero_add, Nat.add_zero, Nat.mul_one, drewV, Bool.not_true, Bool.not_false, show decide ((i : Int) < (k : Int)) = true from decide_eq_true (by omega)]
      have H1 : Hp w0 w (⟨b, 96, lkc { M0 with us := pre ++ u :: r, turn := t } su (.slice (some ⟨bu, 0, none⟩) N cap) sp sx⟩ :: ⟨bu, 101, ucells (pre ++ u :: r) sv ++ rest⟩ :: (co ++ (Db ++ G))) := H.to (by intro f; simp only [I, U8, U64, ptr, List.set_cons_zero, List.set_cons_succ, List.eraseIdx_cons_zero, List.eraseIdx_cons_succ, List.map_append, List.map_cons, List.map_nil, List.sum_append, List.sum_cons, List.sum_nil]; omega)
      refine ld_h H1 0 rfl rfl ?_
      rw [ixS_mk (by omega)]
      try simp only [pv_some, nilO_ptr, faO_mk, gd_yes, gd_no, gd_yes', gd_no', cnd_true, cnd_false, pick_true, pick_false, not_bool, bin_add, bin_sub, bin_mul, bin_eql, bin_neq, bin_lss, bin_leq, bin_gtr, bin_geq, ext0, ext1, ext2, lenS_mk, eqNil_none, eqNil_some, neNil_none, neNil_some, ret_k, mem, Nat.zero_add, Nat.add_zero, Nat.mul_one, drewV, Bool.not_true, Bool.not_false]
      have hu : (pre ++ u :: r)[i]? = some u := by rw [List.getElem?_append_right (by omega), hpre, Nat.sub_self]; rfl
      obtain ⟨s1, hs1⟩ : ∃ s, sv[i]? = some s := ⟨_, List.getElem?_eq_getElem (by omega)⟩
      have hsv' : sv.length = (pre ++ u :: r).length := by rw [hsvl, hlen]
      have hulen := ucells_len hsv'
      have hcat : (ucells (pre ++ u :: r) sv ++ rest)[i * 6 + 5]? = some (I u.at_) := get_left (by have := ucells_get hu hs1 (j := 5) (by omega); simpa [ucell] using this)
      have next : ∀ {w : World} {s : Value}, (∀ {w'}, links_Link_Output_l2 R (d + 1) (ptr b 0) (I now) sw (.bool again) s (I (k : Int)) (I ((i + 1 : Nat) : Int)) w' → links_Link_Output_j11 R (links_Link_Output_l2 R (d + 1)) (ptr b 0) (I now) sw (.bool again) s (I (k : Int)) (I (i : Int)) w') := by
        intro w s w' h
        unfold links_Link_Output_j11
        simp only [pv_some, nilO_ptr, faO_mk, gd_yes, gd_no, gd_yes', gd_no', cnd_true, cnd_false, pick_true, pick_false, not_bool, bin_add, bin_sub, bin_mul, bin_eql, bin_neq, bin_lss, bin_leq, bin_gtr, bin_geq, ext0, ext1, ext2, lenS_mk, eqNil_none, eqNil_some, neNil_none, neNil_some, ret_k, mem, Nat.zero_add, Nat.add_zero, Nat.mul_one, drewV, Bool.not_true, Bool.not_false]
        rw [wrap64_id (by omega) (by omega), show (i : Int) + 1 = ((i + 1 : Nat) : Int) from by omega]
        exact h
      -- the unit is left
      have skip : again = false → 0 ≤ u.at_ → links_Link_Output_j11 R (links_Link_Output_l2 R (d + 1)) (ptr b 0) (I now) sw (.bool again) s (I (k : Int)) (I (i : Int)) w := by
        intro ha hat
        have e : outUs again now M0.quality ws (d + 1) t (u :: r) = ((outUs again now M0.quality ws d t r).1, u :: (outUs again now M0.quality ws d t r).2.1, (outUs again now M0.quality ws d t r).2.2) := by
          rw [outUs, if_pos (by simp [ha, hat])]
        refine next (w := w) ?_
        have e1 : ∀ l : List UM, pre ++ [u] ++ l = pre ++ u :: l := fun l => by rw [List.append_assoc]; rfl
        refine ih (i + 1) w (pre ++ [u]) r t os s co Db sv2 (by omega) (by rw [List.length_append, hpre]; rfl) (by rw [e1]; exact hlen) ht0 (by omega) (Nat.lt_of_le_of_lt (Nat.add_le_add_left (Nat.mul_le_mul_right _ (Nat.le_succ d)) _) hos) (by rw [e1]; exact hdat) hP (by rw [e1]; exact H) ?_
        intro w' s' co' Db' sv2' g1 g2 g3 g4
        rw [e1] at g2 g3 g4
        rw [e] at hq
        exact hq w' s' co' Db' sv2' g1 g2 g3 g4
      -- the unit is sent
      have send : ¬ (again = false ∧ 0 ≤ u.at_) → links_Link_Output_j13 R (links_Link_Output_l2 R (d + 1)) (ptr b 0) (I now) sw (.bool again) s (ptr bu (i * 6)) (I (k : Int)) (I (i : Int)) w := by
        intro hns
        have e : outUs again now M0.quality ws (d + 1) t (u :: r) = (outWs u (overI M0.quality t ws) ++ (outUs again now M0.quality ws d (overT M0.quality t) r).1, { u with at_ := now } :: (outUs again now M0.quality ws d (overT M0.quality t) r).2.1, (outUs again now M0.quality ws d (overT M0.quality t) r).2.2) := by
          rw [outUs, if_neg]
          intro h; apply hns; simpa using h
        unfold links_Link_Output_j13
        simp only [pv_some, nilO_ptr, faO_mk, gd_yes, gd_no, gd_yes', gd_no', cnd_true, cnd_false, pick_true, pick_false, not_bool, bin_add, bin_sub, bin_mul, bin_eql, bin_neq, bin_lss, bin_leq, bin_gtr, bin_geq, ext0, ext1, ext2, lenS_mk, eqNil_none, eqNil_some, neNil_none, neNil_some, ret_k, mem, Nat.zero_add, Nat.add_zero, Nat.mul_one, drewV, Bool.not_true, Bool.not_false]
        refine st_h H1 1 rfl (by rw [List.length_append, hulen]; omega) rfl fun w1 H2 => ?_
        have eset : (ucells (pre ++ u :: r) sv ++ rest).set (i * 6 + 5) (I now) = ucells (pre ++ { u with at_ := now } :: r) sv ++ rest := by
          rw [set_left (by rw [hulen]; omega), ucells_at hu hs1]
          congr 2
          rw [List.set_append_right _ _ (by omega), hpre, Nat.sub_self]; rfl
        have H3 : Hp w0 w1 (⟨b, 96, lkc { M0 with us := pre ++ { u with at_ := now } :: r, turn := t } su (.slice (some ⟨bu, 0, none⟩) N cap) sp sx⟩ :: ⟨bu, 101, ucells (pre ++ { u with at_ := now } :: r) sv ++ rest⟩ :: (co ++ (Db ++ G))) := by
          rw [← eset]; exact H2
        refine cal_h (over_spec (M := { M0 with us := pre ++ { u with at_ := now } :: r, turn := t }) H3 hsu (fun c hc => by simp [hcw c hc]) hws (by omega) ht0 (by show t < _; omega)) ?_
        rintro e9 w2 ⟨s2, rfl, H4, hr2⟩
        simp only [pv_some, nilO_ptr, faO_mk, gd_yes, gd_no, gd_yes', gd_no', cnd_true, cnd_false, pick_true, pick_false, not_bool, bin_add, bin_sub, bin_mul, bin_eql, bin_neq, bin_lss, bin_leq, bin_gtr, bin_geq, ext0, ext1, ext2, lenS_mk, eqNil_none, eqNil_some, neNil_none, neNil_some, ret_k, mem, Nat.zero_add, Nat.add_zero, Nat.mul_one, drewV, Bool.not_true, Bool.not_false]
        rw [lenS_rdL hr2]
        try simp only [pv_some, nilO_ptr, faO_mk, gd_yes, gd_no, gd_yes', gd_no', cnd_true, cnd_false, pick_true, pick_false, not_bool, bin_add, bin_sub, bin_mul, bin_eql, bin_neq, bin_lss, bin_leq, bin_gtr, bin_geq, ext0, ext1, ext2, lenS_mk, eqNil_none, eqNil_some, neNil_none, neNil_some, ret_k, mem, Nat.zero_add, Nat.add_zero, Nat.mul_one, drewV, Bool.not_true, Bool.not_false]
        unfold links_Link_Output_j14
        refine ⟨(overI M0.quality t ws).length + 1, ?_⟩
        have hu' : (pre ++ { u with at_ := now } :: r)[i]? = some { u with at_ := now } := by rw [List.getElem?_append_right (by omega), hpre, Nat.sub_self]; rfl
        have hdat' : ∀ (i' : Nat) (u' : UM) (s : Value), (pre ++ { u with at_ := now } :: r)[i']? = some u' → sv[i']? = some s → RdL w0 D 1 s u'.d.length (bv u'.d) ∧ s.cells = #[s] ∧ scalar s = true := by
          intro i' u' s' h1 h2
          by_cases hii : i' = i
          · subst hii
            rw [hu'] at h1; injection h1 with h1; subst h1
            exact hdat i' u s' hu h2
          · refine hdat i' u' s' ?_ h2
            rw [← h1]
            by_cases hl : i' < pre.length
            · rw [List.getElem?_append_left hl, List.getElem?_append_left hl]
            · rw [List.getElem?_append_right (by omega), List.getElem?_append_right (by omega)]
              obtain ⟨m, hm⟩ : ∃ m, i' - pre.length = m + 1 := ⟨i' - pre.length - 1, by omega⟩
              rw [hm]; rfl
        have hol := overI_len M0.quality t ws
        have e1 : ∀ l : List UM, pre ++ [{ u with at_ := now }] ++ l = pre ++ { u with at_ := now } :: l := fun l => by rw [List.append_assoc]; rfl
        have H4' : Hp w0 w2 (⟨b, 96, lkc { M0 with us := pre ++ { u with at_ := now } :: r, turn := overT M0.quality t } su (.slice (some ⟨bu, 0, none⟩) N cap) sp sx⟩ :: ⟨bu, 101, ucells (pre ++ { u with at_ := now } :: r) sv ++ rest⟩ :: (co ++ (Db ++ G))) := H4
        refine out_wires (G := G) (w0 := w0) (su := su) (sus := .slice (some ⟨bu, 0, none⟩) N cap) (sp := sp) (sx := sx) (us := pre ++ { u with at_ := now } :: r) (sv := sv) (rest := rest) (os0 := os) (wl := overI M0.quality t ws) (u := { u with at_ := now }) (M := { M0 with us := pre ++ { u with at_ := now } :: r, turn := overT M0.quality t }) hu' hs1 (by rw [hsvl, ← hlen]; simp)
          ((hdat' i _ s1 hu' hs1).1.mono hD) (hr2.mono hcw) (by omega) (by omega) ?_ (overI M0.quality t ws).length 0 w2 s co Db sv2 (by omega) (by simpa [outWs] using hP) (H4'.to (by intro f; simp only [I, U8, U64, ptr, List.set_cons_zero, List.set_cons_succ, List.eraseIdx_cons_zero, List.eraseIdx_cons_succ, List.map_append, List.map_cons, List.map_nil, List.sum_append, List.sum_cons, List.sum_nil]; omega))
        intro w5 s5 co5 Db5 sv5 hP5 H5
        refine next (w := w5) ?_
        refine ih (i + 1) w5 (pre ++ [{ u with at_ := now }]) r (overT M0.quality t) (os ++ outWs u (overI M0.quality t ws)) s5 co5 Db5 sv5 (by omega) (by rw [List.length_append, hpre]; rfl) (by rw [e1, ← hlen]; simp) ?_ ?_ (by simp [outWs]; omega) (by rw [e1]; exact hdat') hP5 (by rw [e1]; exact H5) ?_
        · unfold overT; split
          · exact ht0
          · split <;> omega
        · unfold overT; split
          · omega
          · split <;> omega
        intro w' s' co' Db' sv2' g1 g2 g3 g4
        rw [e1] at g2 g3 g4
        rw [e] at hq
        exact hq w' s' co' Db' sv2' (by rw [List.append_assoc] at g1; exact g1) g2 g3 g4
      cases ha : again with
      | true =>
        rw [ha] at send
        simp only [pv_some, nilO_ptr, faO_mk, gd_yes, gd_no, gd_yes', gd_no', cnd_true, cnd_false, pick_true, pick_false, not_bool, bin_add, bin_sub, bin_mul, bin_eql, bin_neq, bin_lss, bin_leq, bin_gtr, bin_geq, ext0, ext1, ext2, lenS_mk, eqNil_none, eqNil_some, neNil_none, neNil_some, ret_k, mem, Nat.zero_add, Nat.add_zero, Nat.mul_one, drewV, Bool.not_true, Bool.not_false]
        exact send (by simp)
      | false =>
        rw [ha] at send skip
        simp only [pv_some, nilO_ptr, faO_mk, gd_yes, gd_no, gd_yes', gd_no', cnd_true, cnd_false, pick_true, pick_false, not_bool, bin_add, bin_sub, bin_mul, bin_eql, bin_neq, bin_lss, bin_leq, bin_gtr, bin_geq, ext0, ext1, ext2, lenS_mk, eqNil_none, eqNil_some, neNil_none, neNil_some, ret_k, mem, Nat.zero_add, Nat.add_zero, Nat.mul_one, drewV, Bool.not_true, Bool.not_false]
        refine ld_h H1 1 rfl hcat ?_
        try simp only [pv_some, nilO_ptr, faO_mk, gd_yes, gd_no, gd_yes', gd_no', cnd_true, cnd_false, pick_true, pick_false, not_bool, bin_add, bin_sub, bin_mul, bin_eql, bin_neq, bin_lss, bin_leq, bin_gtr, bin_geq, ext0, ext1, ext2, lenS_mk, eqNil_none, eqNil_some, neNil_none, neNil_some, ret_k, mem, Nat.zero_add, Nat.add_zero, Nat.mul_one, drewV, Bool.not_true, Bool.not_false]
        refine cnd_decide (fun h => ?_) (fun h => ?_)
        · exact skip rfl h
        · exact send (by simp; omega)
theorem outUs_all (again : Bool) (now q : Int) (ws : List Int) : ∀ (n m : Nat) (t : Int) (us : List UM), us.length ≤ n → us.length ≤ m → outUs again now q ws n t us = outUs again now q ws m t us
  | 0, 0, _, _, _, _ => rfl
  | 0, m + 1, t, us, h, _ => by
    have : us = [] := List.length_eq_zero_iff.1 (by omega)
    subst this; rfl
  | n + 1, 0, t, us, _, h => by
    have : us = [] := List.length_eq_zero_iff.1 (by omega)
    subst this; rfl
  | n + 1, m + 1, t, [], _, _ => rfl
  | n + 1, m + 1, t, u :: r, h1, h2 => by
    simp only [List.length_cons] at h1 h2
    simp only [outUs, outUs_all again now q ws n m _ r (by omega) (by omega)]
theorem outUs_min (again : Bool) (now q : Int) (ws : List Int) (t : Int) (us : List UM) : outUs again now q ws (min 8 us.length) t us = outUs again now q ws 8 t us := by
  by_cases h : 8 ≤ us.length
  · rw [Nat.min_eq_left h]
  · exact outUs_all _ _ _ _ _ _ _ _ (by omega) (by omega)
theorem outUs_len (again : Bool) (now q : Int) (ws : List Int) : ∀ (n : Nat) (t : Int) (us : List UM), (outUs again now q ws n t us).2.1.length = us.length
  | 0, _, _ => rfl
  | _ + 1, _, [] => rfl
  | n + 1, t, u :: r => by
    unfold outUs
    split <;> simp [outUs_len again now q ws n _ r]
/-- Output's answer. -/
def OutPost (w0 : Base) (F : List Chunk) (Lkx : Base → Nat → LM → List Chunk → Prop) (tO : Nat) (b : Nat) (M : LM) (now : Int) : ER := fun e w' =>
  ∃ s co Db sv L', e = .returned (.tuple ⟨[s, I (outE M now)]⟩) ∧ Hp w0 w' (co ++ (Db ++ (L' ++ F))) ∧ OutP tO w0 s (outV M now) co Db sv ∧ Lkx w0 b (outM M now) L'
/-- What a link keeps to. -/
structure Wf (M : LM) : Prop where
  up1 : 1 ≤ M.up.length
  up8 : M.up.length ≤ 8
  size : 32 ≤ M.size ∧ M.size ≤ 4096
  tout : 1 ≤ M.timeout ∧ M.timeout ≤ 1099511627776
  turn : 0 ≤ M.turn ∧ M.turn < 1125899906842624
  rep : 0 ≤ M.repeats ∧ M.repeats ≤ 6
  clock : 0 ≤ M.clock ∧ M.clock ≤ 1099511627776
  at_ : ∀ u ∈ M.us, -1 ≤ u.at_ ∧ u.at_ ≤ 1099511627776
  aw : ∀ a ∈ M.acks, a.w < M.up.length
  ul : M.us.length < 268435456
  al : M.acks.length < 134217728
  sd : 0 ≤ M.done ∧ M.done ≤ M.sent ∧ M.sent ≤ 1099511627776
end
end Go.Proofs.Ytmnpndgmfmjfhaa.Den
