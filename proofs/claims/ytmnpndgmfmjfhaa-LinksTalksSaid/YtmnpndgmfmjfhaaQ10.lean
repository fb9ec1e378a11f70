/- Links: the reference's Output. Conditions: none. -/
import Derived.Test.YtmnpndgmfmjfhaaQ9
section
set_option linter.unusedVariables false
set_option linter.unusedSimpArgs false
set_option maxRecDepth 8000
namespace Go.Proofs.Ytmnpndgmfmjfhaa.Den
open Go Go.RowKit
section
variable {w w' : World} {w0 : Base} {F L : List Chunk} {R : ER}
/-- One frame more. -/
theorem rout_app {s s' : Value} {os : List OM} {co Db cs : List Chunk} {sv : List Value} {x : Int} {ys : List Int} {K : VK} {ty : Nat} {cc : Array Bool} (hP : OutP 145 w0 s os co Db sv) (hs' : Sl 5 1 s' ys.length (bv ys) cs) (hlen : os.length < 2 ^ 30)
    (H : Hp w0 w (cs ++ (co ++ (Db ++ F)))) (k : ∀ w' s2 co2, OutP 145 w0 s2 (os ++ [(x, ys)]) co2 (cs ++ Db) (sv ++ [s']) → Hp w0 w' (co2 ++ ((cs ++ Db) ++ F)) → K s2 w') :
    valV Pg R (Instr.buildSlice 127 1 ⟨[(0, .agg ⟨[I x, s']⟩)]⟩) (fun v => blt Pg R .append ⟨[127, 127]⟩ ty cc ⟨[s, v]⟩ K) w := by
  refine lit1_h (v := .agg ⟨[I x, s']⟩) elT127 H rfl (by omega) fun w1 nb H1 => ?_
  have H1' : Hp w0 w1 (⟨nb, 145, [I x, s']⟩ :: (cs ++ (co ++ (Db ++ F)))) := H1
  have H2 : Hp w0 w1 (co ++ (⟨nb, 145, [I x, s']⟩ :: ((cs ++ Db) ++ F))) := H1'.to (by intro f; simp only [I, U8, U64, ptr, List.set_cons_zero, List.set_cons_succ, List.eraseIdx_cons_zero, List.eraseIdx_cons_succ, List.map_append, List.map_cons, List.map_nil, List.sum_append, List.sum_cons, List.sum_nil]; omega)
  refine append_h elT127 H2 hP.sl (m := 1) (ys := [I x, s']) (.inr ⟨nb, 0, 1, 145, [I x, s'], rfl, by omega, by simp, by simp, rfl⟩)
    (by intro c hc; simp at hc; rcases hc with rfl | rfl <;> first | rfl | exact sl_sc hs') (by omega) (by omega) fun w3 s3 cs3 H3 h3 => ?_
  refine k w3 s3 cs3 ⟨?_, by simp [hP.svl], ?_⟩ (H3.to (by intro f; simp only [I, U8, U64, ptr, List.set_cons_zero, List.set_cons_succ, List.eraseIdx_cons_zero, List.eraseIdx_cons_succ, List.map_append, List.map_cons, List.map_nil, List.sum_append, List.sum_cons, List.sum_nil]; omega))
  · rw [ocells_append hP.svl]
    have e : ocells [(x, ys)] [s'] = [I x, s'] := by simp [ocells, ocell]
    rw [e, List.length_append]; exact h3
  · intro i o v ho hv
    by_cases hi : i < os.length
    · rw [List.getElem?_append_left hi] at ho
      rw [List.getElem?_append_left (by rw [hP.svl]; exact hi)] at hv
      exact (hP.dat i o v ho hv).mono (fun c hc => by simp [hc])
    · rw [List.getElem?_append_right (by omega)] at ho
      rw [List.getElem?_append_right (by rw [hP.svl]; omega), hP.svl] at hv
      have hi0 : i - os.length = 0 := by
        have := (List.getElem?_eq_some_iff.1 ho).1
        simp at this; omega
      rw [hi0] at ho hv
      simp only [List.getElem?_cons_zero, Option.some.injEq] at ho hv
      subst ho; subst hv
      exact hs'.rdL (fun c hc => by simp [hc])
theorem renc_call {k m f : Int} {last : Bool} {s : Value} {d : List Int} {K : VK} (hs : RdL w0 F 1 s d.length (bv d)) (H : Hp w0 w F)
    (k1 : ∀ w' s' cs er, Hp w0 w' (cs ++ F) → Sl 5 1 s' (encR k last m f d).length (bv (encR k last m f d)) cs → K (.tuple ⟨[s', I er]⟩) w') : cal Pg R 17 ⟨[.agg ⟨frm k last m f s⟩]⟩ K w := by
  refine cal_h (rEncode_spec hs H) ?_
  rintro e w' ⟨s', n', ys, cs, rfl, H', hs', h1, h2⟩
  refine k1 w' s' cs _ H' ?_
  unfold encR
  by_cases he : encE k last m f d.length = 0
  · obtain ⟨g1, g2, g3⟩ := h2 he
    rw [if_pos he, encB_length, ← g2, ← g3]; exact hs'
  · obtain ⟨g1, g2, g3⟩ := h1 he
    rw [if_neg he]; subst g1; subst g3; exact hs'
/-- The acknowledgments that are due. -/
theorem rout_acks {b : Nat} {M : LM} {su sus sp sa sw x1 x8 : Value} {cu ca cw : List Chunk} {ws : List Int} {G : List Chunk} (hup : Sl 4 1 su M.up.length (M.up.map .bool) cu)
    (hca : Sl 144 6 sa M.acks.length (acells M.acks) ca) (hcw : Sl 3 1 sw ws.length (iv ws) cw) (hws : 0 < ws.length) (hw : ∀ a ∈ M.acks, a.w < M.up.length) (hal : M.acks.length < 2 ^ 29)
    (h1 : ∀ c ∈ cu, c ∈ G) (h2 : ∀ c ∈ ca, c ∈ G) (h3 : ∀ c ∈ cw, c ∈ G)
    (hq : ∀ w' s co Db sv, OutP 145 w0 s (M.acks.map (outAck M.up ws)) co Db sv → Hp w0 w' (co ++ (Db ++ (⟨b, 125, rlc M su sus sp sa⟩ :: G))) → F54_j3 R (ptr b 0) x1 sw x8 s w') :
    ∀ (d i : Nat) (w : World) (s : Value) (co Db : List Chunk) (sv : List Value), i + d = M.acks.length → OutP 145 w0 s ((M.acks.take i).map (outAck M.up ws)) co Db sv → Hp w0 w (co ++ (Db ++ (⟨b, 125, rlc M su sus sp sa⟩ :: G))) →
      F54_l3 R (d + 1) (ptr b 0) x1 sw x8 s (I (i : Int)) w := by
  intro d
  induction d with
  | zero =>
    intro i w s co Db sv hi hP H
    rw [F54_l3_succ]
    unfold F54_b3
    have H0 : Hp w0 w (⟨b, 125, rlc M su sus sp sa⟩ :: (co ++ (Db ++ G))) := H.to (by intro f; simp only [I, U8, U64, ptr, List.set_cons_zero, List.set_cons_succ, List.eraseIdx_cons_zero, List.eraseIdx_cons_succ, List.map_append, List.map_cons, List.map_nil, List.sum_append, List.sum_cons, List.sum_nil]; omega)
    simp only [WKt, mem, drewV]
    refine ld_h H0 0 rfl rfl ?_
    simp only [lenS_sl hca, WKt, mem, drewV]
    simp only [show decide ((i : Int) < (M.acks.length : Int)) = false from decide_eq_false (by omega), WKt, mem, drewV]
    rw [List.take_of_length_le (by omega)] at hP
    exact hq w s co Db sv hP H
  | succ d ih =>
    intro i w s co Db sv hi hP H
    rw [F54_l3_succ]
    unfold F54_b3
    have hlt : i < M.acks.length := by omega
    obtain ⟨a, ha⟩ : ∃ a, M.acks[i]? = some a := ⟨_, List.getElem?_eq_getElem hlt⟩
    have haw := hw a (List.mem_of_getElem? ha)
    have H0 : Hp w0 w (⟨b, 125, rlc M su sus sp sa⟩ :: (co ++ (Db ++ G))) := H.to (by intro f; simp only [I, U8, U64, ptr, List.set_cons_zero, List.set_cons_succ, List.eraseIdx_cons_zero, List.eraseIdx_cons_succ, List.map_append, List.map_cons, List.map_nil, List.sum_append, List.sum_cons, List.sum_nil]; omega)
    simp only [WKt, mem, drewV]
    refine ld_h H0 0 rfl rfl ?_
    simp only [lenS_sl hca, WKt, mem, drewV]
    simp only [show decide ((i : Int) < (M.acks.length : Int)) = true from decide_eq_true (by omega), lenS_sl hcw, WKt, mem, drewV]
    simp only [show decide ((0 : Int) < (ws.length : Int)) = true from decide_eq_true (by omega), WKt, mem, drewV]
    unfold F54_j26 F54_j28
    simp only [WKt, mem, drewV]
    refine ld_h H0 0 rfl rfl ?_
    obtain ⟨ba, cap, rest, hca', hsa, g1, g2, g3⟩ := hca.chunk (by omega)
    have eix : ixS 6 sa (I (i : Int)) = some (ptr ba (i * 6)) := by rw [hsa]; have := ixS_mk (sz := 6) (b := ba) (o := 0) (c := cap) (n := M.acks.length) (j := i) (k := .i64) hlt; simpa using this
    have hlen := acells_len M.acks
    simp only [eix, WKt, mem, drewV]
    have hcell : ((acells M.acks ++ rest).drop (i * 6 + 1)).take 5 = frm 2 false a.m a.f (.slice none 0 0) := by
      apply List.ext_getElem?
      intro m
      rw [List.getElem?_take]
      by_cases hm : m < 5
      · rw [if_pos hm, List.getElem?_drop, List.getElem?_append_left (by rw [hlen]; omega), Nat.add_assoc, acells_get ha (by omega)]
        have : m = 0 ∨ m = 1 ∨ m = 2 ∨ m = 3 ∨ m = 4 := by omega
        rcases this with rfl | rfl | rfl | rfl | rfl <;> rfl
      · rw [if_neg hm, List.getElem?_eq_none (by simp [frm]; omega)]
    have hmem : (⟨ba, 144, acells M.acks ++ rest⟩ : Chunk) ∈ ⟨b, 125, rlc M su sus sp sa⟩ :: (co ++ (Db ++ G)) := by
      have : (⟨ba, 144, acells M.acks ++ rest⟩ : Chunk) ∈ G := h2 _ (by rw [hca']; simp)
      simp [this]
    refine ldN_blk (H0.blk _ hmem).2 (by show _ ≤ (acells M.acks ++ rest).length; rw [List.length_append, hlen]; omega) ?_
    rw [show ((acells M.acks ++ rest).drop (i * 6 + 1)).take 5 = frm 2 false a.m a.f (.slice none 0 0) from hcell]
    refine renc_call (d := []) (k := 2) (last := false) (m := a.m) (f := a.f) (s := .slice none 0 0) rdnil H0 fun w5 s5 cs5 er H5 h5 => ?_
    simp only [WKt, mem, drewV]
    have H6 : Hp w0 w5 (⟨b, 125, rlc M su sus sp sa⟩ :: (cs5 ++ (co ++ (Db ++ G)))) := H5.to (by intro f; simp only [I, U8, U64, ptr, List.set_cons_zero, List.set_cons_succ, List.eraseIdx_cons_zero, List.eraseIdx_cons_succ, List.map_append, List.map_cons, List.map_nil, List.sum_append, List.sum_cons, List.sum_nil]; omega)
    refine ld_h H6 0 rfl rfl ?_
    simp only [eix, WKt, mem, drewV]
    have hmem6 : (⟨ba, 144, acells M.acks ++ rest⟩ : Chunk) ∈ ⟨b, 125, rlc M su sus sp sa⟩ :: (cs5 ++ (co ++ (Db ++ G))) := by
      have : (⟨ba, 144, acells M.acks ++ rest⟩ : Chunk) ∈ G := h2 _ (by rw [hca']; simp)
      simp [this]
    refine ld1_blk (H6.blk _ hmem6).2 (v := I (a.w : Int)) (get_left (by have := acells_get ha (j := 0) (by omega); simpa [acell] using this)) ?_
    refine ld_h H6 0 rfl rfl ?_
    have hrd := (hup.rdL (w0 := w0) (L := ⟨b, 125, rlc M su sus sp sa⟩ :: (cs5 ++ (co ++ (Db ++ G)))) (fun c hc => by simp [h1 c hc])).rd H6
    refine ix1_rd (v := .bool M.up[a.w]) hrd (by simp [haw]) ?_
    have fin : ∀ {x : Int}, x = (outAck M.up ws a).1 → F54_j29 R (F54_l3 R (d + 1)) (ptr b 0) x1 sw x8 s (I (i : Int)) s5 (I x) w5 := by
      intro x hx
      unfold F54_j29
      rw [bldO2 (sl_cells h5)]
      simp only [WKt, mem, drewV]
      have H7 : Hp w0 w5 (cs5 ++ (co ++ (Db ++ (⟨b, 125, rlc M su sus sp sa⟩ :: G)))) := H6.to (by intro f; simp only [I, U8, U64, ptr, List.set_cons_zero, List.set_cons_succ, List.eraseIdx_cons_zero, List.eraseIdx_cons_succ, List.map_append, List.map_cons, List.map_nil, List.sum_append, List.sum_cons, List.sum_nil]; omega)
      refine rout_app (x := x) (ys := encR 2 false a.m a.f []) hP h5 (by simp; omega) H7 fun w7 s7 co7 hP7 H7 => ?_
      unfold F54_j27
      try simp only [WKt, mem, drewV]
      rw [wrap64_id (by omega) (by omega), show (i : Int) + 1 = ((i + 1 : Nat) : Int) from by omega]
      refine ih (i + 1) w7 s7 co7 (cs5 ++ Db) (sv ++ [s5]) (by omega) ?_ H7
      have : (M.acks.take (i + 1)).map (outAck M.up ws) = (M.acks.take i).map (outAck M.up ws) ++ [(x, encR 2 false a.m a.f [])] := by
        rw [List.take_add_one, ha]; simp [hx, outAck]
      rw [this]; exact hP7
    cases hb : M.up[a.w] with
    | true =>
      simp only [WKt, mem, drewV]
      refine fin (x := (a.w : Int)) ?_
      unfold outAck; rw [if_pos (by simp [haw, hb])]
    | false =>
      simp only [WKt, mem, drewV]
      have hrw := (hcw.rdL (w0 := w0) (L := ⟨b, 125, rlc M su sus sp sa⟩ :: (cs5 ++ (co ++ (Db ++ G)))) (fun c hc => by simp [h3 c hc])).rd H6
      have hw0 : (iv ws)[0]? = some (I (ws.headD 0)) := by
        cases ws with
        | nil => simp at hws
        | cons x r => rfl
      refine ix1_rd (j := 0) hrw hw0 ?_
      refine fin (x := ws.headD 0) ?_
      unfold outAck; rw [if_neg (by simp [haw, hb])]
theorem OutP.mono {t : Nat} {s : Value} {os : List OM} {co Db Db' : List Chunk} {sv : List Value} (h : OutP t w0 s os co Db sv) (hD : ∀ c ∈ Db, c ∈ Db') : OutP t w0 s os co Db' sv :=
  ⟨h.sl, h.svl, fun i o s h1 h2 => (h.dat i o s h1 h2).mono hD⟩
theorem rout_app2 {s s' : Value} {os : List OM} {co Db : List Chunk} {sv : List Value} {x : Int} {ys : List Int} {K : VK} {ty : Nat} {cc : Array Bool} (hP : OutP 145 w0 s os co Db sv) (hs' : RdL w0 Db 1 s' ys.length (bv ys)) (hlen : os.length < 2 ^ 30)
    (H : Hp w0 w (co ++ (Db ++ F))) (k : ∀ w' s2 co2, OutP 145 w0 s2 (os ++ [(x, ys)]) co2 Db (sv ++ [s']) → Hp w0 w' (co2 ++ (Db ++ F)) → K s2 w') :
    valV Pg R (Instr.buildSlice 127 1 ⟨[(0, .agg ⟨[I x, s']⟩)]⟩) (fun v => blt Pg R .append ⟨[127, 127]⟩ ty cc ⟨[s, v]⟩ K) w := by
  refine lit1_h (v := .agg ⟨[I x, s']⟩) elT127 H rfl (by omega) fun w1 nb H1 => ?_
  have H1' : Hp w0 w1 (⟨nb, 145, [I x, s']⟩ :: (co ++ (Db ++ F))) := H1
  have H2 : Hp w0 w1 (co ++ (⟨nb, 145, [I x, s']⟩ :: (Db ++ F))) := H1'.to (by intro f; simp only [I, U8, U64, ptr, List.set_cons_zero, List.set_cons_succ, List.eraseIdx_cons_zero, List.eraseIdx_cons_succ, List.map_append, List.map_cons, List.map_nil, List.sum_append, List.sum_cons, List.sum_nil]; omega)
  refine append_h elT127 H2 hP.sl (m := 1) (ys := [I x, s']) (.inr ⟨nb, 0, 1, 145, [I x, s'], rfl, by omega, by simp, by simp, rfl⟩)
    (by intro c hc; simp at hc; rcases hc with rfl | rfl <;> first | rfl | exact (rd_cells hs').2) (by omega) (by omega) fun w3 s3 cs3 H3 h3 => ?_
  refine k w3 s3 cs3 ⟨?_, by simp [hP.svl], ?_⟩ (H3.to (by intro f; simp only [I, U8, U64, ptr, List.set_cons_zero, List.set_cons_succ, List.eraseIdx_cons_zero, List.eraseIdx_cons_succ, List.map_append, List.map_cons, List.map_nil, List.sum_append, List.sum_cons, List.sum_nil]; omega))
  · rw [ocells_append hP.svl]
    have e : ocells [(x, ys)] [s'] = [I x, s'] := by simp [ocells, ocell]
    rw [e, List.length_append]; exact h3
  · intro i o v ho hv
    by_cases hi : i < os.length
    · rw [List.getElem?_append_left hi] at ho
      rw [List.getElem?_append_left (by rw [hP.svl]; exact hi)] at hv
      exact hP.dat i o v ho hv
    · rw [List.getElem?_append_right (by omega)] at ho
      rw [List.getElem?_append_right (by rw [hP.svl]; omega), hP.svl] at hv
      have hi0 : i - os.length = 0 := by
        have := (List.getElem?_eq_some_iff.1 ho).1
        simp at this; omega
      rw [hi0] at ho hv
      simp only [List.getElem?_cons_zero, Option.some.injEq] at ho hv
      subst ho; subst hv
      exact hs'
/-- One unit over all wires. -/
theorem rout_all {x0 x1 sw x8 x14 s5 : Value} {u : UM} {ws : List Int} {cw Db : List Chunk} {G : List Chunk} {os0 : List OM}
    {k1 : V6} (hcw : Sl 3 1 sw ws.length (iv ws) cw) (h3 : ∀ c ∈ cw, c ∈ G) (h5 : RdL w0 Db 1 s5 (encR 1 u.last u.m u.f u.d).length (bv (encR 1 u.last u.m u.f u.d))) (hwl : ws.length < 2 ^ 29) (hos : os0.length < 2 ^ 29)
    (hq : ∀ w' s co sv2, OutP 145 w0 s (os0 ++ outWs u ws) co Db sv2 → Hp w0 w' (co ++ (Db ++ G)) → F54_j10 R k1 x0 x1 sw x8 s x14 w') :
    ∀ (d j : Nat) (w : World) (s : Value) (co : List Chunk) (sv2 : List Value), j + d = ws.length → OutP 145 w0 s (os0 ++ outWs u (ws.take j)) co Db sv2 → Hp w0 w (co ++ (Db ++ G)) →
      F54_l1 R k1 (d + 1) x0 x1 sw x8 s x14 s5 (I (j : Int)) w := by
  intro d
  induction d with
  | zero =>
    intro j w s co sv2 hj hP H
    rw [F54_l1_succ]
    unfold F54_b2
    simp only [lenS_sl hcw, WKt, mem, drewV, show decide ((j : Int) < (ws.length : Int)) = false from decide_eq_false (by omega)]
    rw [List.take_of_length_le (by omega)] at hP
    exact hq w s co sv2 hP H
  | succ d ih =>
    intro j w s co sv2 hj hP H
    rw [F54_l1_succ]
    unfold F54_b2 F54_j22
    have hlt : j < ws.length := by omega
    simp only [lenS_sl hcw, WKt, mem, drewV, show decide ((j : Int) < (ws.length : Int)) = true from decide_eq_true (by omega)]
    have hrd := (hcw.rdL (w0 := w0) (L := co ++ (Db ++ G)) (fun c hc => by simp [h3 c hc])).rd H
    refine ix1_rd (v := I ws[j]) hrd (by simp [iv, hlt]) ?_
    rw [bldO2 (rd_cells h5).1]
    try simp only [WKt, mem, drewV]
    refine rout_app2 (x := ws[j]) (ys := encR 1 u.last u.m u.f u.d) hP h5 (by simp [outWs]; omega) H fun w7 s7 co7 hP7 H7 => ?_
    try simp only [WKt, mem, drewV]
    rw [wrap64_id (by omega) (by omega), show (j : Int) + 1 = ((j + 1 : Nat) : Int) from by omega]
    refine ih (j + 1) w7 s7 co7 (sv2 ++ [s5]) (by omega) ?_ H7
    have : os0 ++ outWs u (ws.take (j + 1)) = os0 ++ outWs u (ws.take j) ++ [(ws[j], encR 1 u.last u.m u.f u.d)] := by
      unfold outWs; rw [List.take_add_one, getElem_of_lt hlt, List.map_append, List.append_assoc]; rfl
    rw [this]; exact hP7
/-- The units of the window. -/
theorem rout_units {b bu cap N : Nat} {now : Int} {M0 : LM} {su sp sa sw : Value} {cw D G : List Chunk} {sv rest : List Value} {ws : List Int} {again : Bool}
    (hsu : Sl 3 1 sw ws.length (iv ws) cw) (hcw : ∀ c ∈ cw, c ∈ G) (hD : ∀ c ∈ D, c ∈ G) (hws : 0 < ws.length) (hws8 : ws.length < 2 ^ 10) (hN : N < 2 ^ 40) (hsvl : sv.length = N) (hqq : M0.quality = 0 ∨ M0.quality = 1 ∨ M0.quality = 2) :
    ∀ (d i : Nat) (w : World) (pre post : List UM) (t : Int) (os : List OM) (s : Value) (co Db : List Chunk) (sv2 : List Value), i + d = 8 → pre.length = i → (pre ++ post).length = N → 0 ≤ t → t < 1125899906842624 + (i : Int) → os.length + d * 4096 < 268435456 →
      (∀ (i : Nat) (u : UM) (s : Value), (pre ++ post)[i]? = some u → sv[i]? = some s → RdL w0 D 1 s u.d.length (bv u.d) ∧ s.cells = #[s] ∧ scalar s = true) →
      OutP 145 w0 s os co Db sv2 → Hp w0 w (co ++ (Db ++ (⟨b, 125, rlc { M0 with us := pre ++ post, turn := t } su (.slice (some ⟨bu, 0, none⟩) N cap) sp sa⟩ :: ⟨bu, 141, ucells (pre ++ post) sv ++ rest⟩ :: G))) →
      (∀ w' s' co' Db' sv2', OutP 145 w0 s' (os ++ (outUs again now M0.quality ws d t post).1) co' Db' sv2' →
        (∀ (i : Nat) (u : UM) (s : Value), (pre ++ (outUs again now M0.quality ws d t post).2.1)[i]? = some u → sv[i]? = some s → RdL w0 D 1 s u.d.length (bv u.d) ∧ s.cells = #[s] ∧ scalar s = true) → (pre ++ (outUs again now M0.quality ws d t post).2.1).length = N →
        Hp w0 w' (co' ++ (Db' ++ (⟨b, 125, rlc { M0 with us := pre ++ (outUs again now M0.quality ws d t post).2.1, turn := (outUs again now M0.quality ws d t post).2.2 } su (.slice (some ⟨bu, 0, none⟩) N cap) sp sa⟩ :: ⟨bu, 141, ucells (pre ++ (outUs again now M0.quality ws d t post).2.1) sv ++ rest⟩ :: G))) →
        R (.returned (.tuple ⟨[s', I 0]⟩)) w') →
      F54_l2 R (d + 1) (ptr b 0) (I now) sw (.bool again) s (I (i : Int)) w := by
  intro d
  induction d with
  | zero =>
    intro i w pre post t os s co Db sv2 hi hpre hlen ht0 ht hos hdat hP H hq
    rw [F54_l2_succ]
    unfold F54_b1
    have H1 : Hp w0 w (⟨b, 125, rlc { M0 with us := pre ++ post, turn := t } su (.slice (some ⟨bu, 0, none⟩) N cap) sp sa⟩ :: ⟨bu, 141, ucells (pre ++ post) sv ++ rest⟩ :: (co ++ (Db ++ G))) := H.to (by intro f; simp only [I, U8, U64, ptr, List.set_cons_zero, List.set_cons_succ, List.eraseIdx_cons_zero, List.eraseIdx_cons_succ, List.map_append, List.map_cons, List.map_nil, List.sum_append, List.sum_cons, List.sum_nil]; omega)
    have e : outUs again now M0.quality ws 0 t post = ([], post, t) := by unfold outUs; rfl
    rw [e] at hq
    have fin : F54_j6 R s w := by
      unfold F54_j6
      exact hq w s co Db sv2 (by simpa using hP) hdat hlen H
    simp only [WKt, mem, drewV]
    refine ld_h H1 0 rfl rfl ?_
    simp only [WKt, mem, drewV]
    by_cases hlt : (i : Int) < (N : Int)
    · simp only [decide_eq_true hlt, decide_eq_false (show ¬ ((i : Int) < 8) from by omega), WKt, mem, drewV]
      exact fin
    · simp only [decide_eq_false hlt, WKt, mem, drewV]
      exact fin
  | succ d ih =>
    intro i w pre post t os s co Db sv2 hi hpre hlen ht0 ht hos hdat hP H hq
    rw [F54_l2_succ]
    unfold F54_b1
    have H1 : Hp w0 w (⟨b, 125, rlc { M0 with us := pre ++ post, turn := t } su (.slice (some ⟨bu, 0, none⟩) N cap) sp sa⟩ :: ⟨bu, 141, ucells (pre ++ post) sv ++ rest⟩ :: (co ++ (Db ++ G))) := H.to (by intro f; simp only [I, U8, U64, ptr, List.set_cons_zero, List.set_cons_succ, List.eraseIdx_cons_zero, List.eraseIdx_cons_succ, List.map_append, List.map_cons, List.map_nil, List.sum_append, List.sum_cons, List.sum_nil]; omega)
    simp only [WKt, mem, drewV]
    refine ld_h H1 0 rfl rfl ?_
    simp only [WKt, mem, drewV]
    cases post with
    | nil =>
      have hNi : N = i := by rw [← hlen, List.append_nil, hpre]
      have e : outUs again now M0.quality ws (d + 1) t [] = ([], [], t) := by unfold outUs; rfl
      rw [e] at hq
      simp only [decide_eq_false (show ¬ ((i : Int) < (N : Int)) from by omega), WKt, mem, drewV]
      unfold F54_j6
      exact hq w s co Db sv2 (by simpa using hP) hdat hlen H
    | cons u r =>
      have hlt : i < N := by rw [← hlen]; simp; omega
      simp only [decide_eq_true (show (i : Int) < (N : Int) from by omega), decide_eq_true (show (i : Int) < 8 from by omega), WKt, mem, drewV]
      have hu : (pre ++ u :: r)[i]? = some u := by rw [List.getElem?_append_right (by omega), hpre, Nat.sub_self]; rfl
      obtain ⟨s1, hs1⟩ : ∃ s, sv[i]? = some s := ⟨_, List.getElem?_eq_getElem (by omega)⟩
      have hsv' : sv.length = (pre ++ u :: r).length := by rw [hsvl, hlen]
      have hulen := ucells_len hsv'
      have hcat : (ucells (pre ++ u :: r) sv ++ rest)[i * 6 + 5]? = some (I u.at_) := get_left (by have := ucells_get hu hs1 (j := 5) (by omega); simpa [ucell] using this)
      have eix : ixS 6 (.slice (some ⟨bu, 0, none⟩) N cap) (.int .i64 (i : Int)) = some (ptr bu (i * 6)) := by have := ixS_mk (sz := 6) (b := bu) (o := 0) (c := cap) (n := N) (j := i) (k := .i64) hlt; simpa using this
      have next : ∀ {w : World} {s : Value} (h : F54_l2 R (d + 1) (ptr b 0) (I now) sw (.bool again) s (I ((i + 1 : Nat) : Int)) w), F54_j10 R (F54_l2 R (d + 1)) (ptr b 0) (I now) sw (.bool again) s (I (i : Int)) w := by
        intro w s h
        unfold F54_j10
        simp only [WKt, mem, drewV]
        rw [wrap64_id (by omega) (by omega), show (i : Int) + 1 = ((i + 1 : Nat) : Int) from by omega]
        exact h
      have e1 : ∀ (u : UM) (l : List UM), pre ++ [u] ++ l = pre ++ u :: l := fun u l => by rw [List.append_assoc]; rfl
      have skip : again = false → 0 ≤ u.at_ → F54_j10 R (F54_l2 R (d + 1)) (ptr b 0) (I now) sw (.bool again) s (I (i : Int)) w := by
        intro ha hat
        have e : outUs again now M0.quality ws (d + 1) t (u :: r) = ((outUs again now M0.quality ws d t r).1, u :: (outUs again now M0.quality ws d t r).2.1, (outUs again now M0.quality ws d t r).2.2) := by
          rw [outUs, if_pos (by simp [ha, hat])]
        refine next ?_
        refine ih (i + 1) w (pre ++ [u]) r t os s co Db sv2 (by omega) (by rw [List.length_append, hpre]; rfl) (by rw [e1]; exact hlen) ht0 (by omega) (Nat.lt_of_le_of_lt (Nat.add_le_add_left (Nat.mul_le_mul_right _ (Nat.le_succ d)) _) hos) (by rw [e1]; exact hdat) hP (by rw [e1]; exact H) ?_
        intro w' s' co' Db' sv2' g1 g2 g3 g4
        rw [e1] at g2 g3 g4
        rw [e] at hq
        exact hq w' s' co' Db' sv2' g1 g2 g3 g4
      have send : ¬ (again = false ∧ 0 ≤ u.at_) → F54_j12 R (F54_l2 R (d + 1)) (ptr b 0) (I now) sw (.bool again) s (I (i : Int)) w := by
        intro hns
        have e : outUs again now M0.quality ws (d + 1) t (u :: r) = (outWs u (overI M0.quality t ws) ++ (outUs again now M0.quality ws d (overT M0.quality t) r).1, { u with at_ := now } :: (outUs again now M0.quality ws d (overT M0.quality t) r).2.1, (outUs again now M0.quality ws d (overT M0.quality t) r).2.2) := by
          rw [outUs, if_neg]
          intro h; apply hns; simpa using h
        unfold F54_j12
        simp only [WKt, mem, drewV]
        refine ld_h H1 0 rfl rfl ?_
        simp only [eix, WKt, mem, drewV]
        have hcell : ((ucells (pre ++ u :: r) sv ++ rest).drop (i * 6)).take 5 = frm 1 u.last u.m u.f s1 := by
          apply List.ext_getElem?
          intro m
          rw [List.getElem?_take]
          by_cases hm : m < 5
          · rw [if_pos hm, List.getElem?_drop, List.getElem?_append_left (by rw [hulen]; omega), ucells_get hu hs1 (by omega)]
            have : m = 0 ∨ m = 1 ∨ m = 2 ∨ m = 3 ∨ m = 4 := by omega
            rcases this with rfl | rfl | rfl | rfl | rfl <;> rfl
          · rw [if_neg hm, List.getElem?_eq_none (by simp [frm]; omega)]
        refine ldN_h H1 1 rfl (by rw [List.length_append, hulen]; omega) ?_
        rw [hcell]
        have hsd := (hdat i u s1 hu hs1).1
        refine renc_call (d := u.d) (k := 1) (last := u.last) (m := u.m) (f := u.f) (s := s1) (hsd.mono (fun c hc => by simp [hD c hc])) H1 fun w5 s5 cs5 er H5 h5 => ?_
        simp only [WKt, mem, drewV]
        have H6 : Hp w0 w5 (⟨b, 125, rlc { M0 with us := pre ++ u :: r, turn := t } su (.slice (some ⟨bu, 0, none⟩) N cap) sp sa⟩ :: ⟨bu, 141, ucells (pre ++ u :: r) sv ++ rest⟩ :: (cs5 ++ (co ++ (Db ++ G)))) := H5.to (by intro f; simp only [I, U8, U64, ptr, List.set_cons_zero, List.set_cons_succ, List.eraseIdx_cons_zero, List.eraseIdx_cons_succ, List.map_append, List.map_cons, List.map_nil, List.sum_append, List.sum_cons, List.sum_nil]; omega)
        refine ld_h H6 0 rfl rfl ?_
        simp only [eix, WKt, mem, drewV]
        refine st_h H6 1 rfl (by rw [List.length_append, hulen]; omega) rfl fun w7 H7 => ?_
        have eset : (ucells (pre ++ u :: r) sv ++ rest).set (i * 6 + 5) (I now) = ucells (pre ++ { u with at_ := now } :: r) sv ++ rest := by
          rw [set_left (by rw [hulen]; omega), ucells_at hu hs1]
          congr 2
          rw [List.set_append_right _ _ (by omega), hpre, Nat.sub_self]; rfl
        have H8 : Hp w0 w7 (⟨b, 125, rlc { M0 with us := pre ++ { u with at_ := now } :: r, turn := t } su (.slice (some ⟨bu, 0, none⟩) N cap) sp sa⟩ :: ⟨bu, 141, ucells (pre ++ { u with at_ := now } :: r) sv ++ rest⟩ :: (cs5 ++ (co ++ (Db ++ G)))) := by
          rw [← eset]; exact H7
        have hu' : (pre ++ { u with at_ := now } :: r)[i]? = some { u with at_ := now } := by rw [List.getElem?_append_right (by omega), hpre, Nat.sub_self]; rfl
        have hdat' : ∀ (i' : Nat) (u' : UM) (s : Value), (pre ++ { u with at_ := now } :: r)[i']? = some u' → sv[i']? = some s → RdL w0 D 1 s u'.d.length (bv u'.d) ∧ s.cells = #[s] ∧ scalar s = true := by
          intro i' u' s' h1 h2
          by_cases hii : i' = i
          · subst hii
            rw [hu'] at h1; injection h1 with h1; subst h1
            exact hdat i' u s' hu h2
          · refine hdat i' u' s' ?_ h2
            rw [← h1]
            by_cases hl : i' < pre.length
            · rw [List.getElem?_append_left hl, List.getElem?_append_left hl]
            · rw [List.getElem?_append_right (by omega), List.getElem?_append_right (by omega)]
              obtain ⟨m, hm⟩ : ∃ m, i' - pre.length = m + 1 := ⟨i' - pre.length - 1, by omega⟩
              rw [hm]; rfl
        have hol := overI_len M0.quality t ws
        have e2 : ∀ l : List UM, pre ++ [{ u with at_ := now }] ++ l = pre ++ { u with at_ := now } :: l := fun l => by rw [List.append_assoc]; rfl
        have fin : ∀ {w : World} {s : Value} {co : List Chunk} {Db : List Chunk} {sv2 : List Value}, OutP 145 w0 s (os ++ outWs u (overI M0.quality t ws)) co Db sv2 →
            Hp w0 w (co ++ (Db ++ (⟨b, 125, rlc { M0 with us := pre ++ { u with at_ := now } :: r, turn := overT M0.quality t } su (.slice (some ⟨bu, 0, none⟩) N cap) sp sa⟩ :: ⟨bu, 141, ucells (pre ++ { u with at_ := now } :: r) sv ++ rest⟩ :: G))) →
            F54_j10 R (F54_l2 R (d + 1)) (ptr b 0) (I now) sw (.bool again) s (I (i : Int)) w := by
          intro w s co Db sv2 hP H
          refine next ?_
          refine ih (i + 1) w (pre ++ [{ u with at_ := now }]) r (overT M0.quality t) (os ++ outWs u (overI M0.quality t ws)) s co Db sv2 (by omega) (by rw [List.length_append, hpre]; rfl) (by rw [e2, ← hlen]; simp) ?_ ?_ (by simp [outWs]; omega) (by rw [e2]; exact hdat') hP (by rw [e2]; exact H) ?_
          · unfold overT; split
            · exact ht0
            · split <;> omega
          · unfold overT; split
            · omega
            · split <;> omega
          intro w' s' co' Db' sv2' g1 g2 g3 g4
          rw [e2] at g2 g3 g4
          rw [e] at hq
          exact hq w' s' co' Db' sv2' (by rw [← List.append_assoc]; exact g1) g2 g3 g4
        have H8' : Hp w0 w7 (cs5 ++ (co ++ (Db ++ (⟨b, 125, rlc { M0 with us := pre ++ { u with at_ := now } :: r, turn := t } su (.slice (some ⟨bu, 0, none⟩) N cap) sp sa⟩ :: ⟨bu, 141, ucells (pre ++ { u with at_ := now } :: r) sv ++ rest⟩ :: G)))) := H8.to (by intro f; simp only [I, U8, U64, ptr, List.set_cons_zero, List.set_cons_succ, List.eraseIdx_cons_zero, List.eraseIdx_cons_succ, List.map_append, List.map_cons, List.map_nil, List.sum_append, List.sum_cons, List.sum_nil]; omega)
        refine ld_h H8 0 rfl rfl ?_
        have hrw := (hsu.rdL (w0 := w0) (L := ⟨b, 125, rlc { M0 with us := pre ++ { u with at_ := now } :: r, turn := t } su (.slice (some ⟨bu, 0, none⟩) N cap) sp sa⟩ :: ⟨bu, 141, ucells (pre ++ { u with at_ := now } :: r) sv ++ rest⟩ :: (cs5 ++ (co ++ (Db ++ G)))) (fun c hc => by simp [hcw c hc])).rd H8
        have one : ∀ x : Int, outWs u [x] = [(x, encR 1 u.last u.m u.f u.d)] := fun x => rfl
        unfold F54_j13
        rcases hqq with q0 | q0 | q0
        · have eo : overI M0.quality t ws = [ws.headD 0] := by
            unfold overI; rw [if_pos q0]
            cases ws with
            | nil => simp at hws
            | cons x r => rfl
          have et : overT M0.quality t = t := by unfold overT; rw [if_pos q0]
          rw [eo, et] at fin
          simp only [q0, WKt, mem, drewV]
          try simp only [decide_true]
          unfold F54_j14
          simp only [WKt, mem, drewV]
          have hw0 : (iv ws)[0]? = some (I (ws.headD 0)) := by
            cases ws with
            | nil => simp at hws
            | cons x r => rfl
          refine ix1_rd (j := 0) hrw hw0 ?_
          rw [bldO2 (sl_cells h5)]
          try simp only [WKt, mem, drewV]
          refine rout_app (x := ws.headD 0) (ys := encR 1 u.last u.m u.f u.d) hP h5 (by omega) H8' fun w9 s9 co9 hP9 H9 => ?_
          exact fin hP9 H9
        · have hm : (t.toNat % ws.length) < ws.length := Nat.mod_lt _ hws
          have etm : t.tmod (ws.length : Int) = ((t.toNat % ws.length : Nat) : Int) := by
            obtain ⟨k, rfl⟩ : ∃ k : Nat, t = k := ⟨t.toNat, by omega⟩
            rfl
          have eo : overI M0.quality t ws = [ws[t.toNat % ws.length]] := by
            unfold overI; rw [if_neg (by omega), if_pos q0, etm, Int.toNat_natCast, List.drop_eq_getElem_cons hm]; rfl
          have et : overT M0.quality t = t + 1 := by unfold overT; rw [if_neg (by omega), if_pos q0]
          rw [eo, et] at fin
          simp only [q0, WKt, mem, drewV]
          simp only [show decide ((1 : Int) = 0) = false from rfl]
          unfold F54_j14
          simp only [WKt, mem, drewV]
          unfold F54_j15
          simp only [WKt, mem, drewV]
          try simp only [decide_true]
          unfold F54_j16
          simp only [WKt, mem, drewV]
          unfold F54_j17
          simp only [WKt, mem, drewV]
          refine ld_h H8 0 rfl rfl ?_
          rw [lenS_sl hsu]
          simp only [WKt, mem, drewV]
          rw [bin_rem (by omega), etm]
          simp only [WKt, mem, drewV]
          refine ix1_rd (j := t.toNat % ws.length) (v := I ws[t.toNat % ws.length]) hrw (by simp [iv, hm]) ?_
          rw [bldO2 (sl_cells h5)]
          try simp only [WKt, mem, drewV]
          refine rout_app (x := ws[t.toNat % ws.length]) (ys := encR 1 u.last u.m u.f u.d) hP h5 (by omega) H8' fun w9 s9 co9 hP9 H9 => ?_
          have H10 : Hp w0 w9 (⟨b, 125, rlc { M0 with us := pre ++ { u with at_ := now } :: r, turn := t } su (.slice (some ⟨bu, 0, none⟩) N cap) sp sa⟩ :: (co9 ++ ((cs5 ++ Db) ++ (⟨bu, 141, ucells (pre ++ { u with at_ := now } :: r) sv ++ rest⟩ :: G)))) := H9.to (by intro f; simp only [I, U8, U64, ptr, List.set_cons_zero, List.set_cons_succ, List.eraseIdx_cons_zero, List.eraseIdx_cons_succ, List.map_append, List.map_cons, List.map_nil, List.sum_append, List.sum_cons, List.sum_nil]; omega)
          refine ld_h H10 0 rfl rfl ?_
          simp only [WKt, mem, drewV]
          rw [wrap64_id (by omega) (by omega)]
          refine st_h H10 0 rfl (by simp [rlc]) rfl fun w11 H11 => ?_
          have H12 : Hp w0 w11 (⟨b, 125, rlc { M0 with us := pre ++ { u with at_ := now } :: r, turn := t + 1 } su (.slice (some ⟨bu, 0, none⟩) N cap) sp sa⟩ :: (co9 ++ ((cs5 ++ Db) ++ (⟨bu, 141, ucells (pre ++ { u with at_ := now } :: r) sv ++ rest⟩ :: G)))) := H11
          exact fin hP9 (H12.to (by intro f; simp only [I, U8, U64, ptr, List.set_cons_zero, List.set_cons_succ, List.eraseIdx_cons_zero, List.eraseIdx_cons_succ, List.map_append, List.map_cons, List.map_nil, List.sum_append, List.sum_cons, List.sum_nil]; omega))
        · have eo : overI M0.quality t ws = ws := by unfold overI; rw [if_neg (by omega), if_neg (by omega)]
          have et : overT M0.quality t = t := by unfold overT; rw [if_neg (by omega), if_neg (by omega)]
          rw [eo, et] at fin
          rw [eo] at hol
          simp only [q0, WKt, mem, drewV]
          simp only [show decide ((2 : Int) = 0) = false from rfl]
          unfold F54_j14
          simp only [WKt, mem, drewV]
          unfold F54_j15
          simp only [WKt, mem, drewV]
          simp only [show decide ((2 : Int) = 1) = false from rfl]
          unfold F54_j16
          simp only [WKt, mem, drewV]
          unfold F54_j18
          simp only [WKt, mem, drewV]
          try simp only [decide_true]
          unfold F54_j19
          simp only [WKt, mem, drewV]
          unfold F54_j20 F54_j21
          refine ⟨ws.length + 1, ?_⟩
          refine rout_all (u := u) (ws := ws) (cw := cw) (Db := cs5 ++ Db) (os0 := os) (G := ⟨b, 125, rlc { M0 with us := pre ++ { u with at_ := now } :: r, turn := t } su (.slice (some ⟨bu, 0, none⟩) N cap) sp sa⟩ :: ⟨bu, 141, ucells (pre ++ { u with at_ := now } :: r) sv ++ rest⟩ :: G) hsu (fun c hc => by simp [hcw c hc]) (h5.rdL (fun c hc => by simp [hc])) (by omega) (by omega) (fun w' s co sv2 g1 g2 => fin g1 g2) ws.length 0 w7 s co sv2 (by omega) ?_ (H8.to (by intro f; simp only [I, U8, U64, ptr, List.set_cons_zero, List.set_cons_succ, List.eraseIdx_cons_zero, List.eraseIdx_cons_succ, List.map_append, List.map_cons, List.map_nil, List.sum_append, List.sum_cons, List.sum_nil]; omega))
          rw [show outWs u (ws.take 0) = [] from rfl, List.append_nil]
          exact hP.mono (fun c hc => by simp [hc])
      unfold F54_j9 F54_j11 F54_j23
      cases ha : again with
      | true =>
        rw [ha] at send
        simp only [WKt, mem, drewV]
        exact send (by simp)
      | false =>
        rw [ha] at send skip
        simp only [WKt, mem, drewV]
        refine ld_h H1 0 rfl rfl ?_
        simp only [eix, WKt, mem, drewV]
        refine ld_h H1 1 rfl hcat ?_
        simp only [WKt, mem, drewV]
        refine cnd_decide (fun h => skip rfl h) (fun h => send (fun h' => h h'.2))
end
end Go.Proofs.Ytmnpndgmfmjfhaa.Den
end

section
set_option linter.unusedVariables false
set_option linter.unusedSimpArgs false
set_option maxRecDepth 8000
namespace Go.Proofs.Ytmnpndgmfmjfhaa.Den
open Go Go.RowKit
section
variable {w w' : World} {w0 : Base} {F L : List Chunk} {R : ER}
/-- Behind the acknowledgments. -/
theorem rout_j4 {b : Nat} {M : LM} {now : Int} {again : Bool} {su sus sp sw s : Value} {cu cus cp ca D cw co Db : List Chunk} {sv sv2 : List Value} {ws : List Int} {os : List OM} (hlk : LkP 141 144 w0 M su sus sp (.slice none 0 0) cu cus cp [] D sv) (hwf : Wf M) (hqq : M.quality = 0 ∨ M.quality = 1 ∨ M.quality = 2)
    (hsu : Sl 3 1 sw ws.length (iv ws) cw) (hws : 0 < ws.length) (hws8 : ws.length ≤ 8) (hos : os.length < 134217728) (hP : OutP 145 w0 s os co Db sv2) (hrep : M.repeats ≤ 6)
    (H : Hp w0 w (co ++ (Db ++ (⟨b, 125, rlc M su sus sp (.slice none 0 0)⟩ :: (cus ++ (cu ++ (cp ++ (cw ++ (D ++ F)))))))))
    (hq : ∀ w' s' co' Db' sv2' cus' , OutP 145 w0 s' (os ++ (outUs again now M.quality ws 8 M.turn M.us).1) co' Db' sv2' →
      LkP 141 144 w0 { M with repeats := if again then M.repeats + 1 else M.repeats, us := (outUs again now M.quality ws 8 M.turn M.us).2.1, turn := (outUs again now M.quality ws 8 M.turn M.us).2.2 } su sus sp (.slice none 0 0) cu cus' cp [] D sv →
      Hp w0 w' (co' ++ (Db' ++ (⟨b, 125, rlc { M with repeats := if again then M.repeats + 1 else M.repeats, us := (outUs again now M.quality ws 8 M.turn M.us).2.1, turn := (outUs again now M.quality ws 8 M.turn M.us).2.2 } su sus sp (.slice none 0 0)⟩ :: (cus' ++ (cu ++ (cp ++ (cw ++ (D ++ F)))))))) →
      R (.returned (.tuple ⟨[s', I 0]⟩)) w') : F54_j4 R (ptr b 0) (I now) sw (.bool again) s w := by
  have hrw : IntKind.i64.wrap (M.repeats + 1) = M.repeats + 1 := wrap64_id (by have := hwf.rep; omega) (by omega)
  -- the loop
  have fin : ∀ {w : World} {M1 : LM}, M1 = { M with repeats := if again then M.repeats + 1 else M.repeats } → Hp w0 w (⟨b, 125, rlc M1 su sus sp (.slice none 0 0)⟩ :: (co ++ (Db ++ (cus ++ (cu ++ (cp ++ (cw ++ (D ++ F)))))))) → F54_j5 R (ptr b 0) (I now) sw (.bool again) s w := by
    intro w M1 hM1 H
    subst hM1
    unfold F54_j5 F54_j7 F54_j8
    by_cases hul : 0 < M.us.length
    · refine ⟨8 + 1, ?_⟩
      obtain ⟨bu, cap, rest, rfl, rfl, g1, g2, g3⟩ := hlk.us.chunk hul
      have hul2 := hwf.ul
      have H' : Hp w0 w (co ++ (Db ++ (⟨b, 125, rlc { M with repeats := if again then M.repeats + 1 else M.repeats } su (.slice (some ⟨bu, 0, none⟩) M.us.length cap) sp (.slice none 0 0)⟩ :: ⟨bu, 141, ucells M.us sv ++ rest⟩ :: (cu ++ (cp ++ (cw ++ (D ++ F))))))) := H.to (by intro f; simp only [I, U8, U64, ptr, List.set_cons_zero, List.set_cons_succ, List.eraseIdx_cons_zero, List.eraseIdx_cons_succ, List.map_append, List.map_cons, List.map_nil, List.sum_append, List.sum_cons, List.sum_nil]; omega)
      refine rout_units (cw := cw) (b := b) (bu := bu) (cap := cap) (M0 := { M with repeats := if again then M.repeats + 1 else M.repeats }) (su := su) (sp := sp) (sa := .slice none 0 0) (D := D) (G := cu ++ (cp ++ (cw ++ (D ++ F)))) (sv := sv) (rest := rest) (N := M.us.length)
        hsu (fun c hc => by simp [hc]) (fun c hc => by simp [hc]) hws (by omega) (by omega) hlk.svl hqq 8 0 w [] M.us M.turn os s co Db sv2 (by omega) rfl rfl hwf.turn.1 (by have := hwf.turn.2; omega) (by omega) hlk.dat hP H' ?_
      intro w' s' co' Db' sv2' h1 h2 h3 h4
      simp only [List.nil_append] at h1 h2 h3 h4
      refine hq w' s' co' Db' sv2' [⟨bu, 141, ucells (outUs again now M.quality ws 8 M.turn M.us).2.1 sv ++ rest⟩] h1 ⟨hlk.up, ?_, by rw [h3, hlk.svl], h2, hlk.part, hlk.acks⟩ h4
      refine .inr ⟨bu, cap, rest, rfl, ?_, ?_, ?_, ?_⟩
      · show Value.slice _ _ _ = Value.slice _ (outUs again now M.quality ws 8 M.turn M.us).2.1.length _
        rw [h3]
      · show (ucells (outUs again now M.quality ws 8 M.turn M.us).2.1 sv).length = _
        rw [ucells_len (by rw [hlk.svl]; exact h3.symm)]
      · show (outUs again now M.quality ws 8 M.turn M.us).2.1.length ≤ cap; rw [h3]; exact g2
      · show rest.length = (cap - (outUs again now M.quality ws 8 M.turn M.us).2.1.length) * 6; rw [h3]; exact g3
    · have hM : M.us = [] := List.length_eq_zero_iff.1 (by omega)
      refine ⟨0 + 1, ?_⟩
      show F54_l2 R (0 + 1) _ _ _ _ _ _ w
      rw [F54_l2_succ]
      unfold F54_b1
      simp only [WKt, mem, drewV]
      refine ld_h H 0 rfl rfl ?_
      rw [lenS_sl hlk.us, hM]
      simp only [List.length_nil, WKt, mem, drewV, show decide ((0 : Int) < ((0 : Nat) : Int)) = false from rfl]
      unfold F54_j6
      have e : outUs again now M.quality ws 8 M.turn M.us = ([], [], M.turn) := by rw [hM]; rfl
      rw [e] at hq
      refine hq w s co Db sv2 cus (by simpa using hP) ⟨hlk.up, ?_, ?_, ?_, hlk.part, hlk.acks⟩ ?_
      · have := hlk.us; rw [hM] at this; exact this
      · have := hlk.svl; rw [hM] at this; exact this
      · intro i u s h; simp at h
      · have hc : rlc { M with repeats := if again then M.repeats + 1 else M.repeats, us := [], turn := M.turn } su sus sp (.slice none 0 0) = rlc { M with repeats := if again then M.repeats + 1 else M.repeats } su sus sp (.slice none 0 0) := rfl
        rw [hc]
        exact H.to (by intro f; simp only [I, U8, U64, ptr, List.set_cons_zero, List.set_cons_succ, List.eraseIdx_cons_zero, List.eraseIdx_cons_succ, List.map_append, List.map_cons, List.map_nil, List.sum_append, List.sum_cons, List.sum_nil]; omega)
  unfold F54_j4
  have H1 : Hp w0 w (⟨b, 125, rlc M su sus sp (.slice none 0 0)⟩ :: (co ++ (Db ++ (cus ++ (cu ++ (cp ++ (cw ++ (D ++ F)))))))) := H.to (by intro f; simp only [I, U8, U64, ptr, List.set_cons_zero, List.set_cons_succ, List.eraseIdx_cons_zero, List.eraseIdx_cons_succ, List.map_append, List.map_cons, List.map_nil, List.sum_append, List.sum_cons, List.sum_nil]; omega)
  cases ha : again with
  | true =>
    rw [ha] at fin
    simp only [WKt, mem, drewV]
    refine ld_h H1 0 rfl rfl ?_
    simp only [WKt, mem, drewV]
    refine st_h H1 0 rfl (by simp [rlc]) rfl fun w2 H2 => ?_
    rw [hrw] at H2
    exact fin rfl H2
  | false =>
    rw [ha] at fin
    simp only [WKt, mem, drewV]
    exact fin rfl H1
set_option maxHeartbeats 800000 in
theorem rOutput_spec {b : Nat} {M : LM} {now : Int} (H : Hp w0 w (L ++ F)) (hL : rLk w0 b M L) (hwf : Wf M) (hqq : M.quality = 0 ∨ M.quality = 1 ∨ M.quality = 2) : Calls Pg 54 ⟨[ptr b 0, I now]⟩ w (OutPost w0 F rLk 145 b M now) := by
  obtain ⟨su, sus, sp, sa, cu, cus, cp, ca, D, sv, hlk, rfl⟩ := hL
  have H0 : Hp w0 w (⟨b, 125, rlc M su sus sp sa⟩ :: (cus ++ (cu ++ (cp ++ (ca ++ (D ++ F)))))) := H.to (by intro f; simp only [I, U8, U64, ptr, List.set_cons_zero, List.set_cons_succ, List.eraseIdx_cons_zero, List.eraseIdx_cons_succ, List.map_append, List.map_cons, List.map_nil, List.sum_append, List.sum_cons, List.sum_nil]; omega)
  apply F54_calls
  unfold F54
  refine cal_h (rtime_spec (now := now) H0) ?_
  rintro e w1 ⟨rfl, rfl⟩
  simp only [WKt, mem, drewV]
  refine cnd_decide (fun h => ?_) (fun h => ?_)
  · refine ⟨.slice none 0 0, [], [], [], _, ?_, H0.to (L' := [] ++ ([] ++ ((⟨b, 125, rlc M su sus sp sa⟩ :: (cu ++ (cus ++ (cp ++ (ca ++ D))))) ++ F))) (by intro f; simp only [I, U8, U64, ptr, List.set_cons_zero, List.set_cons_succ, List.eraseIdx_cons_zero, List.eraseIdx_cons_succ, List.map_append, List.map_cons, List.map_nil, List.sum_append, List.sum_cons, List.sum_nil]; omega), ?_, ?_⟩
    · unfold outE; rw [if_pos h]
    · have : outV M now = [] := by unfold outV; rw [if_pos]; unfold outE; rw [if_pos h]; exact h
      rw [this]; exact ⟨Sl.nil, rfl, fun i o s h => by simp at h⟩
    · unfold outM; rw [if_pos h]; exact ⟨_, _, _, _, _, _, _, _, _, _, hlk, rfl⟩
  have ht : timeE M now = 0 := by simpa using h
  have hnow : 0 ≤ now ∧ now ≤ 1099511627776 := by
    unfold timeE at ht
    by_cases hn : now < 0 ∨ 1099511627776 < now
    · rw [if_pos hn] at ht; exact absurd ht (by decide)
    · omega
  unfold F54_j1
  refine cal_h (rusable_spec (b := b) H0 hlk.up (fun c hc => by simp [hc]) (by have := hwf.up8; omega)) ?_
  rintro e w2 ⟨sw, cw, rfl, H2, hsw⟩
  have H3 : Hp w0 w2.drew (⟨b, 125, rlc M su sus sp sa⟩ :: (cw ++ (cus ++ (cu ++ (cp ++ (ca ++ (D ++ F))))))) := H2.drew.to (by intro f; simp only [I, U8, U64, ptr, List.set_cons_zero, List.set_cons_succ, List.eraseIdx_cons_zero, List.eraseIdx_cons_succ, List.map_append, List.map_cons, List.map_nil, List.sum_append, List.sum_cons, List.sum_nil]; omega)
  simp only [WKt, mem, drewV]
  have goal : F54_j30 (OutPost w0 F rLk 145 b M now) (ptr b 0) (I now) sw (.bool (againB M now)) w2.drew := by
    have hlen8 : (useI 0 M.up).length ≤ 8 := Nat.le_trans (useI_le _ _) hwf.up8
    -- the rest
    have go : ¬ (againB M now = true ∧ useI 0 M.up ≠ [] ∧ M.repeats = 6) → F54_j2 (OutPost w0 F rLk 145 b M now) (ptr b 0) (I now) sw (.bool (againB M now)) w2.drew := by
      intro hnb
      have hE : outE M now = 0 := by unfold outE; rw [if_neg h, if_neg hnb]
      unfold F54_j2
      simp only [WKt, mem, drewV]
      refine st_h H3 0 rfl (by simp [rlc]) rfl fun w3 H4 => ?_
      replace H4 : Hp w0 w3 (⟨b, 125, rlc { M with clock := now } su sus sp sa⟩ :: (cw ++ (cus ++ (cu ++ (cp ++ (ca ++ (D ++ F))))))) := H4
      refine lit0_h elT127 H4 fun w4 s0 H5 hs0 => ?_
      unfold F54_j24 F54_j25
      have j3 : ∀ {w : World} {s : Value} {co Db : List Chunk} {sv2 : List Value}, OutP 145 w0 s (if useI 0 M.up = [] then [] else M.acks.map (outAck M.up (useI 0 M.up))) co Db sv2 →
          Hp w0 w (co ++ (Db ++ (⟨b, 125, rlc { M with clock := now } su sus sp sa⟩ :: (cw ++ (cus ++ (cu ++ (cp ++ (ca ++ (D ++ F))))))))) → F54_j3 (OutPost w0 F rLk 145 b M now) (ptr b 0) (I now) sw (.bool (againB M now)) s w := by
        intro w s co Db sv2 hP H
        unfold F54_j3
        simp only [WKt, mem, drewV]
        have H' : Hp w0 w (⟨b, 125, rlc { M with clock := now } su sus sp sa⟩ :: (co ++ (Db ++ (cw ++ (cus ++ (cu ++ (cp ++ (ca ++ (D ++ F))))))))) := H.to (by intro f; simp only [I, U8, U64, ptr, List.set_cons_zero, List.set_cons_succ, List.eraseIdx_cons_zero, List.eraseIdx_cons_succ, List.map_append, List.map_cons, List.map_nil, List.sum_append, List.sum_cons, List.sum_nil]; omega)
        refine st_h H' 0 rfl (by simp [rlc]) rfl fun w4 H5 => ?_
        replace H5 : Hp w0 w4 (⟨b, 125, rlc { M with clock := now, acks := [] } su sus sp (.slice none 0 0)⟩ :: (co ++ (Db ++ (cw ++ (cus ++ (cu ++ (cp ++ (ca ++ (D ++ F))))))))) := H5
        simp only [lenS_sl hsw, WKt, mem, drewV]
        have hlk5 : LkP 141 144 w0 { M with clock := now, acks := [] } su sus sp (.slice none 0 0) cu cus cp [] D sv := ⟨hlk.up, hlk.us, hlk.svl, hlk.dat, hlk.part, Sl.nil⟩
        refine cnd_decide (fun h0 => ?_) (fun h0 => ?_)
        · have hws : useI 0 M.up = [] := List.length_eq_zero_iff.1 (by omega)
          rw [if_pos hws] at hP
          refine ⟨s, co, Db, sv2, ⟨b, 125, rlc { M with clock := now, acks := [] } su sus sp (.slice none 0 0)⟩ :: (cu ++ (cus ++ (cp ++ ([] ++ D)))), ?_, H5.to (by intro f; simp only [I, U8, U64, ptr, List.set_cons_zero, List.set_cons_succ, List.eraseIdx_cons_zero, List.eraseIdx_cons_succ, List.map_append, List.map_cons, List.map_nil, List.sum_append, List.sum_cons, List.sum_nil]; omega), ?_, ?_⟩
          · rw [hE]
          · have : outV M now = [] := by unfold outV; rw [if_neg (by rw [hE]; simp), if_pos hws]
            rw [this]; exact hP
          · have : outM M now = { M with clock := now, acks := [] } := by unfold outM; rw [if_neg h, if_neg hnb, if_pos hws]
            rw [this]; exact ⟨_, _, _, _, _, _, _, _, _, _, hlk5, rfl⟩
        · have hws : useI 0 M.up ≠ [] := fun hn => by rw [hn] at h0; simp at h0
          rw [if_neg hws] at hP
          have hw0 := iv_ne hws
          have hwf5 : Wf { M with clock := now, acks := [] } := { hwf with clock := hnow, aw := fun a ha => by simp at ha, al := by simp }
          refine rout_j4 (M := { M with clock := now, acks := [] }) (cus := cus) (cu := cu) (cp := cp) (ca := []) (D := D) (cw := cw) (F := ca ++ F) hlk5 hwf5 hqq hsw hw0 hlen8 (by have := hwf.al; simpa using this) hP hwf.rep.2 (H5.to (by intro f; simp only [I, U8, U64, ptr, List.set_cons_zero, List.set_cons_succ, List.eraseIdx_cons_zero, List.eraseIdx_cons_succ, List.map_append, List.map_cons, List.map_nil, List.sum_append, List.sum_cons, List.sum_nil]; omega)) ?_
          intro w6 s6 co6 Db6 sv6 cus6 hP6 hlk6 H7
          have eV : outV M now = M.acks.map (outAck M.up (useI 0 M.up)) ++ (outUs (againB M now) now M.quality (useI 0 M.up) 8 M.turn M.us).1 := by unfold outV; rw [if_neg (by rw [hE]; simp), if_neg hws]
          have eM : outM M now = { M with clock := now, acks := [], repeats := if againB M now then M.repeats + 1 else M.repeats, us := (outUs (againB M now) now M.quality (useI 0 M.up) 8 M.turn M.us).2.1, turn := (outUs (againB M now) now M.quality (useI 0 M.up) 8 M.turn M.us).2.2 } := by
            unfold outM; rw [if_neg h, if_neg hnb, if_neg hws]
          refine ⟨s6, co6, Db6, sv6, ⟨b, 125, rlc (outM M now) su sus sp (.slice none 0 0)⟩ :: (cu ++ (cus6 ++ (cp ++ ([] ++ D)))), by rw [hE], ?_, by rw [eV]; exact hP6, ?_⟩
          · rw [eM]; exact H7.to (by intro f; simp only [I, U8, U64, ptr, List.set_cons_zero, List.set_cons_succ, List.eraseIdx_cons_zero, List.eraseIdx_cons_succ, List.map_append, List.map_cons, List.map_nil, List.sum_append, List.sum_cons, List.sum_nil]; omega)
          · rw [eM]; exact ⟨_, _, _, _, _, _, _, _, _, _, hlk6, rfl⟩
      have P0 : OutP 145 w0 s0 ([] : List OM) [] [] [] := ⟨hs0, rfl, fun i o s h => by simp at h⟩
      by_cases hws : useI 0 M.up = []
      · rw [if_pos hws] at j3
        refine ⟨0 + 1, ?_⟩
        show F54_l3 _ (0 + 1) _ _ _ _ _ _ w4
        rw [F54_l3_succ]
        unfold F54_b3
        simp only [WKt, mem, drewV]
        refine ld_h H5 0 rfl rfl ?_
        simp only [lenS_sl hlk.acks, lenS_sl hsw, hws, WKt, mem, drewV]
        try simp only [List.length_nil, show decide ((0 : Int) < ((0 : Nat) : Int)) = false from rfl]
        by_cases ha0 : (0 : Int) < (M.acks.length : Int)
        · simp only [decide_eq_true ha0, lenS_sl hsw, hws, List.length_nil, WKt, mem, drewV]
          simp only [show decide ((0 : Int) < ((0 : Nat) : Int)) = false from rfl, WKt, mem, drewV]
          exact j3 P0 H5
        · simp only [decide_eq_false ha0, WKt, mem, drewV]
          exact j3 P0 H5
      · rw [if_neg hws] at j3
        have hw0 := iv_ne hws
        refine ⟨M.acks.length + 1, ?_⟩
        refine rout_acks (b := b) (M := { M with clock := now }) (su := su) (sus := sus) (sp := sp) (sa := sa) (cu := cu) (ca := ca) (cw := cw) (ws := useI 0 M.up) (G := cw ++ (cus ++ (cu ++ (cp ++ (ca ++ (D ++ F)))))) hlk.up hlk.acks hsw hw0 hwf.aw (by have := hwf.al; show M.acks.length < _; omega)
          (fun c hc => by simp [hc]) (fun c hc => by simp [hc]) (fun c hc => by simp [hc]) (fun w' s co Db sv g1 g2 => j3 g1 g2) M.acks.length 0 w4 s0 [] [] [] (by show 0 + M.acks.length = M.acks.length; omega) P0 H5
    unfold F54_j30
    cases ha : againB M now with
    | false =>
      rw [ha] at go
      simp only [WKt, mem, drewV]
      exact go (by simp)
    | true =>
      rw [ha] at go
      simp only [lenS_sl hsw, WKt, mem, drewV]
      by_cases h0 : (0 : Int) < (((useI 0 M.up).length : Nat) : Int)
      · have hws : useI 0 M.up ≠ [] := fun hn => by rw [hn] at h0; simp at h0
        simp only [decide_eq_true h0, WKt, mem, drewV]
        refine ld_h H3 0 rfl rfl ?_
        simp only [WKt, mem, drewV]
        refine cnd_decide (fun h6 => ?_) (fun h6 => ?_)
        · refine st_h H3 0 rfl (by simp [rlc]) rfl fun w3 H4 => ?_
          replace H4 : Hp w0 w3 (⟨b, 125, rlc { M with broken := true } su sus sp sa⟩ :: (cw ++ (cus ++ (cu ++ (cp ++ (ca ++ (D ++ F))))))) := H4
          have hb : againB M now = true ∧ useI 0 M.up ≠ [] ∧ M.repeats = 6 := ⟨ha, hws, h6⟩
          have hE : outE M now = 4 := by unfold outE; rw [if_neg h, if_pos hb]
          refine ⟨.slice none 0 0, [], [], [], ⟨b, 125, rlc { M with broken := true } su sus sp sa⟩ :: (cu ++ (cus ++ (cp ++ (ca ++ D)))), by rw [hE], H4.to (by intro f; simp only [I, U8, U64, ptr, List.set_cons_zero, List.set_cons_succ, List.eraseIdx_cons_zero, List.eraseIdx_cons_succ, List.map_append, List.map_cons, List.map_nil, List.sum_append, List.sum_cons, List.sum_nil]; omega), ?_, ?_⟩
          · have : outV M now = [] := by unfold outV; rw [if_pos]; rw [hE]; decide
            rw [this]; exact ⟨Sl.nil, rfl, fun i o s h => by simp at h⟩
          · have : outM M now = { M with broken := true } := by unfold outM; rw [if_neg h, if_pos hb]
            rw [this]; exact ⟨_, _, _, _, _, _, _, _, _, _, ⟨hlk.up, hlk.us, hlk.svl, hlk.dat, hlk.part, hlk.acks⟩, rfl⟩
        · exact go (fun hh => h6 hh.2.2)
      · simp only [decide_eq_false h0, WKt, mem, drewV]
        exact go (fun hh => h0 (by have := iv_ne hh.2.1; omega))
  -- again
  refine ld_h H3 0 rfl rfl ?_
  simp only [lenS_sl hlk.us, WKt, mem, drewV]
  cases hM : M.us with
  | nil =>
    have ea : againB M now = false := by unfold againB; rw [hM]
    rw [ea] at goal
    simp only [List.length_nil, show decide ((0 : Int) < ((0 : Nat) : Int)) = false from rfl, WKt, mem, drewV]
    exact goal
  | cons u r =>
    have hul : 0 < M.us.length := by rw [hM]; simp
    obtain ⟨bu, cap, rest, hcus, hsus, g1, g2, g3⟩ := hlk.us.chunk hul
    obtain ⟨s, hs⟩ : ∃ s, sv[0]? = some s := ⟨_, List.getElem?_eq_getElem (by rw [hlk.svl]; exact hul)⟩
    have hu : M.us[0]? = some u := by rw [hM]; rfl
    have hc5 : (ucells M.us sv ++ rest)[5]? = some (I u.at_) := get_left (by have := ucells_get hu hs (j := 5) (by omega); simpa [ucell] using this)
    have e0 : ixS 6 sus (.int .i64 0) = some (ptr bu 0) := by
      rw [hsus]; have := ixS_mk (sz := 6) (b := bu) (o := 0) (c := cap) (n := M.us.length) (j := 0) (k := .i64) hul; simpa using this
    have hblk : w2.drew.cell? ⟨bu, 5, none⟩ = some (I u.at_) := by
      have hm : (⟨bu, 141, ucells M.us sv ++ rest⟩ : Chunk) ∈ ⟨b, 125, rlc M su sus sp sa⟩ :: (cw ++ (cus ++ (cu ++ (cp ++ (ca ++ (D ++ F)))))) := by rw [hcus]; simp
      rw [(H3.blk _ hm).2.cell]; exact hc5
    have hat := hwf.at_ u (by rw [hM]; simp)
    simp only [show decide ((0 : Int) < (((u :: r).length : Nat) : Int)) = true from decide_eq_true (by simp), WKt, mem, drewV]
    refine ld_h H3 0 rfl rfl ?_
    simp only [e0, WKt, mem, drewV]
    refine ld1_a hblk ?_
    simp only [WKt, mem, drewV]
    by_cases h0 : 0 ≤ u.at_
    · simp only [decide_eq_true h0, WKt, mem, drewV]
      refine ld_h H3 0 rfl rfl ?_
      simp only [e0, WKt, mem, drewV]
      refine ld1_a hblk ?_
      simp only [WKt, mem, drewV]
      refine ld_h H3 0 rfl rfl ?_
      simp only [WKt, mem, drewV]
      rw [wrap64_id (by omega) (by omega)]
      have ea : againB M now = decide (M.timeout ≤ now - u.at_) := by unfold againB; rw [hM]; simp [h0]
      rw [← ea]; exact goal
    · simp only [decide_eq_false h0, WKt, mem, drewV]
      have ea : againB M now = false := by unfold againB; rw [hM]; simp [h0]
      rw [ea] at goal; exact goal
end
end Go.Proofs.Ytmnpndgmfmjfhaa.Den
end

section
set_option linter.unusedVariables false
set_option linter.unusedSimpArgs false
set_option maxRecDepth 8000
namespace Go.Proofs.Ytmnpndgmfmjfhaa.Den
open Go Go.RowKit
def ltP (a b : Int × Int) : Prop := a.1 < b.1 ∨ a.1 = b.1 ∧ a.2 < b.2
instance (a b : Int × Int) : Decidable (ltP a b) := by unfold ltP; infer_instance
theorem nxt_ltP (u : UM) : ltP (u.m, u.f) (nxt u) := by
  unfold nxt; split
  · exact .inl (show u.m < u.m + 1 by omega)
  · exact .inr ⟨rfl, show u.f < u.f + 1 by omega⟩
theorem ltP_trans {a b c : Int × Int} (h1 : ltP a b) (h2 : ltP b c) : ltP a c := by
  unfold ltP at *; omega
theorem ltP_irr {a : Int × Int} : ¬ ltP a a := by unfold ltP; omega
theorem ltP_tot {a b : Int × Int} (h1 : ¬ ltP a b) (h2 : ¬ ltP b a) : a = b := by
  unfold ltP at *
  exact Prod.ext (by omega) (by omega)
theorem chn_gt : ∀ {r : List UM} {u : UM}, Chn (u :: r) → ∀ v ∈ r, ltP (nxt u) (nxt v)
  | [], u, _, v, h => by simp at h
  | w :: r, u, hc, v, h => by
    have h1 : nxt u = (w.m, w.f) := hc.1
    rcases List.mem_cons.1 h with rfl | h
    · rw [h1]; exact nxt_ltP v
    · rw [h1]; exact ltP_trans (nxt_ltP w) (chn_gt hc.2 v h)
/-- The unit that an acknowledgment names, if it was sent. -/
def aO (p : Int × Int) : List UM → Option Nat
  | [] => none
  | u :: r => if p = nxt u then (if u.at_ < 0 then none else some 0) else (aO p r).map (· + 1)
/-- How many units in front were sent and stand before. -/
def cN (p : Int × Int) : List UM → Nat
  | [] => 0
  | u :: r => if 0 ≤ u.at_ ∧ ltP (u.m, u.f) p then cN p r + 1 else 0
theorem aO_none {p : Int × Int} : ∀ {us : List UM}, (∀ u ∈ us, p = nxt u → u.at_ < 0) → aO p us = none
  | [], _ => rfl
  | u :: r, h => by
    unfold aO
    by_cases hp : p = nxt u
    · rw [if_pos hp, if_pos (h u (by simp) hp)]
    · rw [if_neg hp, aO_none fun v hv => h v (by simp [hv])]; rfl
theorem cN_le {p : Int × Int} : ∀ (us : List UM), cN p us ≤ us.length
  | [] => Nat.le_refl _
  | u :: r => by
    unfold cN
    split
    · have := cN_le (p := p) r; simp; omega
    · exact Nat.zero_le _
theorem cN_in {p : Int × Int} : ∀ {us : List UM} {j : Nat} {u : UM}, j < cN p us → us[j]? = some u → 0 ≤ u.at_ ∧ ltP (u.m, u.f) p
  | [], j, u, h, _ => by simp [cN] at h
  | v :: r, j, u, h, hu => by
    unfold cN at h
    split at h
    · rename_i hv
      cases j with
      | zero => simp at hu; subst hu; exact hv
      | succ j => exact cN_in (us := r) (j := j) (by omega) (by simpa using hu)
    · omega
theorem cN_out {p : Int × Int} : ∀ {us : List UM} {u : UM}, us[cN p us]? = some u → ¬ (0 ≤ u.at_ ∧ ltP (u.m, u.f) p)
  | [], u, h => by simp at h
  | v :: r, u, h => by
    unfold cN at h
    split at h
    · exact cN_out (by simpa using h)
    · rename_i hv
      simp at h; subst h; exact hv
theorem aO_cN {p : Int × Int} : ∀ {us : List UM}, Chn us → Pre us → (cN p us = 0 → aO p us = none) ∧ (∀ n u, cN p us = n + 1 → us[n]? = some u → aO p us = if p = nxt u then some n else none)
  | [], _, _ => ⟨fun _ => rfl, fun n u h => by simp [cN] at h⟩
  | u :: r, hc, hp => by
    obtain ⟨i1, i2⟩ := aO_cN (p := p) (us := r) hc.2 hp.2
    by_cases h1 : 0 ≤ u.at_ ∧ ltP (u.m, u.f) p
    · have e : cN p (u :: r) = cN p r + 1 := by rw [cN, if_pos h1]
      rw [e]
      refine ⟨fun h => by omega, fun n v hn hv => ?_⟩
      have hn' : n = cN p r := by omega
      subst hn'
      by_cases h2 : p = nxt u
      · have hz : cN p r = 0 := by
          cases r with
          | nil => rfl
          | cons w r =>
            rw [cN, if_neg]
            rintro ⟨_, h⟩
            rw [h2, show nxt u = (w.m, w.f) from hc.1] at h
            exact ltP_irr h
        rw [hz] at hv ⊢
        simp at hv; subst hv
        rw [aO, if_pos h2, if_neg (by omega), if_pos h2]
      · rw [aO, if_neg h2]
        cases hr : cN p r with
        | zero =>
          rw [hr] at hv
          simp at hv; subst hv
          rw [i1 hr, if_neg h2]; rfl
        | succ k =>
          rw [hr] at hv
          rw [i2 k v hr (by simpa using hv)]
          split <;> rfl
    · have e : cN p (u :: r) = 0 := by rw [cN, if_neg h1]
      rw [e]
      refine ⟨fun _ => aO_none fun v hv hpv => ?_, fun n v hn => by omega⟩
      by_cases hu : u.at_ < 0
      · rcases List.mem_cons.1 hv with rfl | hv
        · exact hu
        · exact hp.1 hu v hv
      · have h3 : ¬ ltP (u.m, u.f) p := fun h => h1 ⟨by omega, h⟩
        rcases List.mem_cons.1 hv with rfl | hv
        · exact absurd (hpv ▸ nxt_ltP v) h3
        · exact absurd (hpv ▸ ltP_trans (nxt_ltP u) (chn_gt hc v hv)) h3
theorem ackP_nxt {fm ff : Int} {u : UM} (h1 : 0 ≤ u.m ∧ u.m < 2 ^ 62) (h2 : 0 ≤ u.f ∧ u.f < 2 ^ 62) : ackP fm ff u = decide ((fm, ff) = nxt u) := by
  unfold ackP nxt
  rw [wrap64_id (by omega) (by omega), wrap64_id (by omega) (by omega)]
  split <;> simp
def dropN (M : LM) (i : Nat) : LM := { M with done := lastDone M.done (M.us.take (i + 1)), us := M.us.drop (i + 1), repeats := 0 }
theorem ackM_aO {M : LM} {fm ff : Int} (hr : ∀ u ∈ M.us, (0 ≤ u.m ∧ u.m < 2 ^ 62) ∧ 0 ≤ u.f ∧ u.f < 2 ^ 62) : ackM M fm ff = match aO (fm, ff) M.us with | none => M | some i => dropN M i := by
  have key : ∀ us : List UM, (∀ u ∈ us, (0 ≤ u.m ∧ u.m < 2 ^ 62) ∧ 0 ≤ u.f ∧ u.f < 2 ^ 62) → aO (fm, ff) us = match us.findIdx? (ackP fm ff) with | none => none | some i => match us[i]? with | none => none | some u => if u.at_ < 0 then none else some i := by
    intro us
    induction us with
    | nil => intro _; rfl
    | cons u r ih =>
      intro h
      have hu := h u (by simp)
      rw [List.findIdx?_cons, ackP_nxt hu.1 hu.2, aO]
      by_cases hp : (fm, ff) = nxt u
      · rw [if_pos hp, decide_eq_true hp]; rfl
      · rw [if_neg hp, decide_eq_false hp, ih fun v hv => h v (by simp [hv])]
        cases r.findIdx? (ackP fm ff) with
        | none => rfl
        | some i =>
          simp only [Bool.false_eq_true, if_false, Option.map_some, List.getElem?_cons_succ]
          cases r[i]? with
          | none => rfl
          | some v => simp only; split <;> rfl
  rw [key M.us hr]
  unfold ackM
  cases M.us.findIdx? (ackP fm ff) with
  | none => rfl
  | some i =>
    simp only
    cases M.us[i]? with
    | none => rfl
    | some u => simp only; split <;> rfl
section
variable {w w' : World} {w0 : Base} {F L : List Chunk} {R : ER}
theorem behind_spec {a b c d : Int} (H : Hp w0 w L) : Calls Pg 74 ⟨[I a, I b, I c, I d]⟩ w fun e w' => e = .returned (.bool (decide (ltP (c, d) (a, b)))) ∧ Hp w0 w' L := by
  apply F74_calls
  unfold F74
  simp only [WKt, mem, drewV]
  by_cases h1 : c < a
  · simp only [decide_eq_true h1, WKt, mem, drewV]
    exact ⟨by rw [decide_eq_true (show ltP (c, d) (a, b) from .inl h1)], H⟩
  simp only [decide_eq_false h1, WKt, mem, drewV]
  by_cases h2 : a = c
  · simp only [decide_eq_true h2, WKt, mem, drewV]
    refine ⟨?_, H⟩
    congr 3
    unfold ltP
    refine propext ?_
    simp only
    omega
  · simp only [decide_eq_false h2, WKt, mem, drewV]
    exact ⟨by rw [decide_eq_false (show ¬ ltP (c, d) (a, b) from fun h => by unfold ltP at h; simp only at h; omega)], H⟩
/-- The loop over what is acknowledged. -/
theorem rack_l {b bu cap n : Nat} {M : LM} {su sp sa : Value} {us : List UM} {sv rest : List Value} (hsv : sv.length = us.length) (hn : n ≤ us.length) (hnb : n < 2 ^ 60)
    (kk : ∀ w', Hp w0 w' (⟨b, 125, rlc { M with done := lastDone M.done (us.take n) } su (.slice (some ⟨bu, 0, none⟩) us.length cap) sp sa⟩ :: ⟨bu, 141, ucells us sv ++ rest⟩ :: F) → F67_j5 R (ptr b 0) (I (n : Int)) w') :
    ∀ (d i : Nat) (w : World), i + d = n → Hp w0 w (⟨b, 125, rlc { M with done := lastDone M.done (us.take i) } su (.slice (some ⟨bu, 0, none⟩) us.length cap) sp sa⟩ :: ⟨bu, 141, ucells us sv ++ rest⟩ :: F) →
      F67_l1 R (d + 1) (ptr b 0) (I (n : Int)) (I (i : Int)) w := by
  intro d
  induction d with
  | zero =>
    intro i w hi H
    rw [F67_l1_succ]
    unfold F67_b1
    simp only [WKt, mem, drewV, show decide ((i : Int) < (n : Int)) = false from decide_eq_false (by omega)]
    have : i = n := by omega
    subst this
    exact kk w H
  | succ d ih =>
    intro i w hi H
    rw [F67_l1_succ]
    unfold F67_b1
    simp only [WKt, mem, drewV, show decide ((i : Int) < (n : Int)) = true from decide_eq_true (by omega)]
    unfold F67_j8 F67_j10
    simp only [WKt, mem, drewV]
    refine ld_h H 0 rfl rfl ?_
    rw [ixS_mk (by omega)]
    simp only [WKt, mem, drewV]
    have hlt : i < us.length := by omega
    obtain ⟨u, hu⟩ : ∃ u, us[i]? = some u := ⟨_, List.getElem?_eq_getElem hlt⟩
    obtain ⟨s, hs⟩ : ∃ s, sv[i]? = some s := ⟨_, List.getElem?_eq_getElem (by omega)⟩
    have cell : ∀ j v, j < 6 → (ucell u s)[j]? = some v → (ucells us sv ++ rest)[i * 6 + j]? = some v := fun j v hj hv => get_left (by rw [ucells_get hu hs hj]; exact hv)
    refine ld_h H 1 rfl (cell 1 _ (by omega) rfl) ?_
    have hd : lastDone M.done (us.take (i + 1)) = if u.last then u.m else lastDone M.done (us.take i) := by
      have : us.take (i + 1) = us.take i ++ [u] := by rw [List.take_add_one, hu]; rfl
      unfold lastDone
      rw [this, List.foldl_append]; rfl
    have next : ∀ {w : World}, Hp w0 w (⟨b, 125, rlc { M with done := lastDone M.done (us.take (i + 1)) } su (.slice (some ⟨bu, 0, none⟩) us.length cap) sp sa⟩ :: ⟨bu, 141, ucells us sv ++ rest⟩ :: F) → F67_j9 R (F67_l1 R (d + 1)) (ptr b 0) (I (n : Int)) (I (i : Int)) w := by
      intro w H
      unfold F67_j9
      simp only [WKt, mem, drewV]
      rw [wrap64_id (by omega) (by omega), show (i : Int) + 1 = ((i + 1 : Nat) : Int) from by omega]
      exact ih (i + 1) w (by omega) H
    unfold F67_j11
    cases hl : u.last with
    | true =>
      rw [hl] at hd
      simp only [WKt, mem, drewV]
      unfold F67_j12
      simp only [WKt, mem, drewV]
      refine ld_h H 0 rfl rfl ?_
      rw [ixS_mk (by omega)]
      simp only [WKt, mem, drewV]
      refine ld_h H 1 rfl (cell 2 _ (by omega) rfl) ?_
      refine st_h H 0 rfl (by simp [rlc]) rfl fun w3 H3 => ?_
      refine next ?_
      rw [hd]
      exact H3
    | false =>
      rw [hl] at hd
      simp only [WKt, mem, drewV]
      refine next ?_
      rw [hd]
      exact H
/-- The loop that counts. -/
theorem rcnt_l {b bu cap c : Nat} {M : LM} {su sp sa t : Value} {k m f : Int} {last : Bool} {sv rest : List Value} (hsv : sv.length = M.us.length) (hul : M.us.length < 2 ^ 40)
    (kk : ∀ w', Hp w0 w' (⟨c, 52, frm k last m f t⟩ :: ⟨b, 125, rlc M su (.slice (some ⟨bu, 0, none⟩) M.us.length cap) sp sa⟩ :: ⟨bu, 141, ucells M.us sv ++ rest⟩ :: F) → F67_j1 R (ptr b 0) (ptr c 0) (I (cN (m, f) M.us : Nat)) w') :
    ∀ (d i : Nat) (w : World), i + d = cN (m, f) M.us → Hp w0 w (⟨c, 52, frm k last m f t⟩ :: ⟨b, 125, rlc M su (.slice (some ⟨bu, 0, none⟩) M.us.length cap) sp sa⟩ :: ⟨bu, 141, ucells M.us sv ++ rest⟩ :: F) →
      F67_l2 R (d + 1) (ptr b 0) (ptr c 0) (I (i : Int)) w := by
  have hcl := cN_le (p := (m, f)) M.us
  have one : ∀ (d i : Nat) (w : World), i ≤ cN (m, f) M.us → Hp w0 w (⟨c, 52, frm k last m f t⟩ :: ⟨b, 125, rlc M su (.slice (some ⟨bu, 0, none⟩) M.us.length cap) sp sa⟩ :: ⟨bu, 141, ucells M.us sv ++ rest⟩ :: F) →
      (∀ w, i < cN (m, f) M.us → Hp w0 w (⟨c, 52, frm k last m f t⟩ :: ⟨b, 125, rlc M su (.slice (some ⟨bu, 0, none⟩) M.us.length cap) sp sa⟩ :: ⟨bu, 141, ucells M.us sv ++ rest⟩ :: F) → F67_l2 R d (ptr b 0) (ptr c 0) (I ((i + 1 : Nat) : Int)) w) →
      F67_l2 R (d + 1) (ptr b 0) (ptr c 0) (I (i : Int)) w := by
    intro d i w hi H hk
    rw [F67_l2_succ]
    unfold F67_b2
    have H := H.drew
    simp only [WKt, mem, drewV]
    refine ld_h H 1 rfl rfl ?_
    simp only [WKt, mem, drewV]
    have stop : ∀ {w : World}, ¬ i < cN (m, f) M.us → Hp w0 w (⟨c, 52, frm k last m f t⟩ :: ⟨b, 125, rlc M su (.slice (some ⟨bu, 0, none⟩) M.us.length cap) sp sa⟩ :: ⟨bu, 141, ucells M.us sv ++ rest⟩ :: F) → F67_j1 R (ptr b 0) (ptr c 0) (I (i : Int)) w := by
      intro w h H
      have : i = cN (m, f) M.us := by omega
      rw [this]; exact kk w H
    by_cases hlt : i < M.us.length
    rotate_left
    · simp only [decide_eq_false (show ¬ ((i : Int) < (M.us.length : Int)) from by omega), WKt, mem, drewV]
      exact stop (by omega) H
    simp only [decide_eq_true (show ((i : Int) < (M.us.length : Int)) from by omega), WKt, mem, drewV]
    obtain ⟨u, hu⟩ : ∃ u, M.us[i]? = some u := ⟨_, List.getElem?_eq_getElem hlt⟩
    obtain ⟨s, hs⟩ : ∃ s, sv[i]? = some s := ⟨_, List.getElem?_eq_getElem (by omega)⟩
    have cell : ∀ j v, j < 6 → (ucell u s)[j]? = some v → (ucells M.us sv ++ rest)[i * 6 + j]? = some v := fun j v hj hv => get_left (by rw [ucells_get hu hs hj]; exact hv)
    have hix : ixS 6 (.slice (some ⟨bu, 0, none⟩) M.us.length cap) (.int .i64 (i : Int)) = some (ptr bu (i * 6)) := by have := ixS_mk (sz := 6) (b := bu) (o := 0) (c := cap) (n := M.us.length) (j := i) (k := .i64) hlt; simpa using this
    refine ld_h H 1 rfl rfl ?_
    simp only [hix, WKt, mem, drewV]
    refine ld_h H 2 rfl (cell 5 _ (by omega) rfl) ?_
    simp only [WKt, mem, drewV]
    by_cases hat : 0 ≤ u.at_
    rotate_left
    · simp only [decide_eq_false hat, WKt, mem, drewV]
      exact stop (fun h => hat (cN_in h hu).1) H
    simp only [decide_eq_true hat, WKt, mem, drewV]
    refine ld_h H 0 rfl rfl ?_
    refine ld_h H 0 rfl rfl ?_
    refine ld_h H 1 rfl rfl ?_
    simp only [hix, WKt, mem, drewV]
    refine ld_h H 2 rfl (cell 2 _ (by omega) rfl) ?_
    refine ld_h H 1 rfl rfl ?_
    simp only [hix, WKt, mem, drewV]
    refine ld_h H 2 rfl (cell 3 _ (by omega) rfl) ?_
    refine cal_h (behind_spec H) ?_
    rintro _ w2 ⟨rfl, H2⟩
    simp only [WKt, mem, drewV]
    by_cases hb : ltP (u.m, u.f) (m, f)
    · simp only [decide_eq_true hb, WKt, mem, drewV]
      rw [wrap64_id (by omega) (by omega), show (i : Int) + 1 = ((i + 1 : Nat) : Int) from by omega]
      refine hk w2 ?_ H2
      rcases Nat.lt_or_eq_of_le hi with h | h
      · exact h
      · exact absurd ⟨hat, hb⟩ (cN_out (by rw [← h]; exact hu))
    · simp only [decide_eq_false hb, WKt, mem, drewV]
      exact stop (fun h => hb (cN_in h hu).2) H2
  intro d
  induction d with
  | zero => intro i w hi H; exact one 0 i w (by omega) H (fun w h => by omega)
  | succ d ih => intro i w hi H; exact one (d + 1) i w (by omega) H (fun w h H => ih (i + 1) w (by omega) H)
theorem racknowledge_spec {b : Nat} {M : LM} {k m f : Int} {last : Bool} {t : Value} (H : Hp w0 w (L ++ F)) (hL : rLk w0 b M L) (hul : M.us.length < 2 ^ 30) (hch : Chn M.us) (hpre : Pre M.us) (hr : ∀ u ∈ M.us, (0 ≤ u.m ∧ u.m < 2 ^ 62) ∧ 0 ≤ u.f ∧ u.f < 2 ^ 62) :
    Calls Pg 67 ⟨[ptr b 0, .agg ⟨frm k last m f t⟩]⟩ w (AckPost w0 F rLk b (ackM M m f)) := by
  obtain ⟨su, sus, sp, sa, cu, cus, cp, ca, D, sv, hlk, rfl⟩ := hL
  obtain ⟨a1, a2⟩ := aO_cN (p := (m, f)) hch hpre
  have hM := ackM_aO (M := M) (fm := m) (ff := f) hr
  have same : ∀ {w' : World} {G : List Chunk}, Hp w0 w' (G ++ (⟨b, 125, rlc M su sus sp sa⟩ :: (cus ++ (cu ++ (cp ++ (ca ++ (D ++ F))))))) → aO (m, f) M.us = none → AckPost w0 F rLk b (ackM M m f) (.returned (.tuple ⟨[]⟩)) w' := by
    intro w' G H' he
    rw [hM, he]
    exact ⟨⟨b, 125, rlc M su sus sp sa⟩ :: (cu ++ (cus ++ (cp ++ (ca ++ D)))), rfl, H'.to (by intro f; simp only [I, U8, U64, ptr, List.set_cons_zero, List.set_cons_succ, List.eraseIdx_cons_zero, List.eraseIdx_cons_succ, List.map_append, List.map_cons, List.map_nil, List.sum_append, List.sum_cons, List.sum_nil]; omega), _, _, _, _, _, _, _, _, _, _, hlk, rfl⟩
  have H0 : Hp w0 w (⟨b, 125, rlc M su sus sp sa⟩ :: (cus ++ (cu ++ (cp ++ (ca ++ (D ++ F)))))) := H.to (by intro f; simp only [I, U8, U64, ptr, List.set_cons_zero, List.set_cons_succ, List.eraseIdx_cons_zero, List.eraseIdx_cons_succ, List.map_append, List.map_cons, List.map_nil, List.sum_append, List.sum_cons, List.sum_nil]; omega)
  apply F67_calls
  unfold F67
  refine bxa_h H0 fun w1 c H1 => ?_
  unfold F67_j13
  have hss := sv_sc hlk
  rcases hlk.us with ⟨rfl, ⟨a, rfl⟩, h0, h00⟩ | ⟨bu, cap, rest, rfl, rfl, h1, h2, h3⟩
  · have hus : M.us = [] := List.length_eq_zero_iff.1 h0
    refine ⟨0 + 1, ?_⟩
    show F67_l2 _ (0 + 1) _ _ _ w1
    rw [F67_l2_succ]
    unfold F67_b2
    have H1 := H1.drew
    simp only [WKt, mem, drewV]
    refine ld_h H1 1 rfl rfl ?_
    simp only [WKt, mem, drewV]
    simp only [show decide ((0 : Int) < ((0 : Nat) : Int)) = false from rfl, WKt, mem, drewV]
    unfold F67_j1
    simp only [decide_true, WKt, mem, drewV]
    exact same (G := [⟨c, 52, frm k last m f t⟩]) H1 (by rw [hus]; rfl)
  refine ⟨cN (m, f) M.us + 1, ?_⟩
  refine rcnt_l (F := cu ++ (cp ++ (ca ++ (D ++ F)))) hlk.svl (by omega) ?_ (cN (m, f) M.us) 0 w1 (by omega) H1
  clear H1
  intro w1 H1
  have hcl := cN_le (p := (m, f)) M.us
  unfold F67_j1
  cases hn : cN (m, f) M.us with
  | zero =>
    simp only [show (((0 : Nat) : Int)) = 0 from rfl, decide_true, WKt, mem, drewV]
    exact same (G := [⟨c, 52, frm k last m f t⟩]) H1 (a1 hn)
  | succ i =>
    have hi : i < M.us.length := by omega
    obtain ⟨u, hu⟩ : ∃ u, M.us[i]? = some u := ⟨_, List.getElem?_eq_getElem hi⟩
    obtain ⟨s, hs⟩ : ∃ s, sv[i]? = some s := ⟨_, List.getElem?_eq_getElem (by rw [hlk.svl]; exact hi)⟩
    have hru := hr u (List.mem_of_getElem? hu)
    have hao := a2 i u hn hu
    simp only [WKt, mem, drewV]
    simp only [show decide (((i + 1 : Nat) : Int) = 0) = false from decide_eq_false (by omega), WKt, mem, drewV]
    unfold F67_j2
    simp only [WKt, mem, drewV]
    refine ld_h H1 1 rfl rfl ?_
    rw [wrap64_id (by omega) (by omega), show ((i + 1 : Nat) : Int) - 1 = (i : Int) from by omega, ixS_mk hi]
    simp only [WKt, mem, drewV]
    have hlen := ucells_len hlk.svl
    have hcell : ((ucells M.us sv ++ rest).drop (i * 6)).take 6 = ucell u s := by
      apply List.ext_getElem?
      intro m
      rw [List.getElem?_take]
      by_cases hm : m < 6
      · rw [if_pos hm, List.getElem?_drop, List.getElem?_append_left (by rw [hlen]; omega)]
        exact ucells_get hu hs hm
      · rw [if_neg hm, List.getElem?_eq_none (by simp [ucell]; omega)]
    refine ldN_blk (H1.at (i := 2) rfl) (by rw [List.length_append, hlen]; omega) ?_
    rw [hcell]
    refine al_h H1 (z := [I 0, .bool false, I 0, I 0, .slice none 0 0, I 0]) (by kernel_rfl) fun w2 c2 H2 => ?_
    have hsc : scalar s = true := hss s (List.mem_of_getElem? hs)
    refine stA_h H2 0 rfl rfl rfl (by intro c hc; simp [ucell] at hc; rcases hc with rfl | rfl | rfl | rfl | rfl | rfl <;> first | rfl | exact hsc) fun w3 H3 => ?_
    simp only [WKt, mem, drewV]
    refine ld_h H3 0 rfl rfl ?_
    refine ld_h H3 0 rfl rfl ?_
    simp only [WKt, mem, drewV]
    rw [wrap64_id (by omega) (by omega)]
    rw [show bldO [.int .i64 0, .bool false, .int .i64 0, .int .i64 0, .slice none 0 0] [(2, 1, I u.m), (3, 1, I (u.f + 1))] = some (.agg ⟨[I 0, .bool false, I u.m, I (u.f + 1), .slice none 0 0]⟩) from rfl]
    simp only [WKt, mem, drewV]
    refine al_h H3 (z := [I 0, .bool false, I 0, I 0, .slice none 0 0]) (by kernel_rfl) fun w4 c4 H4 => ?_
    refine stA_h H4 0 rfl rfl rfl (by intro c hc; simp at hc; rcases hc with rfl | rfl | rfl | rfl | rfl <;> rfl) fun w5 H5 => ?_
    try simp only [WKt, mem, drewV]
    refine ld_h H5 1 rfl rfl ?_
    have j4 : ∀ {w : World} {G : List Chunk}, aO (m, f) M.us = some i → Hp w0 w (⟨b, 125, rlc M su (.slice (some ⟨bu, 0, none⟩) M.us.length cap) sp sa⟩ :: ⟨bu, 141, ucells M.us sv ++ rest⟩ :: (G ++ (cu ++ (cp ++ (ca ++ (D ++ F)))))) → F67_j4 (AckPost w0 F rLk b (ackM M m f)) (ptr b 0) (I ((i + 1 : Nat) : Int)) w := by
      intro w G ha H
      rw [ha] at hM
      unfold F67_j4 F67_j6 F67_j7
      refine ⟨i + 1 + 1, ?_⟩
      refine rack_l (n := i + 1) (F := G ++ (cu ++ (cp ++ (ca ++ (D ++ F))))) (M := M) hlk.svl (by omega) (by omega) (fun w3 H3 => ?_) (i + 1) 0 w (by omega) H
      unfold F67_j5
      refine lit0_h elT122 H3 fun w4 s0 H4 hs0 => ?_
      simp only [WKt, mem, drewV]
      refine ld_h H4 0 rfl rfl ?_
      obtain ⟨o, ho, ho2⟩ := slK_from (sz := 6) (b := bu) (n := M.us.length) (c := cap) (lo := i + 1) (by omega) h2
      rw [ho]
      simp only [WKt, mem, drewV]
      have hdr : (ucells (M.us.drop (i + 1)) (sv.drop (i + 1))).length = (M.us.length - (i + 1)) * 6 := by rw [ucells_len (by simp [hlk.svl])]; simp
      have hsrc : ∀ L2 : List Chunk, (⟨bu, 141, ucells M.us sv ++ rest⟩ : Chunk) ∈ L2 → RdL w0 L2 6 (.slice (some ⟨bu, o, none⟩) (M.us.length - (i + 1)) (cap - (i + 1))) (M.us.length - (i + 1)) (ucells (M.us.drop (i + 1)) (sv.drop (i + 1))) := by
        intro L2 hm2
        by_cases hz : i + 1 < M.us.length
        · have ho' := ho2 hz
          subst ho'
          refine .inr ⟨bu, (i + 1) * 6, cap - (i + 1), 141, ucells M.us sv ++ rest, rfl, by omega, hm2, ?_, ?_⟩
          · rw [List.length_append, hlen]; omega
          · rw [ucells_drop, List.drop_append_of_le_length (by rw [hlen]; omega), List.take_append_of_le_length (by rw [List.length_drop, hlen]; omega), List.take_of_length_le (by rw [List.length_drop, hlen]; omega)]
        · have e0 : M.us.length - (i + 1) = 0 := by omega
          have e1 : ucells (M.us.drop (i + 1)) (sv.drop (i + 1)) = [] := List.length_eq_zero_iff.1 (by rw [hdr, e0])
          rw [e0, e1]
          exact .inl (.inr ⟨⟨bu, o, none⟩, cap - (i + 1), rfl, by omega, by rw [Nat.zero_mul]; rfl⟩)
      have H4' : Hp w0 w4 ([] ++ (⟨b, 125, rlc { M with done := lastDone M.done (M.us.take (i + 1)) } su (.slice (some ⟨bu, 0, none⟩) M.us.length cap) sp sa⟩ :: ⟨bu, 141, ucells M.us sv ++ rest⟩ :: (G ++ (cu ++ (cp ++ (ca ++ (D ++ F))))))) := H4
      have hssd : ∀ s ∈ sv.drop (i + 1), scalar s = true := fun s hs => hss s (List.mem_of_mem_drop hs)
      refine append_h elT122 H4' hs0 (hsrc _ (by simp)) (ucells_scalar hssd) (by omega) (by omega) fun w6 s6 cs6 H6 h6 => ?_
      try simp only [WKt, mem, drewV]
      have H6' : Hp w0 w6 (⟨b, 125, rlc { M with done := lastDone M.done (M.us.take (i + 1)) } su (.slice (some ⟨bu, 0, none⟩) M.us.length cap) sp sa⟩ :: (cs6 ++ (⟨bu, 141, ucells M.us sv ++ rest⟩ :: (G ++ (cu ++ (cp ++ (ca ++ (D ++ F)))))))) := H6.to (by intro f; simp only [I, U8, U64, ptr, List.set_cons_zero, List.set_cons_succ, List.eraseIdx_cons_zero, List.eraseIdx_cons_succ, List.map_append, List.map_cons, List.map_nil, List.sum_append, List.sum_cons, List.sum_nil]; omega)
      refine st_h H6' 0 rfl (by simp [rlc]) (sl_sc h6) fun w7 H7 => ?_
      try simp only [WKt, mem, drewV]
      refine st_h H7 0 rfl (by simp [rlc]) rfl fun w8 H8 => ?_
      rw [hM]
      have H8' : Hp w0 w8 (⟨b, 125, rlc (dropN M i) su s6 sp sa⟩ :: (cs6 ++ (⟨bu, 141, ucells M.us sv ++ rest⟩ :: (G ++ (cu ++ (cp ++ (ca ++ (D ++ F)))))))) := H8
      refine ⟨⟨b, 125, rlc (dropN M i) su s6 sp sa⟩ :: (cu ++ (cs6 ++ (cp ++ (ca ++ D)))), rfl, H8'.to (by intro f; simp only [I, U8, U64, ptr, List.set_cons_zero, List.set_cons_succ, List.eraseIdx_cons_zero, List.eraseIdx_cons_succ, List.map_append, List.map_cons, List.map_nil, List.sum_append, List.sum_cons, List.sum_nil]; omega), su, s6, sp, sa, cu, cs6, cp, ca, D, sv.drop (i + 1), ?_, rfl⟩
      refine ⟨hlk.up, ?_, by simp [hlk.svl, dropN], ?_, hlk.part, hlk.acks⟩
      · have h7 : Sl 141 6 s6 (M.us.length - (i + 1)) (ucells (M.us.drop (i + 1)) (sv.drop (i + 1))) cs6 := by simpa using h6
        rw [show (dropN M i).us.length = M.us.length - (i + 1) from by simp [dropN]]
        exact h7
      · intro j u' s' hu' hs'
        simp only [dropN, List.getElem?_drop] at hu' hs'
        exact hlk.dat _ u' s' hu' hs'
    have j3 : ∀ {w : World} {x : List Value} {x4 x3 : Int}, (∃ a1 a2 a5, x = [a1, a2, I x3, I x4, a5]) → nxt u = (x3, x4) → Hp w0 w (⟨c4, 52, x⟩ :: ⟨c2, 141, ucell u s⟩ :: ⟨c, 52, frm k last m f t⟩ :: ⟨b, 125, rlc M su (.slice (some ⟨bu, 0, none⟩) M.us.length cap) sp sa⟩ :: ⟨bu, 141, ucells M.us sv ++ rest⟩ :: (cu ++ (cp ++ (ca ++ (D ++ F))))) →
        F67_j3 (AckPost w0 F rLk b (ackM M m f)) (ptr b 0) (ptr c 0) (I ((i + 1 : Nat) : Int)) (ptr c4 0) w := by
      rintro w x x4 x3 ⟨a1, a2, a5, rfl⟩ hx H
      unfold F67_j3
      simp only [WKt, mem, drewV]
      refine ld_h H 2 rfl rfl ?_
      refine ld_h H 0 rfl rfl ?_
      simp only [WKt, mem, drewV]
      by_cases h8 : m = x3
      rotate_left
      · simp only [decide_eq_true h8, WKt, mem, drewV]
        refine same (G := ⟨c4, 52, [a1, a2, I x3, I x4, a5]⟩ :: ⟨c2, 141, ucell u s⟩ :: [⟨c, 52, frm k last m f t⟩]) H ?_
        rw [hao, if_neg]
        rw [hx]; intro h; injection h with h _; exact h8 h
      simp only [decide_eq_false (not_not_intro h8), WKt, mem, drewV]
      refine ld_h H 2 rfl rfl ?_
      refine ld_h H 0 rfl rfl ?_
      simp only [WKt, mem, drewV]
      by_cases h9 : f = x4
      rotate_left
      · simp only [decide_eq_true h9, WKt, mem, drewV]
        refine same (G := ⟨c4, 52, [a1, a2, I x3, I x4, a5]⟩ :: ⟨c2, 141, ucell u s⟩ :: [⟨c, 52, frm k last m f t⟩]) H ?_
        rw [hao, if_neg]
        rw [hx]; intro h; injection h with _ h; exact h9 h
      simp only [decide_eq_false (not_not_intro h9), WKt, mem, drewV]
      exact j4 (G := ⟨c4, 52, [a1, a2, I x3, I x4, a5]⟩ :: ⟨c2, 141, ucell u s⟩ :: [⟨c, 52, frm k last m f t⟩]) (by rw [hao, if_pos]; rw [hx, h8, h9]) (H.to (by intro f; simp only [I, U8, U64, ptr, List.set_cons_zero, List.set_cons_succ, List.eraseIdx_cons_zero, List.eraseIdx_cons_succ, List.map_append, List.map_cons, List.map_nil, List.sum_append, List.sum_cons, List.sum_nil]; omega))
    cases hl : u.last with
    | true =>
      simp only [WKt, mem, drewV]
      refine ld_h H5 1 rfl rfl ?_
      simp only [WKt, mem, drewV]
      rw [wrap64_id (by omega) (by omega)]
      rw [show bldO [.int .i64 0, .bool false, .int .i64 0, .int .i64 0, .slice none 0 0] [(2, 1, I (u.m + 1))] = some (.agg ⟨[I 0, .bool false, I (u.m + 1), I 0, .slice none 0 0]⟩) from rfl]
      simp only [WKt, mem, drewV]
      refine stA_h H5 0 rfl rfl rfl (by intro c hc; simp at hc; rcases hc with rfl | rfl | rfl | rfl | rfl <;> rfl) fun w7 H7 => ?_
      exact j3 (x3 := u.m + 1) (x4 := 0) ⟨_, _, _, rfl⟩ (by unfold nxt; rw [hl]; rfl) H7
    | false =>
      simp only [WKt, mem, drewV]
      exact j3 (x3 := u.m) (x4 := u.f + 1) ⟨_, _, _, rfl⟩ (by unfold nxt; rw [hl]; rfl) H5
end
end Go.Proofs.Ytmnpndgmfmjfhaa.Den
end

section
set_option linter.unusedVariables false
set_option linter.unusedSimpArgs false
set_option maxRecDepth 8000
namespace Go.Proofs.Ytmnpndgmfmjfhaa.Den
open Go Go.RowKit
section
variable {w w' : World} {w0 : Base} {F L : List Chunk} {R : ER}
theorem rin_ack {b : Nat} {M : LM} {su sus sp sa x13 : Value} {cu cus cp ca D : List Chunk} {sv : List Value} {x : Int} {G : List Chunk} (hlk : LkP 141 144 w0 M su sus sp sa cu cus cp ca D sv) (hal : M.acks.length < 2 ^ 30) (hx : 0 ≤ x)
    (H : Hp w0 w (⟨b, 125, rlc M su sus sp sa⟩ :: (cus ++ (cu ++ (cp ++ (ca ++ (D ++ G)))))))
    (k : ∀ w' L', Hp w0 w' (L' ++ G) → rLk w0 b (addA M x) L' → R (.returned (.tuple ⟨[x13, I 0]⟩)) w') :
    F51_j5 R (ptr b 0) (I x) x13 w := by
  unfold F51_j5
  simp only [WKt, mem, drewV]
  refine ld_h H.drew 0 rfl rfl ?_
  refine ld_h H.drew 0 rfl rfl ?_
  refine ld_h H.drew 0 rfl rfl ?_
  rw [show bldO [.int .i64 0, .bool false, .int .i64 0, .int .i64 0, .slice none 0 0] [(0, 1, (.int .i64 2)), (2, 1, I M.msg), (3, 1, I M.frag)] = some (.agg ⟨[I 2, .bool false, I M.msg, I M.frag, .slice none 0 0]⟩) from rfl]
  simp only [WKt, mem, drewV]
  have eb : bldO [.int .i64 0, .int .i64 0, .bool false, .int .i64 0, .int .i64 0, .slice none 0 0] [(0, 1, I x), (1, 5, .agg ⟨[I 2, .bool false, I M.msg, I M.frag, .slice none 0 0]⟩)] = some (.agg ⟨acell ⟨x.toNat, M.msg, M.frag⟩⟩) := by
    have : ((x.toNat : Nat) : Int) = x := by omega
    unfold acell
    rw [this]
    rfl
  simp only [eb, WKt, mem, drewV]
  refine lit1_h (v := .agg ⟨acell ⟨x.toNat, M.msg, M.frag⟩⟩) elT123 H.drew rfl (by omega) fun w1 nb H1 => ?_
  have H1' : Hp w0 w1 (⟨nb, 144, acell ⟨x.toNat, M.msg, M.frag⟩⟩ :: ⟨b, 125, rlc M su sus sp sa⟩ :: (cus ++ (cu ++ (cp ++ (ca ++ (D ++ G)))))) := H1
  rw [rd1_t (H1'.cell 1 (o := 14) rfl rfl)]
  have H1'' : Hp w0 w1 (ca ++ (⟨nb, 144, acell ⟨x.toNat, M.msg, M.frag⟩⟩ :: ⟨b, 125, rlc M su sus sp sa⟩ :: (cus ++ (cu ++ (cp ++ (D ++ G)))))) := H1'.to (by intro f; simp only [I, U8, U64, ptr, List.set_cons_zero, List.set_cons_succ, List.eraseIdx_cons_zero, List.eraseIdx_cons_succ, List.map_append, List.map_cons, List.map_nil, List.sum_append, List.sum_cons, List.sum_nil]; omega)
  refine append_h (m := 1) (ys := acell ⟨x.toNat, M.msg, M.frag⟩) elT123 H1'' hlk.acks (.inr ⟨nb, 0, 1, 144, acell ⟨x.toNat, M.msg, M.frag⟩, rfl, by omega, by simp, by simp [acell], rfl⟩)
    (by intro c hc; simp [acell] at hc; rcases hc with rfl | rfl | rfl | rfl | rfl | rfl <;> rfl) (by omega) (by omega) fun w2 s2 ca2 H2 h2 => ?_
  try simp only [WKt, mem, drewV]
  have H2' : Hp w0 w2 (⟨b, 125, rlc M su sus sp sa⟩ :: (cus ++ (cu ++ (cp ++ (ca2 ++ (D ++ G)))))) := H2.to (by intro f; simp only [I, U8, U64, ptr, List.set_cons_zero, List.set_cons_succ, List.eraseIdx_cons_zero, List.eraseIdx_cons_succ, List.map_append, List.map_cons, List.map_nil, List.sum_append, List.sum_cons, List.sum_nil]; omega)
  refine st_h H2' 0 rfl (by simp [rlc]) (sl_sc h2) fun w3 H3 => ?_
  have H3' : Hp w0 w3 (⟨b, 125, rlc (addA M x) su sus sp s2⟩ :: (cus ++ (cu ++ (cp ++ (ca2 ++ (D ++ G)))))) := H3
  refine k w3 (⟨b, 125, rlc (addA M x) su sus sp s2⟩ :: (cu ++ (cus ++ (cp ++ (ca2 ++ D))))) (H3'.to (by intro f; simp only [I, U8, U64, ptr, List.set_cons_zero, List.set_cons_succ, List.eraseIdx_cons_zero, List.eraseIdx_cons_succ, List.map_append, List.map_cons, List.map_nil, List.sum_append, List.sum_cons, List.sum_nil]; omega)) ⟨su, sus, sp, s2, cu, cus, cp, ca2, D, sv, ⟨hlk.up, hlk.us, hlk.svl, hlk.dat, hlk.part, ?_⟩, rfl⟩
  have ea : acells (addA M x).acks = acells M.acks ++ acell ⟨x.toNat, M.msg, M.frag⟩ := by simp [acells, addA]
  rw [ea]
  simpa [addA] using h2
/-- A frame of a message. -/
theorem rin_data {b fb : Nat} {M : LM} {su sus sp sa t : Value} {cu cus cp ca D cs : List Chunk} {sv : List Value} {x m f : Int} {last : Bool} {n : Nat} {d : List Int} (hlk : LkP 141 144 w0 M su sus sp sa cu cus cp ca D sv) (hal : M.acks.length < 2 ^ 30) (hx : 0 ≤ x)
    (hn : d.length = n) (hn4 : n ≤ 4096) (hp4 : M.part.length ≤ 4096) (ht : Sl 5 1 t n (bv d) cs) (hmsg : 0 ≤ M.msg ∧ M.msg < 2 ^ 62) (hfr : f < 2 ^ 62 ∧ 0 ≤ M.frag)
    (H : Hp w0 w (⟨b, 125, rlc M su sus sp sa⟩ :: ⟨fb, 52, frm 1 last m f t⟩ :: (cus ++ (cu ++ (cp ++ (ca ++ (D ++ (cs ++ F))))))))
    (k : ∀ w' s co Db svm L', Hp w0 w' (co ++ (Db ++ (L' ++ F))) → MsgP w0 s (takeV M m f last d) co Db svm → rLk w0 b (addA (takeM M m f last d) x) L' → R (.returned (.tuple ⟨[s, I 0]⟩)) w') :
    F51_j4 R (ptr b 0) (I x) (ptr fb 0) w := by
  subst hn
  unfold F51_j4
  refine lit0_h elT36 H fun w s0 H hs0 => ?_
  have no : ¬ fitB M m f d → ∀ {w : World}, Hp w0 w (⟨b, 125, rlc M su sus sp sa⟩ :: ⟨fb, 52, frm 1 last m f t⟩ :: (cus ++ (cu ++ (cp ++ (ca ++ (D ++ (cs ++ F))))))) → F51_j5 R (ptr b 0) (I x) s0 w := by
    intro hf w H
    have e1 : takeM M m f last d = M := by unfold takeM; rw [if_neg hf]
    have e2 : takeV M m f last d = [] := by unfold takeV; rw [if_neg (fun h => hf h.1)]
    rw [e1, e2] at k
    refine rin_ack (G := F) hlk hal hx (H.to (by intro f; simp only [I, U8, U64, ptr, List.set_cons_zero, List.set_cons_succ, List.eraseIdx_cons_zero, List.eraseIdx_cons_succ, List.map_append, List.map_cons, List.map_nil, List.sum_append, List.sum_cons, List.sum_nil]; omega)) fun w' L' H' hL' => k w' _ [] [] [] L' H' ⟨hs0, rfl, fun i y s h => by simp at h⟩ hL'
  unfold F51_j6
  simp only [WKt, mem, drewV]
  refine ld_h H.drew 1 rfl rfl ?_
  refine ld_h H.drew 0 rfl rfl ?_
  simp only [WKt, mem, drewV]
  by_cases h1 : m ≠ M.msg
  · simp only [decide_eq_false h1, WKt, mem, drewV]
    unfold F51_j7
    simp only [WKt, mem, drewV]
    exact no (fun h => h1 h.1) H.drew
  replace h1 := Decidable.not_not.1 h1
  simp only [decide_eq_true h1, WKt, mem, drewV]
  refine ld_h H.drew 1 rfl rfl ?_
  refine ld_h H.drew 0 rfl rfl ?_
  simp only [WKt, mem, drewV]
  by_cases h2 : f ≠ M.frag
  · simp only [decide_eq_false h2, WKt, mem, drewV]
    unfold F51_j7
    simp only [WKt, mem, drewV]
    exact no (fun h => h2 h.2.1) H.drew
  replace h2 := Decidable.not_not.1 h2
  simp only [decide_eq_true h2, WKt, mem, drewV]
  refine ld_h H.drew 0 rfl rfl ?_
  simp only [lenS_sl hlk.part, WKt, mem, drewV]
  refine ld_h H.drew 1 rfl rfl ?_
  simp only [lenS_sl ht, WKt, mem, drewV]
  rw [wrap64_id (by omega) (by omega)]
  by_cases h3 : ¬ ((M.part.length : Int) + (d.length : Int) ≤ 4096)
  · simp only [decide_eq_false h3, WKt, mem, drewV]
    unfold F51_j7
    simp only [WKt, mem, drewV]
    exact no (fun h => h3 (by have := h.2.2; omega)) H.drew
  replace h3 := Decidable.not_not.1 h3
  simp only [decide_eq_true h3, WKt, mem, drewV]
  unfold F51_j7
  simp only [WKt, mem, drewV]
  have hf : fitB M m f d := ⟨h1, h2, by omega⟩
  unfold F51_j8
  simp only [WKt, mem, drewV]
  have cell0 : ∀ {w : World} {G : List Chunk}, Hp w0 w (G ++ (⟨b, 125, rlc M su sus sp sa⟩ :: ⟨fb, 52, frm 1 last m f t⟩ :: (cus ++ (cu ++ (cp ++ (ca ++ (D ++ (cs ++ F)))))))) → w.cell? ⟨b, 13, none⟩ = some sp ∧ w.cell? ⟨fb, 4, none⟩ = some t := by
    intro w G H
    have H' : Hp w0 w (⟨b, 125, rlc M su sus sp sa⟩ :: ⟨fb, 52, frm 1 last m f t⟩ :: (G ++ (cus ++ (cu ++ (cp ++ (ca ++ (D ++ (cs ++ F)))))))) := H.to (by intro f; simp only [I, U8, U64, ptr, List.set_cons_zero, List.set_cons_succ, List.eraseIdx_cons_zero, List.eraseIdx_cons_succ, List.map_append, List.map_cons, List.map_nil, List.sum_append, List.sum_cons, List.sum_nil]; omega)
    exact ⟨H'.cell 0 (o := 13) rfl rfl, H'.cell 1 (o := 4) rfl rfl⟩
  have Hd := H.drew.drew
  have c0 := cell0 (G := []) Hd
  refine lit0_h elT24 Hd fun w1 z0 Hz hz0 => ?_
  try simp only [WKt, mem, drewV]
  refine ldS_h Hz 0 rfl rfl (by intro y hy; simp at hy; subst hy; exact c0.1) ?_
  have c1 := cell0 (G := []) Hz
  refine append_h (cs := []) elT24 Hz hz0 (hlk.part.rdL fun c hc => by simp [hc]) bv_scalar (by omega) (by omega) fun w2 z1 cz1 Hz1 hz1 => ?_
  try simp only [WKt, mem, drewV]
  have Hz1' : Hp w0 w2 (cz1 ++ (⟨b, 125, rlc M su sus sp sa⟩ :: ⟨fb, 52, frm 1 last m f t⟩ :: (cus ++ (cu ++ (cp ++ (ca ++ (D ++ (cs ++ F)))))))) := Hz1
  have c2 := cell0 Hz1'
  have Hz1'' : Hp w0 w2 (⟨fb, 52, frm 1 last m f t⟩ :: (cz1 ++ (⟨b, 125, rlc M su sus sp sa⟩ :: (cus ++ (cu ++ (cp ++ (ca ++ (D ++ (cs ++ F)))))))))  := Hz1'.to (by intro f; simp only [I, U8, U64, ptr, List.set_cons_zero, List.set_cons_succ, List.eraseIdx_cons_zero, List.eraseIdx_cons_succ, List.map_append, List.map_cons, List.map_nil, List.sum_append, List.sum_cons, List.sum_nil]; omega)
  refine ldS_h Hz1'' 0 rfl rfl (by intro y hy; simp at hy; rcases hy with rfl | rfl; exact c1.2; exact c0.2) ?_
  refine append_h elT24 Hz1' hz1 (ht.rdL fun c hc => by simp [hc]) bv_scalar (by omega) (by omega) fun w3 s1 cp1 H1 hp1 => ?_
  rw [List.nil_append, ← bv_append] at hp1
  rw [Nat.zero_add] at hp1
  try simp only [WKt, mem, drewV]
  have H1' : Hp w0 w3 (⟨b, 125, rlc M su sus sp sa⟩ :: ⟨fb, 52, frm 1 last m f t⟩ :: (cus ++ (cu ++ (cp1 ++ (ca ++ (D ++ (cs ++ F))))))) := H1.to (by intro f; simp only [I, U8, U64, ptr, List.set_cons_zero, List.set_cons_succ, List.eraseIdx_cons_zero, List.eraseIdx_cons_succ, List.map_append, List.map_cons, List.map_nil, List.sum_append, List.sum_cons, List.sum_nil]; omega)
  refine st_h H1' 0 rfl (by simp [rlc]) (sl_sc hp1) fun w2 H2 => ?_
  try simp only [WKt, mem, drewV]
  refine ld_h H2 0 rfl rfl ?_
  have hfb : f < 2 ^ 62 := hfr.1
  simp only [WKt, mem, drewV]
  rw [wrap64_id (by omega) (by omega)]
  refine st_h H2 0 rfl (by simp [rlc]) rfl fun w3 H3 => ?_
  try simp only [WKt, mem, drewV]
  refine ld_h H3 1 rfl rfl ?_
  generalize hM1 : ({ M with part := M.part ++ d, frag := M.frag + 1 } : LM) = M1
  have H3' : Hp w0 w3 (⟨b, 125, rlc M1 su sus s1 sa⟩ :: ⟨fb, 52, frm 1 last m f t⟩ :: (cus ++ (cu ++ (cp1 ++ (ca ++ (D ++ (cs ++ F))))))) := by rw [← hM1]; exact H3
  have hlk1 : LkP 141 144 w0 M1 su sus s1 sa cu cus cp1 ca D sv := by
    rw [← hM1]
    exact ⟨hlk.up, hlk.us, hlk.svl, hlk.dat, by rw [List.length_append]; exact hp1, hlk.acks⟩
  have hal1 : M1.acks.length < 2 ^ 30 := by rw [← hM1]; exact hal
  unfold F51_j9
  cases hl : last with
  | false =>
    have e1 : takeM M m f last d = M1 := by unfold takeM; rw [if_pos hf, hl, ← hM1]; rfl
    have e2 : takeV M m f last d = [] := by unfold takeV; rw [if_neg (fun h => by rw [hl] at h; exact absurd h.2 (by decide))]
    rw [e1, e2] at k
    simp only [WKt, mem, drewV]
    refine rin_ack (G := F) hlk1 hal1 hx (H3'.to (by intro f; simp only [I, U8, U64, ptr, List.set_cons_zero, List.set_cons_succ, List.eraseIdx_cons_zero, List.eraseIdx_cons_succ, List.map_append, List.map_cons, List.map_nil, List.sum_append, List.sum_cons, List.sum_nil]; omega)) fun w' L' H' hL' => k w' _ [] [] [] L' H' ⟨hs0, rfl, fun i y s h => by simp at h⟩ hL'
  | true =>
    have e2 : takeV M m f last d = [M.part ++ d] := by unfold takeV; rw [if_pos ⟨hf, hl⟩]
    rw [e2] at k
    simp only [WKt, mem, drewV]
    unfold F51_j10
    simp only [WKt, mem, drewV]
    refine ld_h H3' 0 rfl rfl ?_
    refine lit1s_h elT36 H3' (sl_cells hp1) fun w4 nb H4 => ?_
    refine append_h (cs := []) (n := 0) (m := 1) (xs := []) (ys := [s1]) elT36 H4 hs0 (.inr ⟨nb, 0, 1, 24, [s1], rfl, by omega, by simp, by simp, rfl⟩) (by intro c hc; simp at hc; subst hc; exact sl_sc hp1) (by omega) (by omega) fun w5 s5 co H5 h5 => ?_
    try simp only [WKt, mem, drewV]
    have H5' : Hp w0 w5 (⟨b, 125, rlc M1 su sus s1 sa⟩ :: (co ++ (cp1 ++ (cus ++ (cu ++ (ca ++ (D ++ F))))))) := H5.to (by intro f; simp only [I, U8, U64, ptr, List.set_cons_zero, List.set_cons_succ, List.eraseIdx_cons_zero, List.eraseIdx_cons_succ, List.map_append, List.map_cons, List.map_nil, List.sum_append, List.sum_cons, List.sum_nil]; omega)
    refine ld_h H5' 0 rfl rfl ?_
    have em : M1.msg = M.msg := by rw [← hM1]
    simp only [WKt, mem, drewV]
    rw [em, wrap64_id (by omega) (by omega)]
    refine st_h H5' 0 rfl (by simp [rlc]) rfl fun w7 H7 => ?_
    try simp only [WKt, mem, drewV]
    refine st_h H7 0 rfl (by simp [rlc]) rfl fun w8 H8 => ?_
    try simp only [WKt, mem, drewV]
    refine st_h H8 0 rfl (by simp [rlc]) rfl fun w9 H9 => ?_
    generalize hM2 : takeM M m f true d = M2
    have hM2' : M2 = { M with msg := M.msg + 1, frag := 0, part := [] } := by rw [← hM2]; unfold takeM; rw [if_pos hf]; rfl
    have H9' : Hp w0 w9 (⟨b, 125, rlc M2 su sus (.slice none 0 0) sa⟩ :: (co ++ (cp1 ++ (cus ++ (cu ++ (ca ++ (D ++ F))))))) := by rw [hM2', hM1.symm] at *; exact H9
    have hlk2 : LkP 141 144 w0 M2 su sus (.slice none 0 0) sa cu cus [] ca D sv := by
      rw [hM2']
      exact ⟨hlk.up, hlk.us, hlk.svl, hlk.dat, Sl.nil, hlk.acks⟩
    have hal2 : M2.acks.length < 2 ^ 30 := by rw [hM2']; exact hal
    refine rin_ack (G := co ++ (cp1 ++ F)) hlk2 hal2 hx (H9'.to (by intro f; simp only [I, U8, U64, ptr, List.set_cons_zero, List.set_cons_succ, List.eraseIdx_cons_zero, List.eraseIdx_cons_succ, List.map_append, List.map_cons, List.map_nil, List.sum_append, List.sum_cons, List.sum_nil]; omega)) fun w' L' H' hL' => k w' s5 co cp1 [s1] L' (H'.to (by intro f; simp only [I, U8, U64, ptr, List.set_cons_zero, List.set_cons_succ, List.eraseIdx_cons_zero, List.eraseIdx_cons_succ, List.map_append, List.map_cons, List.map_nil, List.sum_append, List.sum_cons, List.sum_nil]; omega)) ⟨?_, rfl, ?_⟩ ?_
    · simpa using h5
    · intro i ys s hi hs
      have h0 : i = 0 := by have := (List.getElem?_eq_some_iff.1 hi).1; simp at this; omega
      subst h0
      simp at hi hs
      subst hi; subst hs
      exact (by rw [List.length_append]; exact hp1.rdL fun c hc => hc)
    · rw [hl, hM2]; exact hL'
theorem rInput_spec {b : Nat} {M : LM} {x now : Int} {s : Value} {n : Nat} {xs : List Int} (H : Hp w0 w (L ++ F)) (hL : rLk w0 b M L) (hs : RdL w0 F 1 s n (bv xs)) (hn : n < 2 ^ 40) (hby : 0 ≤ dB xs) (hul : M.us.length < 2 ^ 30) (hal : M.acks.length < 2 ^ 30) (hp4 : M.part.length ≤ 4096)
    (hmsg : 0 ≤ M.msg ∧ M.msg < 2 ^ 62) (hfr : 0 ≤ M.frag) (hch : Chn M.us) (hpre : Pre M.us) (hr : ∀ u ∈ M.us, (0 ≤ u.m ∧ u.m < 2 ^ 62) ∧ 0 ≤ u.f ∧ u.f < 2 ^ 62) :
    Calls Pg 51 ⟨[ptr b 0, I x, s, I now]⟩ w (InPost w0 F rLk b M x xs now) := by
  have hL0 := hL
  obtain ⟨su, sus, sp, sa, cu, cus, cp, ca, D, sv, hlk, rfl⟩ := hL
  have H0 : Hp w0 w (⟨b, 125, rlc M su sus sp sa⟩ :: (cus ++ (cu ++ (cp ++ (ca ++ (D ++ F)))))) := H.to (by intro f; simp only [I, U8, U64, ptr, List.set_cons_zero, List.set_cons_succ, List.eraseIdx_cons_zero, List.eraseIdx_cons_succ, List.map_append, List.map_cons, List.map_nil, List.sum_append, List.sum_cons, List.sum_nil]; omega)
  have fail : ∀ {w' : World} {er : Int}, Hp w0 w' (⟨b, 125, rlc M su sus sp sa⟩ :: (cus ++ (cu ++ (cp ++ (ca ++ (D ++ F)))))) → er ≠ 0 → inE M x xs now = er → InPost w0 F rLk b M x xs now (.returned (.tuple ⟨[.slice none 0 0, I er]⟩)) w' := by
    intro w' er H' hne he
    have hne' : inE M x xs now ≠ 0 := by rw [he]; exact hne
    refine ⟨_, [], [], [], ⟨b, 125, rlc M su sus sp sa⟩ :: (cu ++ (cus ++ (cp ++ (ca ++ D)))), by rw [he], H'.to (by intro f; simp only [I, U8, U64, ptr, List.set_cons_zero, List.set_cons_succ, List.eraseIdx_cons_zero, List.eraseIdx_cons_succ, List.map_append, List.map_cons, List.map_nil, List.sum_append, List.sum_cons, List.sum_nil]; omega), ?_, ?_⟩
    · unfold inV; rw [if_pos hne']; exact MsgP.nil
    · unfold inM; rw [if_pos hne']; exact hL0
  apply F51_calls
  unfold F51 F51_j11
  simp only [WKt, mem, drewV]
  by_cases h1 : x < 0
  · simp only [decide_eq_true h1, WKt, mem, drewV]
    exact fail H0 (by decide) (by unfold inE; rw [if_pos (.inl h1)])
  simp only [decide_eq_false h1, WKt, mem, drewV]
  refine ld_h H0 0 rfl rfl ?_
  simp only [lenS_sl hlk.up, WKt, mem, drewV]
  refine cnd_decide (fun h2 => ?_) (fun h2 => ?_)
  · exact fail H0 (by decide) (by unfold inE; rw [if_pos (.inr h2)])
  unfold F51_j1
  have hno : ¬ (x < 0 ∨ (M.up.length : Int) ≤ x) := by omega
  refine cal_h (rtime_spec (now := now) H0) ?_
  rintro e w1 ⟨rfl, rfl⟩
  simp only [WKt, mem, drewV]
  by_cases h3 : timeE M now ≠ 0
  · simp only [decide_eq_true h3, WKt, mem, drewV]
    exact fail H0 h3 (by unfold inE; rw [if_neg hno, if_pos h3])
  simp only [decide_eq_false h3, WKt, mem, drewV]
  unfold F51_j2
  have H0' : Hp w0 w1 ((⟨b, 125, rlc M su sus sp sa⟩ :: (cus ++ (cu ++ (cp ++ (ca ++ D))))) ++ F) := H0.to (by intro f; simp only [I, U8, U64, ptr, List.set_cons_zero, List.set_cons_succ, List.eraseIdx_cons_zero, List.eraseIdx_cons_succ, List.map_append, List.map_cons, List.map_nil, List.sum_append, List.sum_cons, List.sum_nil]; omega)
  refine cal_h (rDecode_spec (hs.mono fun c hc => List.mem_append_right _ hc) hn hby H0') ?_
  rintro e w2 ⟨k, last, m, f, t, n', ys, cs, rfl, H2, hS, z1, o1⟩
  simp only [WKt, mem, drewV]
  have htsc := (hS.rdL (L := cs) (w0 := w0) fun c hc => hc)
  refine al_h H2 (z := zfrm) (by kernel_rfl) fun w3 fb H3 => ?_
  refine stA_h H3 0 rfl rfl rfl (frm_scalar (rd_cells htsc).2) fun w4 H4 => ?_
  simp only [List.set_cons_zero] at H4
  have hE : inE M x xs now = decE xs := by unfold inE; rw [if_neg hno, if_neg h3]
  by_cases h4 : decE xs ≠ 0
  · simp only [decide_eq_true h4, WKt, mem, drewV]
    exact fail (H4.to (by intro f; simp only [I, U8, U64, ptr, List.set_cons_zero, List.set_cons_succ, List.eraseIdx_cons_zero, List.eraseIdx_cons_succ, List.map_append, List.map_cons, List.map_nil, List.sum_append, List.sum_cons, List.sum_nil]; omega)) h4 hE
  simp only [decide_eq_false h4, WKt, mem, drewV]
  replace h4 := Decidable.not_not.1 h4
  obtain ⟨rfl, rfl, rfl, rfl, hn', rfl⟩ := o1 h4
  obtain ⟨g1, g2, g3⟩ := decE_zero h4
  unfold F51_j3
  have H4' : Hp w0 w4 (⟨b, 125, rlc M su sus sp sa⟩ :: ⟨fb, 52, frm (dK xs) (decide (dB xs = 1)) (dM xs) (dF xs) t⟩ :: (cus ++ (cu ++ (cp ++ (ca ++ (D ++ (cs ++ F))))))) := H4.to (by intro f; simp only [I, U8, U64, ptr, List.set_cons_zero, List.set_cons_succ, List.eraseIdx_cons_zero, List.eraseIdx_cons_succ, List.map_append, List.map_cons, List.map_nil, List.sum_append, List.sum_cons, List.sum_nil]; omega)
  simp only [WKt, mem, drewV]
  refine st_h H4' 0 rfl (by simp [rlc]) rfl fun w5 H5 => ?_
  have H5' : Hp w0 w5 (⟨b, 125, rlc { M with clock := now } su sus sp sa⟩ :: ⟨fb, 52, frm (dK xs) (decide (dB xs = 1)) (dM xs) (dF xs) t⟩ :: (cus ++ (cu ++ (cp ++ (ca ++ (D ++ (cs ++ F))))))) := H5
  try simp only [WKt, mem, drewV]
  refine ld_h H5' 1 rfl rfl ?_
  simp only [WKt, mem, drewV]
  have hlk5 : LkP 141 144 w0 { M with clock := now } su sus sp sa cu cus cp ca D sv := ⟨hlk.up, hlk.us, hlk.svl, hlk.dat, hlk.part, hlk.acks⟩
  have hE0 : inE M x xs now = 0 := by rw [hE]; exact h4
  refine cnd_decide (fun h5 => ?_) (fun h5 => ?_)
  · refine ldA_h H5' 1 rfl rfl ?_
    have H5'' : Hp w0 w5 ((⟨b, 125, rlc { M with clock := now } su sus sp sa⟩ :: (cu ++ (cus ++ (cp ++ (ca ++ D))))) ++ (⟨fb, 52, frm (dK xs) (decide (dB xs = 1)) (dM xs) (dF xs) t⟩ :: (cs ++ F))) := H5'.to (by intro f; simp only [I, U8, U64, ptr, List.set_cons_zero, List.set_cons_succ, List.eraseIdx_cons_zero, List.eraseIdx_cons_succ, List.map_append, List.map_cons, List.map_nil, List.sum_append, List.sum_cons, List.sum_nil]; omega)
    refine cal_h (racknowledge_spec H5'' ⟨su, sus, sp, sa, cu, cus, cp, ca, D, sv, hlk5, rfl⟩ hul hch hpre hr) ?_
    rintro e w6 ⟨L', rfl, H6, hL'⟩
    simp only [WKt, mem, drewV]
    refine lit0_h elT36 H6 fun w7 s0 H7 hs0 => ?_
    refine ⟨_, [], [], [], L', by rw [hE0], H7.to (by intro f; simp only [I, U8, U64, ptr, List.set_cons_zero, List.set_cons_succ, List.eraseIdx_cons_zero, List.eraseIdx_cons_succ, List.map_append, List.map_cons, List.map_nil, List.sum_append, List.sum_cons, List.sum_nil]; omega), ?_, ?_⟩
    · unfold inV; rw [if_neg (by rw [hE0]; decide), if_pos h5]; exact ⟨hs0, rfl, fun i y s h => by simp at h⟩
    · unfold inM; rw [if_neg (by rw [hE0]; decide), if_pos h5]; exact hL'
  · have hk1 : dK xs = 1 := by
      rcases g3.1 with h | h
      · exact h
      · exact absurd h.1 h5
    have hdl : (xs.drop 24).length = n' := by rw [List.length_drop]; omega
    rw [hk1] at H5'
    refine rin_data (M := { M with clock := now }) (m := dM xs) (f := dF xs) (last := decide (dB xs = 1)) (d := xs.drop 24) hlk5 hal (by omega) hdl (by omega) hp4 hS hmsg ⟨?_, hfr⟩ H5' fun w' s co Db svm L' H' hm hL' => ?_
    · have := g3.2.2.2.2; omega
    · refine ⟨s, co, Db, svm, L', by rw [hE0], H', ?_, ?_⟩
      · unfold inV; rw [if_neg (by rw [hE0]; decide), if_neg h5]; exact hm
      · unfold inM; rw [if_neg (by rw [hE0]; decide), if_neg h5]; exact hL'
end
end Go.Proofs.Ytmnpndgmfmjfhaa.Den
end

section
set_option linter.unusedVariables false
set_option linter.unusedSimpArgs false
set_option maxRecDepth 8000
namespace Go.Proofs.Ytmnpndgmfmjfhaa.Den
open Go Go.RowKit
section
variable {w w' : World} {w0 : Base} {F L : List Chunk} {R : ER}
/-! ### slices of bytes compared -/
theorem eq_l {s t : Value} {n : Nat} {xs ys : List Int} (hn : n < 2 ^ 60) (hxl : xs.length = n) (hyl : ys.length = n) : ∀ (d i : Nat) (w : World), Hp w0 w L → RdL w0 L 1 s n (bv xs) → RdL w0 L 1 t n (bv ys) → i + d = n →
    (∀ w', Hp w0 w' L → R (.returned (.bool (decide (xs.drop i = ys.drop i)))) w') → F19_l1 R (d + 1) s t (I (n : Int)) (I (i : Int)) w := by
  intro d
  induction d with
  | zero =>
    intro i w H h1 h2 hi k
    rw [F19_l1_succ]
    unfold F19_b1 F19_j2
    simp only [WKt, mem, drewV, show decide ((i : Int) < (n : Int)) = false from decide_eq_false (by omega)]
    have := k w H
    rw [List.drop_eq_nil_of_le (by omega), List.drop_eq_nil_of_le (by omega)] at this
    exact this
  | succ d ih =>
    intro i w H h1 h2 hi k
    rw [F19_l1_succ]
    unfold F19_b1 F19_j5
    have hx : i < xs.length := by omega
    have hy : i < ys.length := by omega
    simp only [WKt, mem, drewV, show decide ((i : Int) < (n : Int)) = true from decide_eq_true (by omega)]
    refine ix1_rd (h1.rd H.drew) (bv_get (getElem_of_lt hx)) ?_
    refine ix1_rd (h2.rd H.drew) (bv_get (getElem_of_lt hy)) ?_
    try simp only [WKt, mem, drewV]
    refine cnd_decide (fun h => ?_) (fun h => ?_)
    · have := k w.drew H.drew
      rw [List.drop_eq_getElem_cons hx, List.drop_eq_getElem_cons hy, show decide (xs[i] :: xs.drop (i + 1) = ys[i] :: ys.drop (i + 1)) = false from decide_eq_false (fun hh => h (List.cons.inj hh).1)] at this
      exact this
    · rw [wrap64_id (by omega) (by omega), show (i : Int) + 1 = ((i + 1 : Nat) : Int) from by omega]
      refine ih (i + 1) w.drew H.drew h1 h2 (by omega) fun w' H' => ?_
      have := k w' H'
      rw [List.drop_eq_getElem_cons hx, List.drop_eq_getElem_cons hy] at this
      have e : xs[i] = ys[i] := Decidable.not_not.1 h
      have e2 : decide (xs[i] :: xs.drop (i + 1) = ys[i] :: ys.drop (i + 1)) = decide (xs.drop (i + 1) = ys.drop (i + 1)) := by
        rw [e]; exact decide_eq_decide.2 ⟨fun h => (List.cons.inj h).2, fun h => by rw [h]⟩
      rw [e2] at this; exact this
theorem Equal_spec {s t : Value} {n m : Nat} {xs ys : List Int} (H : Hp w0 w L) (h1 : RdL w0 L 1 s n (bv xs)) (h2 : RdL w0 L 1 t m (bv ys)) (hn : n < 2 ^ 60) :
    Calls Pg 19 ⟨[s, t]⟩ w fun e w' => e = .returned (.bool (decide (xs = ys))) ∧ Hp w0 w' L := by
  have e1 : xs.length = n := by have := h1.length; rw [bv_length] at this; omega
  have e2 : ys.length = m := by have := h2.length; rw [bv_length] at this; omega
  apply F19_calls
  unfold F19 F19_j1 F19_j3 F19_j4
  simp only [lenS_rdL h1, lenS_rdL h2, WKt, mem, drewV]
  refine cnd_decide (fun h => ?_) (fun h => ?_)
  · refine ⟨?_, H⟩
    rw [decide_eq_false]
    intro hh; apply h; rw [← e1, ← e2, hh]
  · have hmn : m = n := by omega
    subst hmn
    exact ⟨m + 1, eq_l hn e1 e2 m 0 w H h1 h2 (by omega) fun w' H' => ⟨rfl, H'⟩⟩
/-! ### frames -/
theorem frame_spec {k m f : Int} {last : Bool} {s : Value} (H : Hp w0 w F) (hs : s.cells = #[s]) (hsc : scalar s = true) :
    Calls Pg 18 ⟨[.agg ⟨frm k last m f s⟩]⟩ w fun e w' => e = .returned (.agg ⟨frm k last m f s⟩) ∧ Hp w0 w' F := by
  apply F18_calls
  unfold F18
  refine bxa_h H fun w1 b H1 => ?_
  refine al_h H1 (z := zfrm) (by kernel_rfl) fun w2 c H2 => ?_
  simp only [WKt, mem, drewV]
  refine ld_h H2 1 rfl rfl ?_
  refine ld_h H2 1 rfl rfl ?_
  refine ld_h H2 1 rfl rfl ?_
  refine ld_h H2 1 rfl rfl ?_
  refine ld_h H2 1 rfl rfl ?_
  simp only [bldF hs, WKt, mem, drewV]
  refine stA_h H2 0 rfl rfl rfl (frm_scalar hsc) fun w3 H3 => ?_
  refine ldA_h H3 0 rfl rfl ?_
  exact ⟨rfl, H3.tail.tail⟩
theorem sameFrame_true {k m f : Int} {last : Bool} {s t : Value} {n n' : Nat} {xs : List Int} (H : Hp w0 w F) (h1 : RdL w0 F 1 s n (bv xs)) (h2 : RdL w0 F 1 t n' (bv xs)) (hn : n < 2 ^ 60) :
    Calls Pg 21 ⟨[.agg ⟨frm k last m f s⟩, .agg ⟨frm k last m f t⟩]⟩ w fun e w' => e = .returned (.bool true) ∧ Hp w0 w' F := by
  apply F21_calls
  unfold F21
  refine bxa_h H fun w1 b H1 => ?_
  refine bxa_h H1 fun w2 c H2 => ?_
  simp only [WKt, mem, drewV]
  refine ld_h H2 1 rfl rfl ?_
  refine ld_h H2 0 rfl rfl ?_
  simp only [decide_true, WKt, mem, drewV]
  refine ld_h H2 1 rfl rfl ?_
  refine ld_h H2 0 rfl rfl ?_
  have eb : binB .eql (.bool last) (.bool last) = some (.bool true) := by cases last <;> rfl
  simp only [eb, decide_true, WKt, mem, drewV]
  refine ld_h H2 1 rfl rfl ?_
  refine ld_h H2 0 rfl rfl ?_
  simp only [decide_true, WKt, mem, drewV]
  refine ld_h H2 1 rfl rfl ?_
  refine ld_h H2 0 rfl rfl ?_
  simp only [decide_true, WKt, mem, drewV]
  refine ld_h H2 1 rfl rfl ?_
  refine ld_h H2 0 rfl rfl ?_
  refine cal_h (Equal_spec H2 (h1.mono (fun c hc => by simp [hc])) (h2.mono (fun c hc => by simp [hc])) hn) ?_
  rintro e w3 ⟨rfl, H3⟩
  simp only [decide_true, WKt, mem, drewV]
  exact ⟨trivial, H3.tail.tail⟩
/-! ### a nil link -/
theorem nil_send {s : Value} {now : Int} (H : Hp w0 w F) : Calls Pg 12 ⟨[.pointer none, s, I now]⟩ w fun e w' => e = .returned (.tuple ⟨[I 0, I 35]⟩) ∧ Hp w0 w' F := by
  apply F12_calls
  unfold F12
  refine bxs_h H rfl fun w1 lb H1 => ?_
  refine ld_h H1 0 rfl rfl ?_
  simp only [WKt, mem, drewV]
  exact ⟨trivial, H1.tail⟩
theorem nil_input {s : Value} {x now : Int} (H : Hp w0 w F) : Calls Pg 23 ⟨[.pointer none, I x, s, I now]⟩ w fun e w' => e = .returned (.tuple ⟨[.slice none 0 0, I 35]⟩) ∧ Hp w0 w' F := by
  apply F23_calls
  unfold F23
  simp only [WKt, mem, drewV]
  exact ⟨trivial, H⟩
theorem nil_output {now : Int} (H : Hp w0 w F) : Calls Pg 14 ⟨[.pointer none, I now]⟩ w fun e w' => e = .returned (.tuple ⟨[.slice none 0 0, I 35]⟩) ∧ Hp w0 w' F := by
  apply F14_calls
  unfold F14
  simp only [WKt, mem, drewV]
  exact ⟨trivial, H⟩
theorem nil_next (H : Hp w0 w F) : Calls Pg 13 ⟨[.pointer none]⟩ w fun e w' => e = .returned (.tuple ⟨[I 0, .bool false]⟩) ∧ Hp w0 w' F := by
  apply F13_calls
  unfold F13
  simp only [WKt, mem, drewV]
  exact ⟨trivial, H⟩
theorem nil_set {x : Int} {f : Bool} (H : Hp w0 w F) : Calls Pg 24 ⟨[.pointer none, I x, .bool f]⟩ w fun e w' => e = .returned (I 35) ∧ Hp w0 w' F := by
  apply F24_calls
  unfold F24
  simp only [WKt, mem, drewV]
  exact ⟨trivial, H⟩
theorem nil_ack (H : Hp w0 w F) : Calls Pg 25 ⟨[.pointer none]⟩ w fun e w' => e = .returned (I 0) ∧ Hp w0 w' F := by
  apply F25_calls
  unfold F25
  simp only [WKt, mem, drewV]
  exact ⟨trivial, H⟩
theorem nil_broken (H : Hp w0 w F) : Calls Pg 15 ⟨[.pointer none]⟩ w fun e w' => e = .returned (.bool false) ∧ Hp w0 w' F := by
  apply F15_calls
  unfold F15
  simp only [WKt, mem, drewV]
  exact ⟨trivial, H⟩
theorem LinksNil_walk {k x now : Int} {fl : Bool} {s : Value} (H : Hp w0 w F) : Calls Pg 6 ⟨[.agg ⟨[I k, I x, .bool fl, s, I now]⟩]⟩ w fun e w' => e = .returned (.bool true) ∧ Hp w0 w' F := by
  apply F6_calls
  unfold F6
  refine bxa_h H fun w1 b H1 => ?_
  simp only [WKt, mem, drewV]
  refine ld_h H1 0 rfl rfl ?_
  refine ld_h H1 0 rfl rfl ?_
  refine cal_h (nil_send H1) ?_
  rintro e w2 ⟨rfl, H2⟩
  simp only [WKt, mem, drewV]
  refine ld_h H2 0 rfl rfl ?_
  refine ld_h H2 0 rfl rfl ?_
  refine ld_h H2 0 rfl rfl ?_
  refine cal_h (nil_input H2) ?_
  rintro e w3 ⟨rfl, H3⟩
  simp only [WKt, mem, drewV]
  refine ld_h H3 0 rfl rfl ?_
  refine cal_h (nil_output H3) ?_
  rintro e w4 ⟨rfl, H4⟩
  simp only [WKt, mem, drewV]
  refine cal_h (nil_next H4) ?_
  rintro e w5 ⟨rfl, H5⟩
  simp only [decide_true, WKt, mem, drewV]
  refine ld_h H5 0 rfl rfl ?_
  refine ld_h H5 0 rfl rfl ?_
  refine cal_h (nil_set H5) ?_
  rintro e w6 ⟨rfl, H6⟩
  simp only [decide_true, WKt, mem, drewV]
  refine cal_h (nil_ack H6) ?_
  rintro e w7 ⟨rfl, H7⟩
  simp only [decide_true, WKt, mem, drewV]
  refine cal_h (nil_broken H7) ?_
  rintro e w8 ⟨rfl, H8⟩
  simp only [decide_true, WKt, mem, drewV]
  refine cal_h (awake_spec H8) ?_
  rintro e w9 ⟨rfl, H9⟩
  simp only [WKt, mem, drewV]
  exact ⟨trivial, H9.tail⟩
end
end Go.Proofs.Ytmnpndgmfmjfhaa.Den
end
