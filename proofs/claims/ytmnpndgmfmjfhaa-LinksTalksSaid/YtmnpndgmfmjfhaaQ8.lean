/- Links: Send, walked. Conditions: none. -/
import Derived.Test.YtmnpndgmfmjfhaaQ7
section
set_option linter.unusedVariables false
set_option linter.unusedSimpArgs false
set_option maxRecDepth 8000
namespace Go.Proofs.Ytmnpndgmfmjfhaa.Den
open Go Go.RowKit
/-- The pieces of a message. -/
def pcs : Nat → Nat → List Int → List (List Int)
  | 0, _, _ => []
  | n + 1, sz, d => if d.length ≤ sz then [d] else d.take sz :: pcs n sz (d.drop sz)
def addU (sent : Int) : Nat → List (List Int) → List UM
  | _, [] => []
  | k, p :: ps => ⟨false, sent, (k : Int), p, -1⟩ :: addU sent (k + 1) ps
def setLast (l : List UM) : List UM := match l[l.length - 1]? with
  | some u => l.set (l.length - 1) { u with last := true }
  | none => l
def sendE (M : LM) (d : List Int) (now : Int) : Int := if 4096 < d.length then 20 else if timeE M now ≠ 0 then timeE M now else if 64 ≤ M.sent - M.done then 2 else if 1099511627776 ≤ M.sent then 18 else 0
def sendM (M : LM) (d : List Int) (now : Int) : LM :=
  if sendE M d now = 0 then { M with clock := now, sent := M.sent + 1, us := setLast (M.us ++ addU (M.sent + 1) 0 (pcs (d.length + 1) (M.size - 24).toNat d)) } else M
section
variable {w w' : World} {w0 : Base} {F L : List Chunk} {R : ER}
theorem Ext.putObj (w : World) (k : Nat) (o : Obj) : Ext [k] w (w.putObj k o) :=
  ⟨rfl, rfl, rfl, by simp, fun j hj hn => World.putObj_heap_other (by simpa using hn), Nat.le_refl _⟩
/-- A pinned block is changed. -/
theorem Hp.repin {b : Nat} {o o' : Obj} (H : Hp { w0 with pins := (b, o) :: w0.pins } w L) (hn : ∀ p ∈ w0.pins, p.1 ≠ b) : Hp { w0 with pins := (b, o') :: w0.pins } (w.putObj b o') L := by
  obtain ⟨H1, h2, h3, h4⟩ := H.pinOff
  have he := Ext.putObj w b o'
  have hlt := (Array.getElem?_eq_some_iff.1 h2).1
  have Hn : Hp w0 (w.putObj b o') L := by
    refine ⟨⟨H1.ext.os, H1.ext.tape, H1.ext.output, by have := H1.ext.size; simpa using this, fun k hk _ => ?_, H1.ext.drawn⟩, fun c hc => ⟨(H1.blk c hc).1, (H1.blk c hc).2.ext he (by simpa using h3 c hc)⟩, H1.nd, fun p hp => ⟨(H1.pin p hp).1, ?_, (H1.pin p hp).2.2⟩⟩
    · rw [World.putObj_heap_other (by omega)]; exact H1.ext.block k hk (by simp)
    · rw [World.putObj_heap_other (hn p hp)]; exact (H1.pin p hp).2.1
  exact Hn.pinOn h4 (World.putObj_heap_same hlt) h3
theorem min2I_nat (a b : Nat) : min2I (I (a : Int)) (I (b : Int)) = some (I ((min a b : Nat) : Int)) := by
  simp only [min2I]; congr 2; split <;> omega
theorem rd_cells {s : Value} {n : Nat} {ys : List Value} (h : RdL w0 L 1 s n ys) : s.cells = #[s] ∧ scalar s = true := by
  rcases h with (⟨c, rfl, h0, rfl⟩ | ⟨a, c, rfl, hm, h⟩) | ⟨b, o, c, el, l, rfl, _⟩ <;> exact ⟨rfl, rfl⟩
theorem pieces_spec {s : Value} {n : Nat} {d : List Int} {size : Int} (H : Hp w0 w F) (hs : RdL w0 F 1 s n (bv d)) :
    Calls Pg 35 ⟨[s, I size]⟩ w fun e w' => ∃ db zb, e = .returned (.func (.func 61) ⟨[]⟩ ⟨[ptr zb 0, ptr db 0]⟩) ∧ Hp w0 w' (⟨zb, 3, [I size]⟩ :: ⟨db, 24, [s]⟩ :: F) := by
  apply F35_calls
  unfold F35
  refine bxs_h H (rd_cells hs).1 fun w1 db H1 => ?_
  refine bxs_h H1 rfl fun w2 zb H2 => ?_
  exact ⟨db, zb, rfl, H2⟩
theorem slS_pre {s : Value} {n k : Nat} {xs : List Int} (hs : RdL w0 F 1 s n (bv xs)) (hk : k ≤ n) : ∃ s', slS 1 s none (some (I (k : Int))) = some s' ∧ RdL w0 F 1 s' k (bv (xs.take k)) := by
  by_cases hn : 0 < n
  · obtain ⟨s', h1, h2, _⟩ := slS_to hs rfl hn hk; exact ⟨s', h1, h2⟩
  · have hk0 : k = 0 := by omega
    have hn0 : n = 0 := by omega
    subst hk0; subst hn0
    have hl := hs.length
    rw [bv_length] at hl
    have hx : xs = [] := by cases xs with | nil => rfl | cons a b => simp at hl
    subst hx
    refine ⟨s, ?_, by simpa [bv] using hs⟩
    rcases hs with (⟨c, rfl, h0, _⟩ | ⟨a, c, rfl, hm, h⟩) | ⟨b, o, c, el, l, rfl, _⟩
    · simp only [slS, boundO]; simp
    · simp only [slS, boundO]; simp [Addr.add]
    · simp only [slS, boundO]; simp [add_mk]
theorem slS_suf {s : Value} {n k : Nat} {xs : List Int} (hs : RdL w0 F 1 s n (bv xs)) (hn : 0 < n) (hk : k ≤ n) : ∃ s', slS 1 s (some (I (k : Int))) none = some s' ∧ RdL w0 F 1 s' (n - k) (bv (xs.drop k)) := by
  obtain ⟨s', h1, h2, _⟩ := slS_from hs rfl hn hk; exact ⟨s', h1, h2⟩
/-- The link's chunks behind its block, with the units ahead. -/
theorem bldU {m f : Int} {s : Value} (h : s.cells = #[s]) : bldO [I 0, .bool false, I 0, I 0, .slice none 0 0] [(0, 1, I 1), (2, 1, I m), (3, 1, I f), (4, 1, s)] = some (.agg ⟨frm 1 false m f s⟩) := by
  simp [bldO, buildL, h, cellsI, cellsB, cellsA, frm]
theorem bldU2 {m f : Int} {s : Value} : bldO [I 0, .bool false, I 0, I 0, .slice none 0 0, I 0] [(0, 5, .agg ⟨frm 1 false m f s⟩), (5, 1, I (-1))] = some (.agg ⟨ucell ⟨false, m, f, [], -1⟩ s⟩) := by
  simp [bldO, buildL, cellsI, cellsB, cellsA, frm, ucell]
/-- One round of Send. -/
theorem send_b1 {lb b k : Nat} {M : LM} {su sus sp sa p : Value} {cu cus cp ca D : List Chunk} {sv : List Value} {d : List Int} {N Bk Rt : WP} (hlk : LkP 101 107 w0 M su sus sp sa cu cus cp ca D sv)
    (H : Hp w0 w (⟨lb, 31, [ptr b 0]⟩ :: ⟨b, 96, lkc M su sus sp sa⟩ :: (cus ++ (cu ++ (cp ++ (ca ++ (D ++ F))))))) (hp : RdL w0 F 1 p d.length (bv d)) (hd : d.length < 2 ^ 30) (hus : M.us.length < 2 ^ 30)
    (hN : ∀ w' sus' cus' D' sv', LkP 101 107 w0 { M with us := M.us ++ [⟨false, M.sent, (k : Int), d, -1⟩] } su sus' sp sa cu cus' cp ca D' sv' →
      Hp w0 w' (⟨lb, 31, [ptr b 0]⟩ :: ⟨b, 96, lkc { M with us := M.us ++ [⟨false, M.sent, (k : Int), d, -1⟩] } su sus' sp sa⟩ :: (cus' ++ (cu ++ (cp ++ (ca ++ (D' ++ F)))))) → N w') :
    F12_b1 noR N Bk Rt (ptr lb 0) (I (k : Int)) p w := by
  unfold F12_b1
  have H0 := H.drew
  simp only [WKt, mem, drewV]
  refine ld_h H0 0 rfl rfl ?_
  refine ld_h H0 0 rfl rfl ?_
  simp only [WKt, mem, drewV]
  refine ld_h H0 1 rfl rfl ?_
  refine ld_h H0 0 rfl rfl ?_
  simp only [WKt, mem, drewV]
  refine ld_h H0 1 rfl rfl ?_
  refine cal_h (Clone_spec (hp.mono (fun c hc => by simp [hc])) (by omega) H0) ?_
  rintro e w1 ⟨s', cs', rfl, H1, hs'⟩
  have H1' : Hp w0 w1 (⟨lb, 31, [ptr b 0]⟩ :: ⟨b, 96, lkc M su sus sp sa⟩ :: (cus ++ (cu ++ (cp ++ (ca ++ ((cs' ++ D) ++ F)))))) := H1.to (by intro f; simp only [I, U8, U64, ptr, List.set_cons_zero, List.set_cons_succ, List.eraseIdx_cons_zero, List.eraseIdx_cons_succ, List.map_append, List.map_cons, List.map_nil, List.sum_append, List.sum_cons, List.sum_nil]; omega)
  simp only [ret_k]
  simp only [rd1_t (H1'.cell 0 (o := 0) rfl rfl), rd1_t (H1'.cell 1 (o := 5) rfl rfl), rd1_t (H1'.cell 1 (o := 6) rfl rfl), bldU (sl_cells hs'), bldU2, WKt, mem, drewV]
  refine lit1_h (v := .agg ⟨ucell ⟨false, M.sent, (k : Int), [], -1⟩ s'⟩) elT93 H1' rfl (by omega) fun w2 nb H2 => ?_
  have H2' : Hp w0 w2 (⟨lb, 31, [ptr b 0]⟩ :: ⟨b, 96, lkc M su sus sp sa⟩ :: (⟨nb, 101, ucell ⟨false, M.sent, (k : Int), [], -1⟩ s'⟩ :: (cus ++ (cu ++ (cp ++ (ca ++ ((cs' ++ D) ++ F))))))) := H2.rot2
  simp only [rd1_t (H2'.cell 0 (o := 0) rfl rfl), rd1_t (H2'.cell 1 (o := 5) rfl rfl), WKt, mem, drewV]
  have H2c : Hp w0 w2 (cus ++ (⟨lb, 31, [ptr b 0]⟩ :: ⟨b, 96, lkc M su sus sp sa⟩ :: (⟨nb, 101, ucell ⟨false, M.sent, (k : Int), [], -1⟩ s'⟩ :: (cu ++ (cp ++ (ca ++ ((cs' ++ D) ++ F))))))) := H2'.to (by intro f; simp only [I, U8, U64, ptr, List.set_cons_zero, List.set_cons_succ, List.eraseIdx_cons_zero, List.eraseIdx_cons_succ, List.map_append, List.map_cons, List.map_nil, List.sum_append, List.sum_cons, List.sum_nil]; omega)
  refine append_h elT93 H2c hlk.us (m := 1) (ys := ucell ⟨false, M.sent, (k : Int), [], -1⟩ s') (.inr ⟨nb, 0, 1, 101, ucell ⟨false, M.sent, (k : Int), [], -1⟩ s', rfl, by omega, by simp, by simp [ucell], rfl⟩)
    (by intro c hc; simp only [ucell, List.mem_cons, List.not_mem_nil, or_false] at hc; rcases hc with rfl | rfl | rfl | rfl | rfl | rfl <;> first | rfl | exact sl_scalar hs') (by omega) (by omega) fun w3 s3 cs3 H3 h3 => ?_
  have H3' : Hp w0 w3 (⟨lb, 31, [ptr b 0]⟩ :: ⟨b, 96, lkc M su sus sp sa⟩ :: (cs3 ++ (cu ++ (cp ++ (ca ++ ((cs' ++ D) ++ F)))))) := H3.to (by intro f; simp only [I, U8, U64, ptr, List.set_cons_zero, List.set_cons_succ, List.eraseIdx_cons_zero, List.eraseIdx_cons_succ, List.map_append, List.map_cons, List.map_nil, List.sum_append, List.sum_cons, List.sum_nil]; omega)
  simp only [rd1_t (H3'.cell 0 (o := 0) rfl rfl), WKt, mem, drewV]
  refine st_h H3' 1 rfl (by simp [lkc]) (sl_scalar h3) fun w4 H4 => ?_
  refine hN w4 s3 cs3 (cs' ++ D) (sv ++ [s']) ⟨hlk.up, ?_, by simp [hlk.svl], ?_, hlk.part, hlk.acks⟩ H4
  · rw [ucells_append hlk.svl]
    have e : ucells [⟨false, M.sent, (k : Int), d, -1⟩] [s'] = ucell ⟨false, M.sent, (k : Int), [], -1⟩ s' := by simp [ucells, ucell]
    rw [e, List.length_append]
    exact h3
  · intro i u s hu hs
    by_cases hi : i < M.us.length
    · rw [List.getElem?_append_left hi] at hu
      rw [List.getElem?_append_left (by rw [hlk.svl]; exact hi)] at hs
      obtain ⟨g1, g2, g3⟩ := hlk.dat i u s hu hs
      exact ⟨g1.mono (fun c hc => by simp [hc]), g2, g3⟩
    · rw [List.getElem?_append_right (by omega)] at hu
      rw [List.getElem?_append_right (by rw [hlk.svl]; omega), hlk.svl] at hs
      have hi0 : i - M.us.length = 0 := by
        have := (List.getElem?_eq_some_iff.1 hu).1
        simp at this; omega
      rw [hi0] at hu hs
      simp only [List.getElem?_cons_zero, Option.some.injEq] at hu hs
      subst hu; subst hs
      exact ⟨hs'.rdL (fun c hc => by simp [hc]), sl_cells hs', sl_scalar hs'⟩
theorem addU_length (sent : Int) : ∀ (k : Nat) (ps : List (List Int)), (addU sent k ps).length = ps.length
  | _, [] => rfl
  | k, p :: ps => by simp [addU, addU_length sent (k + 1) ps]
theorem pcs_length : ∀ (n sz : Nat) (d : List Int), (pcs n sz d).length ≤ n
  | 0, _, _ => Nat.le_refl _
  | n + 1, sz, d => by
    unfold pcs; split
    · simp
    · have := pcs_length n sz (d.drop sz); simp; omega
/-- The iterator and its rounds. -/
theorem send_loop {l lb b zb db sz : Nat} {rc : Loop} {su sp sa x6 x7 x54 : Value} {cu cp ca : List Chunk} {M0 : LM} {US : List UM} (hsz : 1 ≤ sz) (hpn : ∀ p ∈ w0.pins, p.1 ≠ l)
    (hy : YieldIs Pg l rc 0 fun B N Bk Rt ys => rbm2 (links_Link_Send_rb (ptr lb 0) x6 x7 x54 B N Bk Rt) ys) (hUS : US.length < 2 ^ 30)
    (hq : ∀ w' s' sus' cus' D' sv', LkP 101 107 w0 { M0 with us := US } su sus' sp sa cu cus' cp ca D' sv' →
      Hp { w0 with pins := (l, .loop rc) :: w0.pins } w' (⟨zb, 3, [I (sz : Int)]⟩ :: ⟨db, 24, [s']⟩ :: ⟨lb, 31, [ptr b 0]⟩ :: ⟨b, 96, lkc { M0 with us := US } su sus' sp sa⟩ :: (cus' ++ (cu ++ (cp ++ (ca ++ (D' ++ F)))))) → R (.returned (.tuple ⟨[]⟩)) w') :
    ∀ (fuel k : Nat) (rest : List Int) (s : Value) (us : List UM) (w : World) (sus : Value) (cus D : List Chunk) (sv : List Value), rest.length < fuel → rest.length < 2 ^ 30 → k + rest.length < 2 ^ 31 →
      us ++ addU M0.sent k (pcs fuel sz rest) = US → LkP 101 107 w0 { M0 with us := us } su sus sp sa cu cus cp ca D sv → RdL w0 F 1 s rest.length (bv rest) →
      Hp { w0 with pins := (l, .loop rc) :: w0.pins } w (⟨zb, 3, [I (sz : Int)]⟩ :: ⟨db, 24, [s]⟩ :: ⟨lb, 31, [ptr b 0]⟩ :: ⟨b, 96, lkc { M0 with us := us } su sus sp sa⟩ :: (cus ++ (cu ++ (cp ++ (ca ++ (D ++ F)))))) →
      F61_l1 R fuel (yv l) (ptr zb 0) (ptr db 0) (I (k : Int)) w
  | 0, k, rest, s, us, w, sus, cus, D, sv, hf, _, _, _, _, _, _ => by omega
  | fuel + 1, k, rest, s, us, w, sus, cus, D, sv, hf, hr, hk, hU, hlk, hs, H => by
    rw [F61_l1_succ]
    unfold F61_b1
    refine ld_h H 0 rfl rfl ?_
    refine ld_h H 1 rfl rfl ?_
    simp only [lenS_rdL hs, min2I_nat, WKt, mem, drewV]
    refine ld_h H 1 rfl rfl ?_
    obtain ⟨p, e1, g1⟩ := slS_pre hs (Nat.min_le_right sz rest.length)
    simp only [e1, WKt, mem, drewV]
    have hl := H.pinOff.2.1
    refine hy _ _ _ _ hl ?_
    have hpl : (rest.take (min sz rest.length)).length = min sz rest.length := by rw [List.length_take]; omega
    have husl : us.length < 2 ^ 30 := by rw [← hU] at hUS; simp at hUS; omega
    refine ⟨hl, ?_⟩
    have HB := H.repin (o' := busyRec rc) hpn
    have HB2 : Hp { w0 with pins := (l, busyRec rc) :: w0.pins } (w.putObj l (busyRec rc)) (⟨lb, 31, [ptr b 0]⟩ :: ⟨b, 96, lkc { M0 with us := us } su sus sp sa⟩ :: (cus ++ (cu ++ (cp ++ (ca ++ (D ++ (⟨zb, 3, [I (sz : Int)]⟩ :: ⟨db, 24, [s]⟩ :: F))))))) := HB.to (by intro f; simp only [I, U8, U64, ptr, List.set_cons_zero, List.set_cons_succ, List.eraseIdx_cons_zero, List.eraseIdx_cons_succ, List.map_append, List.map_cons, List.map_nil, List.sum_append, List.sum_cons, List.sum_nil]; omega)
    refine send_b1 (w0 := { w0 with pins := (l, busyRec rc) :: w0.pins }) (d := rest.take (min sz rest.length)) (M := { M0 with us := us }) (F := ⟨zb, 3, [I (sz : Int)]⟩ :: ⟨db, 24, [s]⟩ :: F) ⟨hlk.up, hlk.us, hlk.svl, hlk.dat, hlk.part, hlk.acks⟩ HB2
      (by rw [hpl]; exact RdL.mono (w0 := { w0 with pins := (l, busyRec rc) :: w0.pins }) g1 (fun c hc => by simp [hc])) (by omega) husl fun w2 sus2 cus2 D2 sv2 hlk2 H2 => ?_
    refine ⟨H2.pinOff.2.1, ?_⟩
    have H3 := H2.repin (o' := .loop rc) hpn
    have H3' : Hp { w0 with pins := (l, .loop rc) :: w0.pins } (w2.putObj l (.loop rc)) (⟨zb, 3, [I (sz : Int)]⟩ :: ⟨db, 24, [s]⟩ :: ⟨lb, 31, [ptr b 0]⟩ :: ⟨b, 96, lkc { M0 with us := us ++ [⟨false, M0.sent, (k : Int), rest.take (min sz rest.length), -1⟩] } su sus2 sp sa⟩ :: (cus2 ++ (cu ++ (cp ++ (ca ++ (D2 ++ F)))))) := H3.to (by intro f; simp only [I, U8, U64, ptr, List.set_cons_zero, List.set_cons_succ, List.eraseIdx_cons_zero, List.eraseIdx_cons_succ, List.map_append, List.map_cons, List.map_nil, List.sum_append, List.sum_cons, List.sum_nil]; omega)
    have hlk3 : LkP 101 107 w0 { M0 with us := us ++ [⟨false, M0.sent, (k : Int), rest.take (min sz rest.length), -1⟩] } su sus2 sp sa cu cus2 cp ca D2 sv2 := ⟨hlk2.up, hlk2.us, hlk2.svl, hlk2.dat, hlk2.part, hlk2.acks⟩
    simp only [WKt, mem, drewV]
    refine ld_h H3' 1 rfl rfl ?_
    simp only [lenS_rdL hs, WKt, mem, drewV]
    refine cnd_decide (fun h => ?_) (fun h => ?_)
    · have hle : rest.length ≤ sz := by omega
      rw [pcs, if_pos hle] at hU
      have ht : rest.take (min sz rest.length) = rest := List.take_of_length_le (by omega)
      rw [ht] at H3' hlk3
      simp only [addU] at hU
      rw [hU] at H3' hlk3
      exact hq _ _ _ _ _ _ hlk3 H3'
    · have hlt : sz < rest.length := by omega
      have hmin : min sz rest.length = sz := Nat.min_eq_left (by omega)
      rw [pcs, if_neg (by omega)] at hU
      simp only [hmin] at *
      refine ld_h H3' 1 rfl rfl ?_
      obtain ⟨s2, e2, g2⟩ := slS_suf hs (k := sz) (by omega) (by omega)
      simp only [e2, WKt, mem, drewV]
      refine st_h H3' 1 rfl (by simp) (rd_cells g2).2 fun w4 H4 => ?_
      rw [wrap64_id (by omega) (by omega), show (k : Int) + 1 = ((k + 1 : Nat) : Int) from by omega]
      have hdl : (rest.drop sz).length = rest.length - sz := by rw [List.length_drop]
      refine send_loop hsz hpn hy hUS hq fuel (k + 1) (rest.drop sz) s2 (us ++ [⟨false, M0.sent, (k : Int), rest.take sz, -1⟩]) w4 sus2 cus2 D2 sv2 (by omega) (by omega) (by omega) ?_ hlk3 (by rw [hdl]; exact g2) H4
      rw [← hU]; simp [addU]
/-- Behind the loop: the last unit's mark. -/
theorem send_af {lb b : Nat} {M : LM} {su sus sp sa x6 x7 x54 : Value} {cu cus cp ca D : List Chunk} {sv : List Value} {R : ER} (hlk : LkP 101 107 w0 M su sus sp sa cu cus cp ca D sv) (hne : 0 < M.us.length) (hus : M.us.length < 2 ^ 30)
    (H : Hp w0 w (⟨lb, 31, [ptr b 0]⟩ :: ⟨b, 96, lkc M su sus sp sa⟩ :: (cus ++ (cu ++ (cp ++ (ca ++ (D ++ F)))))))
    (hq : ∀ w' cus', LkP 101 107 w0 { M with us := setLast M.us } su sus sp sa cu cus' cp ca D sv → Hp w0 w' (⟨lb, 31, [ptr b 0]⟩ :: ⟨b, 96, lkc { M with us := setLast M.us } su sus sp sa⟩ :: (cus' ++ (cu ++ (cp ++ (ca ++ (D ++ F)))))) →
      R (.returned (.tuple ⟨[I M.sent, I 0]⟩)) w') : links_Link_Send_af R (ptr lb 0) x6 x7 x54 w := by
  unfold links_Link_Send_af
  have H0 := H.drew
  obtain ⟨bu, cap, rest, rfl, rfl, g1, g2, g3⟩ := hlk.us.chunk hne
  simp only [WKt, mem, drewV]
  refine ld_h H0 0 rfl rfl ?_
  simp only [WKt, mem, drewV]
  refine ld_h H0 1 rfl rfl ?_
  refine ld_h H0 0 rfl rfl ?_
  simp only [WKt, mem, drewV]
  refine ld_h H0 1 rfl rfl ?_
  simp only [WKt, mem, drewV]
  rw [wrap64_id (by omega) (by omega), show ((M.us.length : Nat) : Int) - 1 = ((M.us.length - 1 : Nat) : Int) from by omega, ixS_mk (by omega)]
  simp only [WKt, mem, drewV]
  obtain ⟨u, hu⟩ : ∃ u, M.us[M.us.length - 1]? = some u := ⟨_, List.getElem?_eq_getElem (by omega)⟩
  obtain ⟨s, hs⟩ : ∃ s, sv[M.us.length - 1]? = some s := ⟨_, List.getElem?_eq_getElem (by rw [hlk.svl]; omega)⟩
  have hlen := ucells_len hlk.svl
  refine st_h H0 2 rfl (by rw [List.length_append, hlen]; omega) rfl fun w1 H1 => ?_
  have e : (ucells M.us sv ++ rest).set ((M.us.length - 1) * 6 + 1) (.bool true) = ucells (setLast M.us) sv ++ rest := by
    rw [set_left (by rw [hlen]; omega), ucells_last hu hs]
    unfold setLast; rw [hu]
  have hsl : (setLast M.us).length = M.us.length := by unfold setLast; rw [hu]; simp
  have H2 : Hp w0 w1 (⟨lb, 31, [ptr b 0]⟩ :: ⟨b, 96, lkc { M with us := setLast M.us } su (.slice (some ⟨bu, 0, none⟩) M.us.length cap) sp sa⟩ :: ([⟨bu, 101, ucells (setLast M.us) sv ++ rest⟩] ++ (cu ++ (cp ++ (ca ++ (D ++ F)))))) := by
    rw [← e]; exact H1
  refine ld_h H2 0 rfl rfl ?_
  simp only [WKt, mem, drewV]
  refine ld_h H2 1 rfl rfl ?_
  refine hq w1 _ ⟨hlk.up, .inr ⟨bu, cap, rest, rfl, by simp [hsl], ?_, by simp [hsl]; exact g2, by simp [hsl]; exact g3⟩, by simp [hsl, hlk.svl], ?_, hlk.part, hlk.acks⟩ H2
  · rw [ucells_len (by simp [hsl, hlk.svl])]
  · intro i u' s' hu' hs'
    have hu2 : (setLast M.us)[i]? = some u' := hu'
    unfold setLast at hu2
    rw [hu] at hu2
    simp only [List.getElem?_set] at hu2
    split at hu2
    · rename_i hi
      subst hi
      rw [if_pos (by omega)] at hu2
      injection hu2 with hu2; subst hu2
      exact hlk.dat _ u s' hu hs'
    · exact hlk.dat i u' s' hu2 hs'
theorem putObj_free {k : Nat} {o o' : Obj} (H : Hp { w0 with pins := (k, o) :: w0.pins } w L) (hn : ∀ p ∈ w0.pins, p.1 ≠ k) : Hp w0 (w.putObj k o') L := (H.repin (o' := o') hn).pinOff.1
theorem enter61 : enterOk Pg 61 = true := by kernel_rfl
/-- Send's answer. -/
def SendPost (w0 : Base) (F : List Chunk) (Lkx : Base → Nat → LM → List Chunk → Prop) (b : Nat) (M : LM) (d : List Int) (now : Int) : ER := fun e w' =>
  ∃ L', e = .returned (.tuple ⟨[I (if sendE M d now = 0 then M.sent + 1 else 0), I (sendE M d now)]⟩) ∧ Hp w0 w' (L' ++ F) ∧ Lkx w0 b (sendM M d now) L'
theorem setLast_eq (l : List UM) : (setLast l).length = l.length := by
  unfold setLast; split <;> simp
set_option maxHeartbeats 800000 in
theorem Send_spec {b : Nat} {M : LM} {s : Value} {d : List Int} {now : Int} (H : Hp w0 w (L ++ F)) (hL : Lk w0 b M L) (hs : RdL w0 F 1 s d.length (bv d)) (hd : d.length < 2 ^ 30)
    (hsz : 32 ≤ M.size ∧ M.size ≤ 4096) (hus : M.us.length < 2 ^ 29) (hsent : 0 ≤ M.sent ∧ M.sent < 2 ^ 50 ∧ 0 ≤ M.done ∧ M.done < 2 ^ 50) : Calls Pg 12 ⟨[ptr b 0, s, I now]⟩ w (SendPost w0 F Lk b M d now) := by
  obtain ⟨su, sus, sp, sa, cu, cus, cp, ca, D, sv, hlk, rfl⟩ := hL
  have H0 : Hp w0 w (⟨b, 96, lkc M su sus sp sa⟩ :: (cus ++ (cu ++ (cp ++ (ca ++ (D ++ F)))))) := H.to (by intro f; simp only [I, U8, U64, ptr, List.set_cons_zero, List.set_cons_succ, List.eraseIdx_cons_zero, List.eraseIdx_cons_succ, List.map_append, List.map_cons, List.map_nil, List.sum_append, List.sum_cons, List.sum_nil]; omega)
  apply F12_calls
  unfold F12
  refine bxs_h H0 rfl fun w1 lb H1 => ?_
  have fail : ∀ {w' : World} (er : Int), er ≠ 0 → sendE M d now = er → Hp w0 w' (⟨lb, 31, [ptr b 0]⟩ :: ⟨b, 96, lkc M su sus sp sa⟩ :: (cus ++ (cu ++ (cp ++ (ca ++ (D ++ F)))))) → SendPost w0 F Lk b M d now (.returned (.tuple ⟨[I 0, I er]⟩)) w' := by
    intro w' er hne he H'
    have hne' : sendE M d now ≠ 0 := by rw [he]; exact hne
    refine ⟨⟨b, 96, lkc M su sus sp sa⟩ :: (cu ++ (cus ++ (cp ++ (ca ++ D)))), by rw [if_neg hne', he], H'.to (by intro f; simp only [I, U8, U64, ptr, List.set_cons_zero, List.set_cons_succ, List.eraseIdx_cons_zero, List.eraseIdx_cons_succ, List.map_append, List.map_cons, List.map_nil, List.sum_append, List.sum_cons, List.sum_nil]; omega), ?_⟩
    unfold sendM; rw [if_neg hne']
    exact ⟨_, _, _, _, _, _, _, _, _, _, hlk, rfl⟩
  refine ld_h H1 0 rfl rfl ?_
  simp only [lenS_rdL hs, WKt, mem, drewV]
  refine cnd_decide (fun h1 => ?_) (fun h1 => ?_)
  · exact fail 20 (by decide) (by unfold sendE; rw [if_pos (by omega)]) H1
  refine ld_h H1 0 rfl rfl ?_
  refine cal_h (time_spec (now := now) H1.rot1) ?_
  rintro e w2 ⟨rfl, rfl⟩
  simp only [WKt, mem, drewV]
  refine cnd_decide (fun h2 => ?_) (fun h2 => ?_)
  · exact fail _ h2 (by unfold sendE; rw [if_neg (by omega), if_pos h2]) H1
  have h2' : timeE M now = 0 := by simpa using h2
  have H2 := H1.drew
  refine ld_h H2 0 rfl rfl ?_
  simp only [WKt, mem, drewV]
  refine ld_h H2 1 rfl rfl ?_
  refine ld_h H2 0 rfl rfl ?_
  simp only [WKt, mem, drewV]
  refine ld_h H2 1 rfl rfl ?_
  simp only [WKt, mem, drewV]
  rw [wrap64_id (by omega) (by omega)]
  refine cnd_decide (fun h3 => ?_) (fun h3 => ?_)
  · exact fail 2 (by decide) (by unfold sendE; rw [if_neg (by omega), if_neg (by rw [h2']; decide), if_pos h3]) H2
  refine ld_h H2 0 rfl rfl ?_
  simp only [WKt, mem, drewV]
  refine ld_h H2 1 rfl rfl ?_
  simp only [WKt, mem, drewV]
  refine cnd_decide (fun h4 => ?_) (fun h4 => ?_)
  · exact fail 18 (by decide) (by unfold sendE; rw [if_neg (by omega), if_neg (by rw [h2']; decide), if_neg h3, if_pos h4]) H2
  have hE : sendE M d now = 0 := by unfold sendE; rw [if_neg (by omega), if_neg (by rw [h2']; decide), if_neg h3, if_neg h4]
  refine ld_h H2 0 rfl rfl ?_
  simp only [WKt, mem, drewV]
  refine st_h H2 1 rfl (by simp [lkc]) rfl fun w3 H3 => ?_
  replace H3 : Hp w0 w3 (⟨lb, 31, [ptr b 0]⟩ :: ⟨b, 96, lkc { M with clock := now } su sus sp sa⟩ :: (cus ++ (cu ++ (cp ++ (ca ++ (D ++ F)))))) := H3
  refine ld_h H3 0 rfl rfl ?_
  simp only [WKt, mem, drewV]
  refine ld_h H3 1 rfl rfl ?_
  simp only [WKt, mem, drewV]
  refine st_h H3 1 rfl (by simp [lkc]) rfl fun w4 H4 => ?_
  have hw : IntKind.i64.wrap (M.sent + 1) = M.sent + 1 := wrap64_id (by omega) (by omega)
  replace H4 : Hp w0 w4 (⟨lb, 31, [ptr b 0]⟩ :: ⟨b, 96, lkc { M with clock := now, sent := M.sent + 1 } su sus sp sa⟩ :: (cus ++ (cu ++ (cp ++ (ca ++ (D ++ F)))))) := by
    rw [← hw]; exact H4
  refine ld_h H4 0 rfl rfl ?_
  simp only [WKt, mem, drewV]
  refine ld_h H4 1 rfl rfl ?_
  simp only [WKt, mem, drewV]
  obtain ⟨sz, hszn⟩ : ∃ sz : Nat, M.size - 24 = (sz : Int) := ⟨(M.size - 24).toNat, by omega⟩
  rw [wrap64_id (by omega) (by omega), hszn]
  refine cal_h (pieces_spec (n := d.length) (d := d) H4 (hs.mono (fun c hc => by simp [hc]))) ?_
  rintro e w5 ⟨db, zb, rfl, H5⟩
  simp only [WKt, mem, drewV]
  unfold links_Link_Send_rf
  intro rc w6 hw6 hy
  have hDs : w0.heap.size ≤ w5.heap.size := H5.ext.size
  have H6 := H5.same (w' := w6) (by rw [hw6]; exact (Ext.alloc [] _ _).trans (Ext.alloc [] _ _))
  have hD : w6.heap[w5.heap.size]? = some (.deferred (some [])) := by
    rw [hw6, Below.heap_alloc _ _ _ (by simp)]; exact World.alloc_heap_new _ _
  have hl : w6.heap[w5.heap.size + 1]? = some (.loop rc) := by
    rw [hw6]
    have := World.alloc_heap_new (w5.alloc (.deferred (some []))) (.loop rc)
    simpa using this
  have hlt5 : ∀ p ∈ w0.pins, p.1 < w5.heap.size := fun p hp => (Array.getElem?_eq_some_iff.1 (H5.pin p hp).2.1).1
  have hc5 : ∀ c ∈ (⟨zb, 3, [I (sz : Int)]⟩ :: ⟨db, 24, [s]⟩ :: ⟨lb, 31, [ptr b 0]⟩ :: ⟨b, 96, lkc { M with clock := now, sent := M.sent + 1 } su sus sp sa⟩ :: (cus ++ (cu ++ (cp ++ (ca ++ (D ++ F))))) : List Chunk), c.b < w5.heap.size := fun c hc => (H5.blk c hc).2.lt
  have P1 := H6.pinOn (b := w5.heap.size) hDs hD (fun c hc => Nat.ne_of_lt (hc5 c hc))
  have P2 := P1.pinOn (b := w5.heap.size + 1) (by have : w0.heap.size ≤ w5.heap.size + 1 := by omega
                                                  exact this) hl (fun c hc => by have := hc5 c hc; omega)
  have hpn1 : ∀ p ∈ w0.pins, p.1 ≠ w5.heap.size := fun p hp => Nat.ne_of_lt (hlt5 p hp)
  have hpn2 : ∀ p ∈ ((w5.heap.size, Obj.deferred (some [])) :: w0.pins), p.1 ≠ w5.heap.size + 1 := by
    intro p hp
    rcases List.mem_cons.1 hp with rfl | hp
    · show w5.heap.size ≠ w5.heap.size + 1; omega
    · have := hlt5 p hp; omega
  have hlen1 := pcs_length (d.length + 1) sz d
  have hne1 : 0 < (pcs (d.length + 1) sz d).length := by
    unfold pcs; split <;> simp
  refine ⟨enter61, ?_⟩
  apply F61_calls
  unfold F61 F61_j1
  refine ⟨d.length + 1, ?_⟩
  refine send_loop (w0 := { w0 with pins := (w5.heap.size, .deferred (some [])) :: w0.pins }) (rc := rc) (l := w5.heap.size + 1) (M0 := { M with clock := now, sent := M.sent + 1 }) (US := M.us ++ addU (M.sent + 1) 0 (pcs (d.length + 1) sz d))
    (F := F) (sz := sz) (by omega) hpn2 hy (by rw [List.length_append, addU_length]; omega) ?_ (d.length + 1) 0 d s M.us w6 sus cus D sv (by omega) (by omega) (by omega) rfl ⟨hlk.up, hlk.us, hlk.svl, hlk.dat, hlk.part, hlk.acks⟩ hs P2
  intro w7 s' sus' cus' D' sv' hlk' H7
  simp only [retK]
  refine .inl ⟨H7.pinOff.2.1, ?_⟩
  have H8 := putObj_free (w0 := { w0 with pins := (w5.heap.size, .deferred (some [])) :: w0.pins }) (o' := overRec rc) H7 hpn2
  have H8' : Hp { w0 with pins := (w5.heap.size, .deferred (some [])) :: w0.pins } (w7.putObj (w5.heap.size + 1) (overRec rc)) (⟨lb, 31, [ptr b 0]⟩ :: ⟨b, 96, lkc { M with clock := now, sent := M.sent + 1, us := M.us ++ addU (M.sent + 1) 0 (pcs (d.length + 1) sz d) } su sus' sp sa⟩ :: (cus' ++ (cu ++ (cp ++ (ca ++ (D' ++ F)))))) := H8.to (by intro f; simp only [I, U8, U64, ptr, List.set_cons_zero, List.set_cons_succ, List.eraseIdx_cons_zero, List.eraseIdx_cons_succ, List.map_append, List.map_cons, List.map_nil, List.sum_append, List.sum_cons, List.sum_nil]; omega)
  refine send_af hlk' (by simp [addU_length]; omega) (by simp [addU_length]; omega) H8' fun w9 cus9 hlk9 H9 => ?_
  refine ⟨H9.pinOff.2.1, ?_⟩
  have H10 := putObj_free (o' := .deferred none) H9 hpn1
  refine ⟨⟨b, 96, lkc { M with clock := now, sent := M.sent + 1, us := setLast (M.us ++ addU (M.sent + 1) 0 (pcs (d.length + 1) sz d)) } su sus' sp sa⟩ :: (cu ++ (cus9 ++ (cp ++ (ca ++ D')))), by rw [if_pos hE, hE], H10.to (by intro f; simp only [I, U8, U64, ptr, List.set_cons_zero, List.set_cons_succ, List.eraseIdx_cons_zero, List.eraseIdx_cons_succ, List.map_append, List.map_cons, List.map_nil, List.sum_append, List.sum_cons, List.sum_nil]; omega), ?_⟩
  unfold sendM; rw [if_pos hE]
  refine ⟨su, sus', sp, sa, cu, cus9, cp, ca, D', sv', ⟨hlk9.up, ?_, ?_, ?_, hlk9.part, hlk9.acks⟩, ?_⟩
  · have e : (M.size - 24).toNat = sz := by omega
    rw [e]; exact hlk9.us
  · have e : (M.size - 24).toNat = sz := by omega
    rw [e]; exact hlk9.svl
  · have e : (M.size - 24).toNat = sz := by omega
    rw [e]; exact hlk9.dat
  · have e : (M.size - 24).toNat = sz := by omega
    rw [e]
end
end Go.Proofs.Ytmnpndgmfmjfhaa.Den
end

section
set_option linter.unusedVariables false
set_option linter.unusedSimpArgs false
set_option maxRecDepth 8000
namespace Go.Proofs.Ytmnpndgmfmjfhaa.Den
open Go Go.RowKit
def fIdx (p : UM → Bool) : Nat → List UM → Int
  | _, [] => -1
  | i, u :: r => if p u then (i : Int) else fIdx p (i + 1) r
section
variable {w w' : World} {w0 : Base} {F L : List Chunk} {R : ER}
theorem calD_fn {f : Nat} {first captured args : Array Value} {Q : ER} {K : VK} (he : enterOk Pg f = true) (h : Calls Pg f (first ++ args ++ captured) w Q) (k : ∀ e w', Q e w' → retK R K e w') :
    calD Pg R (.func (.func f) first captured) args K w := by
  unfold calD; simp only [he, cond_true]; exact h.mono k
theorem idx_l {bu k cap : Nat} {us : List UM} {sv rest : List Value} {fv : Value} {p : UM → Bool} {j : Nat} (hj : L[j]? = some ⟨bu, 101, ucells us sv ++ rest⟩) (hsv : sv.length = us.length) (hk : k ≤ us.length) (hkb : k < 2 ^ 60)
    (hp : ∀ {R : ER} {K : VK} {w : World} {u : UM} {s : Value}, Hp w0 w L → (∀ w', Hp w0 w' L → K (.bool (p u)) w') → calD Pg R fv ⟨[.agg ⟨ucell u s⟩]⟩ K w)
    (hq : ∀ w', Hp w0 w' L → R (.returned (I (fIdx p 0 (us.take k)))) w') :
    ∀ (d i : Nat) (w : World), i + d = k → fIdx p i ((us.take k).drop i) = fIdx p 0 (us.take k) → Hp w0 w L → F62_l1 R (d + 1) (.slice (some ⟨bu, 0, none⟩) k cap) fv (I (k : Int)) (I (i : Int)) w := by
  intro d
  induction d with
  | zero =>
    intro i w hi hf H
    rw [F62_l1_succ]
    unfold F62_b1 F62_j1
    simp only [WKt, mem, drewV, show decide ((i : Int) < (k : Int)) = false from decide_eq_false (by omega)]
    rw [List.drop_eq_nil_of_le (by rw [List.length_take]; omega)] at hf
    have := hq w H
    rw [← hf] at this
    exact this
  | succ d ih =>
    intro i w hi hf H
    rw [F62_l1_succ]
    unfold F62_b1 F62_j4
    simp only [WKt, mem, drewV, show decide ((i : Int) < (k : Int)) = true from decide_eq_true (by omega)]
    rw [ixS_mk (by omega)]
    simp only [WKt, mem, drewV]
    have hlt : i < us.length := by omega
    obtain ⟨u, hu⟩ : ∃ u, us[i]? = some u := ⟨_, List.getElem?_eq_getElem hlt⟩
    obtain ⟨s, hs⟩ : ∃ s, sv[i]? = some s := ⟨_, List.getElem?_eq_getElem (by omega)⟩
    have hlen := ucells_len hsv
    have hcell : ((ucells us sv ++ rest).drop (i * 6)).take 6 = ucell u s := by
      apply List.ext_getElem?
      intro m
      rw [List.getElem?_take]
      by_cases hm : m < 6
      · rw [if_pos hm, List.getElem?_drop, List.getElem?_append_left (by rw [hlen]; omega)]
        exact ucells_get hu hs hm
      · rw [if_neg hm, List.getElem?_eq_none (by simp [ucell]; omega)]
    refine ldN_blk (H.at hj) (by rw [List.length_append, hlen]; omega) ?_
    rw [hcell]
    refine hp H fun w2 H2 => ?_
    have hdrop : (us.take k).drop i = u :: (us.take k).drop (i + 1) := by
      have hg : (us.take k)[i]? = some u := by rw [List.getElem?_take, if_pos (by omega)]; exact hu
      obtain ⟨h1, h2⟩ := List.getElem?_eq_some_iff.1 hg
      rw [List.drop_eq_getElem_cons h1, h2]
    rw [hdrop, fIdx] at hf
    cases hb : p u with
    | true =>
      rw [hb, if_pos rfl] at hf
      simp only [WKt, mem, drewV]
      have := hq w2 H2
      rw [← hf] at this
      exact this
    | false =>
      rw [hb] at hf
      simp only [Bool.false_eq_true, if_false] at hf
      simp only [WKt, mem, drewV]
      rw [wrap64_id (by omega) (by omega), show (i : Int) + 1 = ((i + 1 : Nat) : Int) from by omega]
      exact ih (i + 1) w2 (by omega) hf H2
theorem idx_spec {bu k cap : Nat} {us : List UM} {sv rest : List Value} {fv : Value} {p : UM → Bool} {j : Nat} (H : Hp w0 w L) (hj : L[j]? = some ⟨bu, 101, ucells us sv ++ rest⟩) (hsv : sv.length = us.length) (hk : k ≤ us.length) (hkb : k < 2 ^ 60)
    (hp : ∀ {R : ER} {K : VK} {w : World} {u : UM} {s : Value}, Hp w0 w L → (∀ w', Hp w0 w' L → K (.bool (p u)) w') → calD Pg R fv ⟨[.agg ⟨ucell u s⟩]⟩ K w) :
    Calls Pg 62 ⟨[.slice (some ⟨bu, 0, none⟩) k cap, fv]⟩ w fun e w' => e = .returned (I (fIdx p 0 (us.take k))) ∧ Hp w0 w' L := by
  apply F62_calls
  unfold F62 F62_j2 F62_j3
  simp only [WKt, mem, drewV]
  exact ⟨k + 1, idx_l hj hsv hk hkb hp (fun w' H' => ⟨rfl, H'⟩) k 0 w (by omega) rfl H⟩
theorem idx_nil {fv a : Value} {c : Nat} (H : Hp w0 w L) {q : Option Addr} : Calls Pg 62 ⟨[.slice q 0 c, fv]⟩ w fun e w' => e = .returned (I (-1)) ∧ Hp w0 w' L := by
  apply F62_calls
  unfold F62 F62_j2 F62_j3
  simp only [WKt, mem, drewV]
  refine ⟨1, ?_⟩
  show F62_l1 _ (0 + 1) _ _ _ _ _
  rw [F62_l1_succ]
  unfold F62_b1 F62_j1
  simp only [WKt, mem, drewV, show decide ((0 : Int) < ((0 : Nat) : Int)) = false from rfl]
  exact ⟨trivial, H⟩
theorem enter37 : enterOk Pg 37 = true := by kernel_rfl
theorem next1_call {K : VK} {u : UM} {s : Value} (H : Hp w0 w L) (k : ∀ w', Hp w0 w' L → K (.bool (decide (u.at_ < 0))) w') : calD Pg R (.func (.func 37) ⟨[]⟩ ⟨[]⟩) ⟨[.agg ⟨ucell u s⟩]⟩ K w := by
  refine calD_fn (Q := fun e w' => e = .returned (.bool (decide (u.at_ < 0))) ∧ Hp w0 w' L) enter37 ?_ ?_
  · apply F37_calls
    unfold F37
    refine bxa_h H fun w1 b H1 => ?_
    simp only [WKt, mem, drewV]
    refine ld_h H1 0 rfl rfl ?_
    simp only [WKt, mem, drewV]
    exact ⟨trivial, H1.tail⟩
  · rintro e w' ⟨rfl, H'⟩
    exact k w' H'
def pend (M : LM) : Int := fIdx (fun u => decide (u.at_ < 0)) 0 (M.us.take 8)
/-- What is due, and when. -/
def nextV (M : LM) : Int × Bool :=
  if M.broken then (0, false) else if M.acks ≠ [] ∨ 0 ≤ pend M then (M.clock, true) else match M.us with
    | [] => (0, false)
    | u :: _ => (max M.clock (u.at_ + M.timeout), true)
theorem Next_spec {b : Nat} {M : LM} (H : Hp w0 w (L ++ F)) (hL : Lk w0 b M L) (hus : M.us.length < 2 ^ 40) (hat : ∀ u ∈ M.us, -1 ≤ u.at_ ∧ u.at_ ≤ 2 ^ 41) (ht : 0 ≤ M.timeout ∧ M.timeout ≤ 2 ^ 41) (hal : M.acks.length < 2 ^ 60) :
    Calls Pg 13 ⟨[ptr b 0]⟩ w fun e w' => e = .returned (.tuple ⟨[I (nextV M).1, .bool (nextV M).2]⟩) ∧ Hp w0 w' (L ++ F) := by
  obtain ⟨su, sus, sp, sa, cu, cus, cp, ca, D, sv, hlk, rfl⟩ := hL
  have H0 : Hp w0 w (⟨b, 96, lkc M su sus sp sa⟩ :: (cus ++ (cu ++ (cp ++ (ca ++ (D ++ F)))))) := H.to (by intro f; simp only [I, U8, U64, ptr, List.set_cons_zero, List.set_cons_succ, List.eraseIdx_cons_zero, List.eraseIdx_cons_succ, List.map_append, List.map_cons, List.map_nil, List.sum_append, List.sum_cons, List.sum_nil]; omega)
  apply F13_calls
  unfold F13
  simp only [WKt, mem, drewV]
  refine ld_h H0 0 rfl rfl ?_
  cases hb : M.broken with
  | true =>
    simp only [WKt, mem, drewV]
    refine ⟨by unfold nextV; rw [if_pos hb], H⟩
  | false =>
    simp only [WKt, mem, drewV]
    unfold F13_j1
    have hnb : ∀ {x : Int × Bool}, (if M.acks ≠ [] ∨ 0 ≤ pend M then (M.clock, true) else match M.us with | [] => (0, false) | u :: _ => (max M.clock (u.at_ + M.timeout), true)) = x → nextV M = x := by
      intro x h; unfold nextV; rw [hb]; simpa using h
    have H1 := H0.drew
    simp only [WKt, mem, drewV]
    refine ld_h H1 0 rfl rfl ?_
    refine ld_h H1 0 rfl rfl ?_
    simp only [lenS_sl hlk.us, WKt, mem, drewV]
    have e8 : min2I (.int .i64 8) (I ((M.us.length : Nat) : Int)) = some (I ((min 8 M.us.length : Nat) : Int)) := min2I_nat 8 _
    simp only [e8, WKt, mem, drewV]
    -- the window
    have hwin : ∃ q cap, slS 6 sus none (some (I ((min 8 M.us.length : Nat) : Int))) = some (.slice q (min 8 M.us.length) cap) ∧ (0 < M.us.length → ∃ bu rest, q = some ⟨bu, 0, none⟩ ∧ cus = [⟨bu, 101, ucells M.us sv ++ rest⟩]) := by
      rcases hlk.us with ⟨h1, ⟨a, rfl⟩, h2, h3⟩ | ⟨bu, cap, rest, rfl, rfl, g1, g2, g3⟩
      · refine ⟨a, 0, ?_, fun h => by omega⟩
        rw [h2]; simp only [slS, boundO]; simp
      · refine ⟨some ⟨bu, 0, none⟩, cap, ?_, fun _ => ⟨bu, rest, rfl, rfl⟩⟩
        simp only [slS, boundO]
        rw [if_pos (by omega)]
        simp
        intro _; simp [Addr.add]
    obtain ⟨q, cap, hq, hbu⟩ := hwin
    simp only [hq, WKt, mem, drewV]
    unfold F13_j3
    simp only [WKt, mem, drewV]
    refine ld_h H1 0 rfl rfl ?_
    simp only [lenS_sl hlk.acks, WKt, mem, drewV]
    have fin : ∀ {w : World} {x : Bool}, Hp w0 w (⟨b, 96, lkc M su sus sp sa⟩ :: (cus ++ (cu ++ (cp ++ (ca ++ (D ++ F)))))) → (x = true ↔ (M.acks ≠ [] ∨ 0 ≤ pend M)) →
        F13_j4 (fun e w' => e = .returned (.tuple ⟨[I (nextV M).1, .bool (nextV M).2]⟩) ∧ Hp w0 w' ((⟨b, 96, lkc M su sus sp sa⟩ :: (cu ++ (cus ++ (cp ++ (ca ++ D))))) ++ F)) (ptr b 0) (.slice q (min 8 M.us.length) cap) (.bool x) w := by
      intro w x H hx
      unfold F13_j4
      cases hv : x with
      | true =>
        simp only [WKt, mem, drewV]
        refine ld_h H 0 rfl rfl ?_
        refine ⟨by rw [hnb (if_pos (hx.1 hv))], H.to (by intro f; simp only [I, U8, U64, ptr, List.set_cons_zero, List.set_cons_succ, List.eraseIdx_cons_zero, List.eraseIdx_cons_succ, List.map_append, List.map_cons, List.map_nil, List.sum_append, List.sum_cons, List.sum_nil]; omega)⟩
      | false =>
        have hx' : ¬ (M.acks ≠ [] ∨ 0 ≤ pend M) := fun h => by have := hx.2 h; rw [hv] at this; cases this
        simp only [WKt, mem, drewV]
        unfold F13_j5 F13_j6
        simp only [WKt, mem, drewV]
        refine cnd_decide (fun h => ?_) (fun h => ?_)
        · unfold F13_j7
          have H2 := H.drew
          obtain ⟨bu, rest, rfl, rfl⟩ := hbu (by omega)
          simp only [WKt, mem, drewV]
          refine ld_h H2 0 rfl rfl ?_
          have e0 : ixS 6 (.slice (some ⟨bu, 0, none⟩) (min 8 M.us.length) cap) (.int .i64 0) = some (ptr bu 0) := by
            have := ixS_mk (sz := 6) (b := bu) (o := 0) (c := cap) (n := min 8 M.us.length) (j := 0) (k := .i64) (by omega); simpa using this
          simp only [e0, WKt, mem, drewV]
          obtain ⟨u, r, hM⟩ : ∃ u r, M.us = u :: r := by
            cases hM : M.us with
            | nil => rw [hM] at h; simp at h
            | cons u r => exact ⟨u, r, rfl⟩
          obtain ⟨s, hs⟩ : ∃ s, sv[0]? = some s := ⟨_, List.getElem?_eq_getElem (by rw [hlk.svl, hM]; simp)⟩
          have hu : M.us[0]? = some u := by rw [hM]; rfl
          have hc : (ucells M.us sv ++ rest)[5]? = some (I u.at_) := get_left (by have := ucells_get hu hs (j := 5) (by omega); simpa [ucell] using this)
          refine ld_h H2 1 rfl hc ?_
          refine ld_h H2 0 rfl rfl ?_
          have ha := hat u (by rw [hM]; simp)
          simp only [WKt, mem, drewV]
          rw [wrap64_id (by omega) (by omega)]
          have em : max2I (I M.clock) (I (u.at_ + M.timeout)) = some (I (max M.clock (u.at_ + M.timeout))) := by
            simp only [max2I]; congr 2; rw [Int.max_def]; split <;> split <;> omega
          simp only [em, WKt, mem, drewV]
          refine ⟨?_, H2.to (by intro f; simp only [I, U8, U64, ptr, List.set_cons_zero, List.set_cons_succ, List.eraseIdx_cons_zero, List.eraseIdx_cons_succ, List.map_append, List.map_cons, List.map_nil, List.sum_append, List.sum_cons, List.sum_nil]; omega)⟩
          rw [hnb (if_neg hx')]
          rw [hM]
        · unfold F13_j2
          refine ⟨?_, H.to (by intro f; simp only [I, U8, U64, ptr, List.set_cons_zero, List.set_cons_succ, List.eraseIdx_cons_zero, List.eraseIdx_cons_succ, List.map_append, List.map_cons, List.map_nil, List.sum_append, List.sum_cons, List.sum_nil]; omega)⟩
          have hM : M.us = [] := by
            cases hM : M.us with
            | nil => rfl
            | cons u r => rw [hM] at h; simp at h
          rw [hnb (if_neg hx'), hM]
    refine cnd_decide (fun h => ?_) (fun h => ?_)
    · have : decide ((0 : Int) < ((M.acks.length : Nat) : Int)) = true := decide_eq_true h
      rw [this]
      refine fin H1 (by simp; left; intro hn; rw [hn] at h; simp at h)
    · have ha : M.acks = [] := by
        cases hA : M.acks with
        | nil => rfl
        | cons u r => rw [hA] at h; simp at h
      have hcf : Calls Pg 36 ⟨[.slice q (min 8 M.us.length) cap, .func (.func 37) ⟨[]⟩ ⟨[]⟩]⟩ w.drew fun e w' => e = .returned (.bool (decide (0 ≤ pend M))) ∧ Hp w0 w' (⟨b, 96, lkc M su sus sp sa⟩ :: (cus ++ (cu ++ (cp ++ (ca ++ (D ++ F)))))) := by
        apply F36_calls
        unfold F36
        by_cases h0 : 0 < M.us.length
        · obtain ⟨bu, rest, rfl, rfl⟩ := hbu h0
          refine cal_h (idx_spec (j := 1) (us := M.us) (sv := sv) (rest := rest) (p := fun u => decide (u.at_ < 0)) H1 rfl hlk.svl (by omega) (by omega) (fun H k => next1_call H k)) ?_
          rintro e w2 ⟨rfl, H2⟩
          simp only [WKt, mem, drewV]
          refine ⟨?_, H2⟩
          unfold pend
          congr 4
          by_cases h8 : 8 ≤ M.us.length
          · rw [Nat.min_eq_left h8]
          · rw [Nat.min_eq_right (by omega), List.take_of_length_le (Nat.le_refl _), List.take_of_length_le (by omega)]
        · have hM : M.us = [] := List.length_eq_zero_iff.1 (by omega)
          have hm : min 8 M.us.length = 0 := by omega
          rw [hm]
          refine cal_h (idx_nil (a := .bool true) H1) ?_
          rintro e w2 ⟨rfl, H2⟩
          simp only [WKt, mem, drewV]
          refine ⟨?_, H2⟩
          unfold pend; rw [hM]; rfl
      refine cal_h hcf ?_
      rintro e w2 ⟨rfl, H2⟩
      simp only [WKt, mem, drewV]
      exact fin H2 (by simp [ha])
end
end Go.Proofs.Ytmnpndgmfmjfhaa.Den
end

section
set_option linter.unusedVariables false
set_option linter.unusedSimpArgs false
set_option maxRecDepth 8000
namespace Go.Proofs.Ytmnpndgmfmjfhaa.Den
open Go Go.RowKit
abbrev OM := Int × List Int
def encR (k : Int) (last : Bool) (m f : Int) (d : List Int) : List Int := if encE k last m f d.length = 0 then encB k last m f d else []
def outAck (up : List Bool) (ws : List Int) (a : AM) : OM := (if up.getD a.w false then (a.w : Int) else ws.headD 0, encR 2 false a.m a.f [])
def outWs (u : UM) (ws : List Int) : List OM := ws.map fun w => (w, encR 1 u.last u.m u.f u.d)
def outUs (again : Bool) (now q : Int) (ws : List Int) : Nat → Int → List UM → List OM × List UM × Int
  | 0, t, us => ([], us, t)
  | _ + 1, t, [] => ([], [], t)
  | n + 1, t, u :: r => if !again && decide (0 ≤ u.at_) then ((outUs again now q ws n t r).1, u :: (outUs again now q ws n t r).2.1, (outUs again now q ws n t r).2.2)
    else (outWs u (overI q t ws) ++ (outUs again now q ws n (overT q t) r).1, { u with at_ := now } :: (outUs again now q ws n (overT q t) r).2.1, (outUs again now q ws n (overT q t) r).2.2)
def againB (M : LM) (now : Int) : Bool := match M.us with
  | [] => false
  | u :: _ => decide (0 ≤ u.at_) && decide (M.timeout ≤ now - u.at_)
def outE (M : LM) (now : Int) : Int := if timeE M now ≠ 0 then timeE M now else if againB M now = true ∧ useI 0 M.up ≠ [] ∧ M.repeats = 6 then 4 else 0
def outV (M : LM) (now : Int) : List OM := if outE M now ≠ 0 then [] else if useI 0 M.up = [] then [] else
  M.acks.map (outAck M.up (useI 0 M.up)) ++ (outUs (againB M now) now M.quality (useI 0 M.up) 8 M.turn M.us).1
def outM (M : LM) (now : Int) : LM := if timeE M now ≠ 0 then M else if againB M now = true ∧ useI 0 M.up ≠ [] ∧ M.repeats = 6 then { M with broken := true } else if useI 0 M.up = [] then { M with clock := now, acks := [] } else
  { M with clock := now, acks := [], repeats := if againB M now then M.repeats + 1 else M.repeats, us := (outUs (againB M now) now M.quality (useI 0 M.up) 8 M.turn M.us).2.1, turn := (outUs (againB M now) now M.quality (useI 0 M.up) 8 M.turn M.us).2.2 }
def ocell (o : OM) (s : Value) : List Value := [I o.1, s]
def ocells (os : List OM) (sv : List Value) : List Value := (List.zipWith ocell os sv).flatten
/-- Frames that are sent, in memory. -/
structure OutP (t : Nat) (w0 : Base) (s : Value) (os : List OM) (co Db : List Chunk) (sv : List Value) : Prop where
  sl : Sl t 2 s os.length (ocells os sv) co
  svl : sv.length = os.length
  dat : ∀ (i : Nat) (o : OM) (s : Value), os[i]? = some o → sv[i]? = some s → RdL w0 Db 1 s o.2.length (bv o.2)
theorem ocells_append {os os' : List OM} {sv sv' : List Value} (h : sv.length = os.length) : ocells (os ++ os') (sv ++ sv') = ocells os sv ++ ocells os' sv' := by
  unfold ocells; rw [List.zipWith_append (by rw [h]), List.flatten_append]
theorem bldO2 {w : Int} {s : Value} (h : s.cells = #[s]) : bldO [I 0, .slice none 0 0] [(0, 1, I w), (1, 1, s)] = some (.agg ⟨[I w, s]⟩) := by
  simp [bldO, buildL, h, cellsI]
section
variable {w w' : World} {w0 : Base} {F L : List Chunk} {R : ER}
theorem OutP.nil : OutP 90 w0 (.slice none 0 0) [] [] [] [] := ⟨Sl.nil, rfl, fun i o s h => by simp at h⟩
/-- One frame more. -/
theorem out_app {s s' : Value} {os : List OM} {co Db cs : List Chunk} {sv : List Value} {x : Int} {ys : List Int} {K : VK} {ty : Nat} {cc : Array Bool} (hP : OutP 90 w0 s os co Db sv) (hs' : Sl 5 1 s' ys.length (bv ys) cs) (hlen : os.length < 2 ^ 30)
    (H : Hp w0 w (cs ++ (co ++ (Db ++ F)))) (k : ∀ w' s2 co2, OutP 90 w0 s2 (os ++ [(x, ys)]) co2 (cs ++ Db) (sv ++ [s']) → Hp w0 w' (co2 ++ ((cs ++ Db) ++ F)) → K s2 w') :
    valV Pg R (Instr.buildSlice 43 1 ⟨[(0, .agg ⟨[I x, s']⟩)]⟩) (fun v => blt Pg R .append ⟨[43, 43]⟩ ty cc ⟨[s, v]⟩ K) w := by
  refine lit1_h (v := .agg ⟨[I x, s']⟩) elT43 H rfl (by omega) fun w1 nb H1 => ?_
  have H1' : Hp w0 w1 (⟨nb, 90, [I x, s']⟩ :: (cs ++ (co ++ (Db ++ F)))) := H1
  have H2 : Hp w0 w1 (co ++ (⟨nb, 90, [I x, s']⟩ :: ((cs ++ Db) ++ F))) := H1'.to (by intro f; simp only [I, U8, U64, ptr, List.set_cons_zero, List.set_cons_succ, List.eraseIdx_cons_zero, List.eraseIdx_cons_succ, List.map_append, List.map_cons, List.map_nil, List.sum_append, List.sum_cons, List.sum_nil]; omega)
  refine append_h elT43 H2 hP.sl (m := 1) (ys := [I x, s']) (.inr ⟨nb, 0, 1, 90, [I x, s'], rfl, by omega, by simp, by simp, rfl⟩)
    (by intro c hc; simp at hc; rcases hc with rfl | rfl <;> first | rfl | exact sl_scalar hs') (by omega) (by omega) fun w3 s3 cs3 H3 h3 => ?_
  refine k w3 s3 cs3 ⟨?_, by simp [hP.svl], ?_⟩ (H3.to (by intro f; simp only [I, U8, U64, ptr, List.set_cons_zero, List.set_cons_succ, List.eraseIdx_cons_zero, List.eraseIdx_cons_succ, List.map_append, List.map_cons, List.map_nil, List.sum_append, List.sum_cons, List.sum_nil]; omega))
  · rw [ocells_append hP.svl]
    have e : ocells [(x, ys)] [s'] = [I x, s'] := by simp [ocells, ocell]
    rw [e, List.length_append]; exact h3
  · intro i o v ho hv
    by_cases hi : i < os.length
    · rw [List.getElem?_append_left hi] at ho
      rw [List.getElem?_append_left (by rw [hP.svl]; exact hi)] at hv
      exact (hP.dat i o v ho hv).mono (fun c hc => by simp [hc])
    · rw [List.getElem?_append_right (by omega)] at ho
      rw [List.getElem?_append_right (by rw [hP.svl]; omega), hP.svl] at hv
      have hi0 : i - os.length = 0 := by
        have := (List.getElem?_eq_some_iff.1 ho).1
        simp at this; omega
      rw [hi0] at ho hv
      simp only [List.getElem?_cons_zero, Option.some.injEq] at ho hv
      subst ho; subst hv
      exact hs'.rdL (fun c hc => by simp [hc])
/-- Encode, with what it hands back as encR. -/
theorem enc_call {k m f : Int} {last : Bool} {s : Value} {d : List Int} {K : VK} (hs : RdL w0 F 1 s d.length (bv d)) (H : Hp w0 w F)
    (k1 : ∀ w' s' cs er, Hp w0 w' (cs ++ F) → Sl 5 1 s' (encR k last m f d).length (bv (encR k last m f d)) cs → K (.tuple ⟨[s', I er]⟩) w') : cal Pg R 16 ⟨[.agg ⟨frm k last m f s⟩]⟩ K w := by
  refine cal_h (Encode_spec hs H) ?_
  rintro e w' ⟨s', n', ys, cs, rfl, H', hs', h1, h2⟩
  refine k1 w' s' cs _ H' ?_
  unfold encR
  by_cases he : encE k last m f d.length = 0
  · obtain ⟨g1, g2, g3⟩ := h2 he
    rw [if_pos he, encB_length, ← g2, ← g3]; exact hs'
  · obtain ⟨g1, g2, g3⟩ := h1 he
    rw [if_neg he]; subst g1; subst g3; exact hs'
theorem rdnil : RdL w0 F 1 (.slice none 0 0) 0 (bv []) := .inl (.inl ⟨0, rfl, by simp, rfl⟩)
/-- The acknowledgments that are due. -/
theorem out_acks {b : Nat} {M : LM} {su sus sp sx sa sw x1 x8 : Value} {cu ca cw : List Chunk} {acks : List AM} {ws : List Int} {G : List Chunk} (hup : Sl 4 1 su M.up.length (M.up.map .bool) cu)
    (hca : Sl 107 6 sa acks.length (acells acks) ca) (hcw : Sl 3 1 sw ws.length (iv ws) cw) (hws : 0 < ws.length) (hw : ∀ a ∈ acks, a.w < M.up.length) (hal : acks.length < 2 ^ 29)
    (h1 : ∀ c ∈ cu, c ∈ G) (h2 : ∀ c ∈ ca, c ∈ G) (h3 : ∀ c ∈ cw, c ∈ G)
    (hq : ∀ w' s co Db sv, OutP 90 w0 s (acks.map (outAck M.up ws)) co Db sv → Hp w0 w' (co ++ (Db ++ (⟨b, 96, lkc M su sus sp sx⟩ :: G))) → F14_j5 R (ptr b 0) x1 sw x8 s w') :
    ∀ (d i : Nat) (w : World) (s : Value) (co Db : List Chunk) (sv : List Value), i + d = acks.length → OutP 90 w0 s ((acks.take i).map (outAck M.up ws)) co Db sv → Hp w0 w (co ++ (Db ++ (⟨b, 96, lkc M su sus sp sx⟩ :: G))) →
      F14_l3 R (d + 1) (ptr b 0) x1 sw x8 s sa (I (acks.length : Int)) (I (i : Int)) w := by
  intro d
  induction d with
  | zero =>
    intro i w s co Db sv hi hP H
    rw [F14_l3_succ]
    unfold F14_b3
    simp only [WKt, mem, drewV, show decide ((i : Int) < (acks.length : Int)) = false from decide_eq_false (by omega)]
    rw [List.take_of_length_le (by omega)] at hP
    exact hq w s co Db sv hP H
  | succ d ih =>
    intro i w s co Db sv hi hP H
    rw [F14_l3_succ]
    unfold F14_b3 F14_j18 F14_j20
    have hlt : i < acks.length := by omega
    obtain ⟨a, ha⟩ : ∃ a, acks[i]? = some a := ⟨_, List.getElem?_eq_getElem hlt⟩
    have haw := hw a (List.mem_of_getElem? ha)
    simp only [WKt, mem, drewV, show decide ((i : Int) < (acks.length : Int)) = true from decide_eq_true (by omega)]
    obtain ⟨ba, cap, rest, hca', hsa, g1, g2, g3⟩ := hca.chunk (by omega)
    rw [hsa, ixS_mk hlt]
    simp only [WKt, mem, drewV]
    have hlen := acells_len acks
    have hcell : ((acells acks ++ rest).drop (i * 6)).take 6 = acell a := by
      apply List.ext_getElem?
      intro m
      rw [List.getElem?_take]
      by_cases hm : m < 6
      · rw [if_pos hm, List.getElem?_drop, List.getElem?_append_left (by rw [hlen]; omega)]
        exact acells_get ha hm
      · rw [if_neg hm, List.getElem?_eq_none (by simp [acell]; omega)]
    have hmem : (⟨ba, 107, acells acks ++ rest⟩ : Chunk) ∈ co ++ (Db ++ (⟨b, 96, lkc M su sus sp sx⟩ :: G)) := by
      have : (⟨ba, 107, acells acks ++ rest⟩ : Chunk) ∈ G := h2 _ (by rw [hca']; simp)
      simp [this]
    refine ldN_blk (H.blk _ hmem).2 (by show _ ≤ (acells acks ++ rest).length; rw [List.length_append, hlen]; omega) ?_
    show al Pg 107 _ w
    refine al_h H (z := [I 0, I 0, .bool false, I 0, I 0, .slice none 0 0]) (by kernel_rfl) fun w1 ab H1 => ?_
    rw [show ((acells acks ++ rest).drop (i * 6)).take 6 = acell a from hcell]
    refine stA_h H1 0 rfl rfl rfl (by intro c hc; simp [acell] at hc; rcases hc with rfl | rfl | rfl | rfl | rfl | rfl <;> rfl) fun w2 H2 => ?_
    rw [← hsa]
    unfold F14_j22
    have H3 : Hp w0 w2.drew (⟨ab, 107, acell a⟩ :: ⟨b, 96, lkc M su sus sp sx⟩ :: (co ++ (Db ++ G))) := H2.drew.to (by intro f; simp only [I, U8, U64, ptr, List.set_cons_zero, List.set_cons_succ, List.eraseIdx_cons_zero, List.eraseIdx_cons_succ, List.map_append, List.map_cons, List.map_nil, List.sum_append, List.sum_cons, List.sum_nil]; omega)
    simp only [WKt, mem, drewV]
    refine ld_h H3 1 rfl rfl ?_
    refine ld_h H3 0 rfl rfl ?_
    have hrd := (hup.rdL (w0 := w0) (L := ⟨ab, 107, acell a⟩ :: ⟨b, 96, lkc M su sus sp sx⟩ :: (co ++ (Db ++ G))) (fun c hc => by simp [h1 c hc])).rd H3
    refine ix1_rd (v := .bool M.up[a.w]) hrd (by simp [haw]) ?_
    have fin : ∀ {w : World} {x : Int}, x = (outAck M.up ws a).1 → Hp w0 w (⟨ab, 107, [I x, I 2, .bool false, I a.m, I a.f, .slice none 0 0]⟩ :: ⟨b, 96, lkc M su sus sp sx⟩ :: (co ++ (Db ++ G))) →
        F14_j21 R (F14_l3 R (d + 1)) (ptr b 0) x1 sw x8 s (ptr ab 0) sa (I (acks.length : Int)) (I (i : Int)) w := by
      intro w x hx H
      unfold F14_j21 F14_j19
      simp only [WKt, mem, drewV]
      refine ldN_h H 0 rfl (by simp) ?_
      refine enc_call (d := []) (k := 2) (last := false) (m := a.m) (f := a.f) (s := .slice none 0 0) rdnil H fun w5 s5 cs5 er H5 h5 => ?_
      simp only [WKt, mem, drewV]
      have H6 : Hp w0 w5 (⟨ab, 107, [I x, I 2, .bool false, I a.m, I a.f, .slice none 0 0]⟩ :: (cs5 ++ (co ++ (Db ++ (⟨b, 96, lkc M su sus sp sx⟩ :: G))))) := H5.to (by intro f; simp only [I, U8, U64, ptr, List.set_cons_zero, List.set_cons_succ, List.eraseIdx_cons_zero, List.eraseIdx_cons_succ, List.map_append, List.map_cons, List.map_nil, List.sum_append, List.sum_cons, List.sum_nil]; omega)
      refine ld_h H6 0 rfl rfl ?_
      rw [bldO2 (sl_cells h5)]
      simp only [WKt, mem, drewV]
      refine out_app (x := x) (ys := encR 2 false a.m a.f []) hP h5 (by simp; omega) H6.tail fun w7 s7 co7 hP7 H7 => ?_
      rw [wrap64_id (by omega) (by omega), show (i : Int) + 1 = ((i + 1 : Nat) : Int) from by omega]
      refine ih (i + 1) w7 s7 co7 (cs5 ++ Db) (sv ++ [s5]) (by omega) ?_ H7
      have : (acks.take (i + 1)).map (outAck M.up ws) = (acks.take i).map (outAck M.up ws) ++ [(x, encR 2 false a.m a.f [])] := by
        rw [List.take_add_one, ha]; simp [hx, outAck]
      rw [this]; exact hP7
    cases hb : M.up[a.w] with
    | true =>
      simp only [WKt, mem, drewV]
      refine fin (x := (a.w : Int)) ?_ H3
      unfold outAck; rw [if_pos (by simp [haw, hb])]
    | false =>
      simp only [WKt, mem, drewV]
      have hrw := (hcw.rdL (w0 := w0) (L := ⟨ab, 107, acell a⟩ :: ⟨b, 96, lkc M su sus sp sx⟩ :: (co ++ (Db ++ G))) (fun c hc => by simp [h3 c hc])).rd H3
      have hw0 : (iv ws)[0]? = some (I (ws.headD 0)) := by
        cases ws with
        | nil => simp at hws
        | cons x r => rfl
      refine ix1_rd (j := 0) hrw hw0 ?_
      try simp only [WKt, mem, drewV]
      refine st_h H3 0 rfl (by simp [acell]) rfl fun w4 H4 => ?_
      refine fin (x := ws.headD 0) ?_ H4
      unfold outAck; rw [if_neg (by simp [haw, hb])]
/-- One unit over its wires. -/
theorem out_wires {b bu i j0 : Nat} {M : LM} {su sus sp sx s2 x1 sw x8 x139 : Value} {us : List UM} {sv rest : List Value} {u : UM} {su1 : Value} {wl : List Int} {G : List Chunk} {os0 : List OM}
    {k1 : V7} (hu : us[i]? = some u) (hs : sv[i]? = some su1) (hsv : sv.length = us.length) (hsd : RdL w0 G 1 su1 u.d.length (bv u.d)) (hw2 : RdL w0 G 1 s2 wl.length (iv wl)) (hwl : wl.length < 2 ^ 29) (hos : os0.length < 2 ^ 29)
    (hq : ∀ w' s co Db sv2, OutP 90 w0 s (os0 ++ outWs u wl) co Db sv2 → Hp w0 w' (co ++ (Db ++ (⟨b, 96, lkc M su sus sp sx⟩ :: ⟨bu, 101, ucells us sv ++ rest⟩ :: G))) → F14_j11 R k1 (ptr b 0) x1 sw x8 s x139 (I (j0 : Int)) w') :
    ∀ (d j : Nat) (w : World) (s : Value) (co Db : List Chunk) (sv2 : List Value), j + d = wl.length → OutP 90 w0 s (os0 ++ outWs u (wl.take j)) co Db sv2 → Hp w0 w (co ++ (Db ++ (⟨b, 96, lkc M su sus sp sx⟩ :: ⟨bu, 101, ucells us sv ++ rest⟩ :: G))) →
      F14_l1 R k1 (d + 1) (ptr b 0) x1 sw x8 s (ptr bu (i * 6)) x139 (I (j0 : Int)) s2 (I (wl.length : Int)) (I (j : Int)) w := by
  intro d
  induction d with
  | zero =>
    intro j w s co Db sv2 hj hP H
    rw [F14_l1_succ]
    unfold F14_b2
    simp only [WKt, mem, drewV, show decide ((j : Int) < (wl.length : Int)) = false from decide_eq_false (by omega)]
    rw [List.take_of_length_le (by omega)] at hP
    exact hq w s co Db sv2 hP H
  | succ d ih =>
    intro j w s co Db sv2 hj hP H
    rw [F14_l1_succ]
    unfold F14_b2 F14_j15
    have hlt : j < wl.length := by omega
    simp only [WKt, mem, drewV, show decide ((j : Int) < (wl.length : Int)) = true from decide_eq_true (by omega)]
    have hrd := (hw2.mono (L' := co ++ (Db ++ (⟨b, 96, lkc M su sus sp sx⟩ :: ⟨bu, 101, ucells us sv ++ rest⟩ :: G))) (fun c hc => by simp [hc])).rd H
    refine ix1_rd (v := I wl[j]) hrd (by simp [iv, hlt]) ?_
    try simp only [WKt, mem, drewV]
    have hmem : (⟨bu, 101, ucells us sv ++ rest⟩ : Chunk) ∈ co ++ (Db ++ (⟨b, 96, lkc M su sus sp sx⟩ :: ⟨bu, 101, ucells us sv ++ rest⟩ :: G)) := by simp
    have hlen := ucells_len hsv
    have hiu : i < us.length := (List.getElem?_eq_some_iff.1 hu).1
    have hcell : ((ucells us sv ++ rest).drop (i * 6)).take 5 = frm 1 u.last u.m u.f su1 := by
      apply List.ext_getElem?
      intro m
      rw [List.getElem?_take]
      by_cases hm : m < 5
      · rw [if_pos hm, List.getElem?_drop, List.getElem?_append_left (by rw [hlen]; omega), ucells_get hu hs (by omega)]
        have : m = 0 ∨ m = 1 ∨ m = 2 ∨ m = 3 ∨ m = 4 := by omega
        rcases this with rfl | rfl | rfl | rfl | rfl <;> rfl
      · rw [if_neg hm, List.getElem?_eq_none (by simp [frm]; omega)]
    refine ldN_blk (H.blk _ hmem).2 (by show _ ≤ (ucells us sv ++ rest).length; rw [List.length_append, hlen]; omega) ?_
    rw [show (({ b := bu, t := 101, l := ucells us sv ++ rest } : Chunk).l.drop (i * 6)).take 5 = frm 1 u.last u.m u.f su1 from hcell]
    refine enc_call (d := u.d) (k := 1) (last := u.last) (m := u.m) (f := u.f) (s := su1) (hsd.mono (fun c hc => by simp [hc])) H fun w5 s5 cs5 er H5 h5 => ?_
    try simp only [WKt, mem, drewV]
    rw [bldO2 (sl_cells h5)]
    try simp only [WKt, mem, drewV]
    refine out_app (x := wl[j]) (ys := encR 1 u.last u.m u.f u.d) hP h5 (by simp [outWs]; omega) H5 fun w7 s7 co7 hP7 H7 => ?_
    try simp only [WKt, mem, drewV]
    rw [wrap64_id (by omega) (by omega), show (j : Int) + 1 = ((j + 1 : Nat) : Int) from by omega]
    refine ih (j + 1) w7 s7 co7 (cs5 ++ Db) (sv2 ++ [s5]) (by omega) ?_ H7
    have : os0 ++ outWs u (wl.take (j + 1)) = os0 ++ outWs u (wl.take j) ++ [(wl[j], encR 1 u.last u.m u.f u.d)] := by
      unfold outWs; rw [List.take_add_one, getElem_of_lt hlt, List.map_append, List.append_assoc]; rfl
    rw [this]; exact hP7
theorem overI_len (q t : Int) (ws : List Int) : (overI q t ws).length ≤ ws.length := by
  unfold overI
  split
  · rw [List.length_take]; omega
  · split
    · rw [List.length_take, List.length_drop]; omega
    · exact Nat.le_refl _
/-- The units of the window. -/
theorem out_units {b bu cap k : Nat} {now : Int} {M0 : LM} {su sp sx sw : Value} {cu cw D G : List Chunk} {sv rest : List Value} {ws : List Int} {again : Bool} {N : Nat}
    (hsu : Sl 3 1 sw ws.length (iv ws) cw) (hcw : ∀ c ∈ cw, c ∈ G) (hD : ∀ c ∈ D, c ∈ G) (hws : 0 < ws.length) (hws8 : ws.length < 2 ^ 10) (hN : N < 2 ^ 40) (hsvl : sv.length = N) (hkN : k ≤ N) (hk8 : k ≤ 8) :
    ∀ (d i : Nat) (w : World) (pre post : List UM) (t : Int) (os : List OM) (s : Value) (co Db : List Chunk) (sv2 : List Value), i + d = k → pre.length = i → (pre ++ post).length = N → 0 ≤ t → t < 1125899906842624 + (i : Int) → os.length + d * 4096 < 268435456 →
      (∀ (i : Nat) (u : UM) (s : Value), (pre ++ post)[i]? = some u → sv[i]? = some s → RdL w0 D 1 s u.d.length (bv u.d) ∧ s.cells = #[s] ∧ scalar s = true) →
      OutP 90 w0 s os co Db sv2 → Hp w0 w (co ++ (Db ++ (⟨b, 96, lkc { M0 with us := pre ++ post, turn := t } su (.slice (some ⟨bu, 0, none⟩) N cap) sp sx⟩ :: ⟨bu, 101, ucells (pre ++ post) sv ++ rest⟩ :: G))) →
      (∀ w' s' co' Db' sv2', OutP 90 w0 s' (os ++ (outUs again now M0.quality ws d t post).1) co' Db' sv2' →
        (∀ (i : Nat) (u : UM) (s : Value), (pre ++ (outUs again now M0.quality ws d t post).2.1)[i]? = some u → sv[i]? = some s → RdL w0 D 1 s u.d.length (bv u.d) ∧ s.cells = #[s] ∧ scalar s = true) → (pre ++ (outUs again now M0.quality ws d t post).2.1).length = N →
        Hp w0 w' (co' ++ (Db' ++ (⟨b, 96, lkc { M0 with us := pre ++ (outUs again now M0.quality ws d t post).2.1, turn := (outUs again now M0.quality ws d t post).2.2 } su (.slice (some ⟨bu, 0, none⟩) N cap) sp sx⟩ :: ⟨bu, 101, ucells (pre ++ (outUs again now M0.quality ws d t post).2.1) sv ++ rest⟩ :: G))) →
        R (.returned (.tuple ⟨[s', I 0]⟩)) w') →
      F14_l2 R (d + 1) (ptr b 0) (I now) sw (.bool again) s (I (k : Int)) (I (i : Int)) w := by
  intro d
  induction d with
  | zero =>
    intro i w pre post t os s co Db sv2 hi hpre hlen ht0 ht hos hdat hP H hq
    rw [F14_l2_succ]
    unfold F14_b1 F14_j7
    simp only [WKt, mem, drewV, show decide ((i : Int) < (k : Int)) = false from decide_eq_false (by omega)]
    have e : outUs again now M0.quality ws 0 t post = ([], post, t) := by unfold outUs; rfl
    rw [e] at hq
    exact hq w s co Db sv2 (by simpa using hP) hdat hlen H
  | succ d ih =>
    intro i w pre post t os s co Db sv2 hi hpre hlen ht0 ht hos hdat hP H hq
    cases post with
    | nil => simp at hlen; omega
    | cons u r =>
      rw [F14_l2_succ]
      unfold F14_b1 F14_j10 F14_j12
      simp only [WKt, mem, drewV, show decide ((i : Int) < (k : Int)) = true from decide_eq_true (by omega)]
      have H1 : Hp w0 w (⟨b, 96, lkc { M0 with us := pre ++ u :: r, turn := t } su (.slice (some ⟨bu, 0, none⟩) N cap) sp sx⟩ :: ⟨bu, 101, ucells (pre ++ u :: r) sv ++ rest⟩ :: (co ++ (Db ++ G))) := H.to (by intro f; simp only [I, U8, U64, ptr, List.set_cons_zero, List.set_cons_succ, List.eraseIdx_cons_zero, List.eraseIdx_cons_succ, List.map_append, List.map_cons, List.map_nil, List.sum_append, List.sum_cons, List.sum_nil]; omega)
      refine ld_h H1 0 rfl rfl ?_
      rw [ixS_mk (by omega)]
      try simp only [WKt, mem, drewV]
      have hu : (pre ++ u :: r)[i]? = some u := by rw [List.getElem?_append_right (by omega), hpre, Nat.sub_self]; rfl
      obtain ⟨s1, hs1⟩ : ∃ s, sv[i]? = some s := ⟨_, List.getElem?_eq_getElem (by omega)⟩
      have hsv' : sv.length = (pre ++ u :: r).length := by rw [hsvl, hlen]
      have hulen := ucells_len hsv'
      have hcat : (ucells (pre ++ u :: r) sv ++ rest)[i * 6 + 5]? = some (I u.at_) := get_left (by have := ucells_get hu hs1 (j := 5) (by omega); simpa [ucell] using this)
      have next : ∀ {w : World} {s : Value}, (∀ {w'}, F14_l2 R (d + 1) (ptr b 0) (I now) sw (.bool again) s (I (k : Int)) (I ((i + 1 : Nat) : Int)) w' → F14_j11 R (F14_l2 R (d + 1)) (ptr b 0) (I now) sw (.bool again) s (I (k : Int)) (I (i : Int)) w') := by
        intro w s w' h
        unfold F14_j11
        simp only [WKt, mem, drewV]
        rw [wrap64_id (by omega) (by omega), show (i : Int) + 1 = ((i + 1 : Nat) : Int) from by omega]
        exact h
      -- the unit is left
      have skip : again = false → 0 ≤ u.at_ → F14_j11 R (F14_l2 R (d + 1)) (ptr b 0) (I now) sw (.bool again) s (I (k : Int)) (I (i : Int)) w := by
        intro ha hat
        have e : outUs again now M0.quality ws (d + 1) t (u :: r) = ((outUs again now M0.quality ws d t r).1, u :: (outUs again now M0.quality ws d t r).2.1, (outUs again now M0.quality ws d t r).2.2) := by
          rw [outUs, if_pos (by simp [ha, hat])]
        refine next (w := w) ?_
        have e1 : ∀ l : List UM, pre ++ [u] ++ l = pre ++ u :: l := fun l => by rw [List.append_assoc]; rfl
        refine ih (i + 1) w (pre ++ [u]) r t os s co Db sv2 (by omega) (by rw [List.length_append, hpre]; rfl) (by rw [e1]; exact hlen) ht0 (by omega) (Nat.lt_of_le_of_lt (Nat.add_le_add_left (Nat.mul_le_mul_right _ (Nat.le_succ d)) _) hos) (by rw [e1]; exact hdat) hP (by rw [e1]; exact H) ?_
        intro w' s' co' Db' sv2' g1 g2 g3 g4
        rw [e1] at g2 g3 g4
        rw [e] at hq
        exact hq w' s' co' Db' sv2' g1 g2 g3 g4
      -- the unit is sent
      have send : ¬ (again = false ∧ 0 ≤ u.at_) → F14_j13 R (F14_l2 R (d + 1)) (ptr b 0) (I now) sw (.bool again) s (ptr bu (i * 6)) (I (k : Int)) (I (i : Int)) w := by
        intro hns
        have e : outUs again now M0.quality ws (d + 1) t (u :: r) = (outWs u (overI M0.quality t ws) ++ (outUs again now M0.quality ws d (overT M0.quality t) r).1, { u with at_ := now } :: (outUs again now M0.quality ws d (overT M0.quality t) r).2.1, (outUs again now M0.quality ws d (overT M0.quality t) r).2.2) := by
          rw [outUs, if_neg]
          intro h; apply hns; simpa using h
        unfold F14_j13
        simp only [WKt, mem, drewV]
        refine st_h H1 1 rfl (by rw [List.length_append, hulen]; omega) rfl fun w1 H2 => ?_
        have eset : (ucells (pre ++ u :: r) sv ++ rest).set (i * 6 + 5) (I now) = ucells (pre ++ { u with at_ := now } :: r) sv ++ rest := by
          rw [set_left (by rw [hulen]; omega), ucells_at hu hs1]
          congr 2
          rw [List.set_append_right _ _ (by omega), hpre, Nat.sub_self]; rfl
        have H3 : Hp w0 w1 (⟨b, 96, lkc { M0 with us := pre ++ { u with at_ := now } :: r, turn := t } su (.slice (some ⟨bu, 0, none⟩) N cap) sp sx⟩ :: ⟨bu, 101, ucells (pre ++ { u with at_ := now } :: r) sv ++ rest⟩ :: (co ++ (Db ++ G))) := by
          rw [← eset]; exact H2
        refine cal_h (over_spec (M := { M0 with us := pre ++ { u with at_ := now } :: r, turn := t }) H3 hsu (fun c hc => by simp [hcw c hc]) hws (by omega) ht0 (by show t < _; omega)) ?_
        rintro e9 w2 ⟨s2, rfl, H4, hr2⟩
        simp only [WKt, mem, drewV]
        rw [lenS_rdL hr2]
        try simp only [WKt, mem, drewV]
        unfold F14_j14
        refine ⟨(overI M0.quality t ws).length + 1, ?_⟩
        have hu' : (pre ++ { u with at_ := now } :: r)[i]? = some { u with at_ := now } := by rw [List.getElem?_append_right (by omega), hpre, Nat.sub_self]; rfl
        have hdat' : ∀ (i' : Nat) (u' : UM) (s : Value), (pre ++ { u with at_ := now } :: r)[i']? = some u' → sv[i']? = some s → RdL w0 D 1 s u'.d.length (bv u'.d) ∧ s.cells = #[s] ∧ scalar s = true := by
          intro i' u' s' h1 h2
          by_cases hii : i' = i
          · subst hii
            rw [hu'] at h1; injection h1 with h1; subst h1
            exact hdat i' u s' hu h2
          · refine hdat i' u' s' ?_ h2
            rw [← h1]
            by_cases hl : i' < pre.length
            · rw [List.getElem?_append_left hl, List.getElem?_append_left hl]
            · rw [List.getElem?_append_right (by omega), List.getElem?_append_right (by omega)]
              obtain ⟨m, hm⟩ : ∃ m, i' - pre.length = m + 1 := ⟨i' - pre.length - 1, by omega⟩
              rw [hm]; rfl
        have hol := overI_len M0.quality t ws
        have e1 : ∀ l : List UM, pre ++ [{ u with at_ := now }] ++ l = pre ++ { u with at_ := now } :: l := fun l => by rw [List.append_assoc]; rfl
        have H4' : Hp w0 w2 (⟨b, 96, lkc { M0 with us := pre ++ { u with at_ := now } :: r, turn := overT M0.quality t } su (.slice (some ⟨bu, 0, none⟩) N cap) sp sx⟩ :: ⟨bu, 101, ucells (pre ++ { u with at_ := now } :: r) sv ++ rest⟩ :: (co ++ (Db ++ G))) := H4
        refine out_wires (G := G) (w0 := w0) (su := su) (sus := .slice (some ⟨bu, 0, none⟩) N cap) (sp := sp) (sx := sx) (us := pre ++ { u with at_ := now } :: r) (sv := sv) (rest := rest) (os0 := os) (wl := overI M0.quality t ws) (u := { u with at_ := now }) (M := { M0 with us := pre ++ { u with at_ := now } :: r, turn := overT M0.quality t }) hu' hs1 (by rw [hsvl, ← hlen]; simp)
          ((hdat' i _ s1 hu' hs1).1.mono hD) (hr2.mono hcw) (by omega) (by omega) ?_ (overI M0.quality t ws).length 0 w2 s co Db sv2 (by omega) (by simpa [outWs] using hP) (H4'.to (by intro f; simp only [I, U8, U64, ptr, List.set_cons_zero, List.set_cons_succ, List.eraseIdx_cons_zero, List.eraseIdx_cons_succ, List.map_append, List.map_cons, List.map_nil, List.sum_append, List.sum_cons, List.sum_nil]; omega))
        intro w5 s5 co5 Db5 sv5 hP5 H5
        refine next (w := w5) ?_
        refine ih (i + 1) w5 (pre ++ [{ u with at_ := now }]) r (overT M0.quality t) (os ++ outWs u (overI M0.quality t ws)) s5 co5 Db5 sv5 (by omega) (by rw [List.length_append, hpre]; rfl) (by rw [e1, ← hlen]; simp) ?_ ?_ (by simp [outWs]; omega) (by rw [e1]; exact hdat') hP5 (by rw [e1]; exact H5) ?_
        · unfold overT; split
          · exact ht0
          · split <;> omega
        · unfold overT; split
          · omega
          · split <;> omega
        intro w' s' co' Db' sv2' g1 g2 g3 g4
        rw [e1] at g2 g3 g4
        rw [e] at hq
        exact hq w' s' co' Db' sv2' (by rw [List.append_assoc] at g1; exact g1) g2 g3 g4
      cases ha : again with
      | true =>
        rw [ha] at send
        simp only [WKt, mem, drewV]
        exact send (by simp)
      | false =>
        rw [ha] at send skip
        simp only [WKt, mem, drewV]
        refine ld_h H1 1 rfl hcat ?_
        try simp only [WKt, mem, drewV]
        refine cnd_decide (fun h => ?_) (fun h => ?_)
        · exact skip rfl h
        · exact send (by simp; omega)
theorem outUs_all (again : Bool) (now q : Int) (ws : List Int) : ∀ (n m : Nat) (t : Int) (us : List UM), us.length ≤ n → us.length ≤ m → outUs again now q ws n t us = outUs again now q ws m t us
  | 0, 0, _, _, _, _ => rfl
  | 0, m + 1, t, us, h, _ => by
    have : us = [] := List.length_eq_zero_iff.1 (by omega)
    subst this; rfl
  | n + 1, 0, t, us, _, h => by
    have : us = [] := List.length_eq_zero_iff.1 (by omega)
    subst this; rfl
  | n + 1, m + 1, t, [], _, _ => rfl
  | n + 1, m + 1, t, u :: r, h1, h2 => by
    simp only [List.length_cons] at h1 h2
    simp only [outUs, outUs_all again now q ws n m _ r (by omega) (by omega)]
theorem outUs_min (again : Bool) (now q : Int) (ws : List Int) (t : Int) (us : List UM) : outUs again now q ws (min 8 us.length) t us = outUs again now q ws 8 t us := by
  by_cases h : 8 ≤ us.length
  · rw [Nat.min_eq_left h]
  · exact outUs_all _ _ _ _ _ _ _ _ (by omega) (by omega)
theorem outUs_len (again : Bool) (now q : Int) (ws : List Int) : ∀ (n : Nat) (t : Int) (us : List UM), (outUs again now q ws n t us).2.1.length = us.length
  | 0, _, _ => rfl
  | _ + 1, _, [] => rfl
  | n + 1, t, u :: r => by
    unfold outUs
    split <;> simp [outUs_len again now q ws n _ r]
/-- Output's answer. -/
def OutPost (w0 : Base) (F : List Chunk) (Lkx : Base → Nat → LM → List Chunk → Prop) (tO : Nat) (b : Nat) (M : LM) (now : Int) : ER := fun e w' =>
  ∃ s co Db sv L', e = .returned (.tuple ⟨[s, I (outE M now)]⟩) ∧ Hp w0 w' (co ++ (Db ++ (L' ++ F))) ∧ OutP tO w0 s (outV M now) co Db sv ∧ Lkx w0 b (outM M now) L'
/-- What a link keeps to. -/
structure Wf (M : LM) : Prop where
  up1 : 1 ≤ M.up.length
  up8 : M.up.length ≤ 8
  size : 32 ≤ M.size ∧ M.size ≤ 4096
  tout : 1 ≤ M.timeout ∧ M.timeout ≤ 1099511627776
  turn : 0 ≤ M.turn ∧ M.turn < 1125899906842624
  rep : 0 ≤ M.repeats ∧ M.repeats ≤ 6
  clock : 0 ≤ M.clock ∧ M.clock ≤ 1099511627776
  at_ : ∀ u ∈ M.us, -1 ≤ u.at_ ∧ u.at_ ≤ 1099511627776
  aw : ∀ a ∈ M.acks, a.w < M.up.length
  ul : M.us.length < 268435456
  al : M.acks.length < 134217728
  sd : 0 ≤ M.done ∧ M.done ≤ M.sent ∧ M.sent ≤ 1099511627776
end
end Go.Proofs.Ytmnpndgmfmjfhaa.Den
end

section
set_option linter.unusedVariables false
set_option linter.unusedSimpArgs false
set_option maxRecDepth 8000
namespace Go.Proofs.Ytmnpndgmfmjfhaa.Den
open Go Go.RowKit
section
variable {w w' : World} {w0 : Base} {F L : List Chunk} {R : ER}
theorem iv_ne {ws : List Int} (h : ws ≠ []) : 0 < ws.length := by
  cases ws with
  | nil => exact absurd rfl h
  | cons a l => simp
/-- Behind the acknowledgments. -/
theorem out_j5 {b : Nat} {M : LM} {now : Int} {again : Bool} {su sus sp sw s : Value} {cu cus cp ca D cw co Db : List Chunk} {sv sv2 : List Value} {ws : List Int} {os : List OM} (hlk : LkP 101 107 w0 M su sus sp (.slice none 0 0) cu cus cp [] D sv) (hwf : Wf M)
    (hsu : Sl 3 1 sw ws.length (iv ws) cw) (hws : 0 < ws.length) (hws8 : ws.length ≤ 8) (hos : os.length < 134217728) (hP : OutP 90 w0 s os co Db sv2) (hrep : M.repeats ≤ 6)
    (H : Hp w0 w (co ++ (Db ++ (⟨b, 96, lkc M su sus sp (.slice none 0 0)⟩ :: (cus ++ (cu ++ (cp ++ (cw ++ (D ++ F)))))))))
    (hq : ∀ w' s' co' Db' sv2' cus' , OutP 90 w0 s' (os ++ (outUs again now M.quality ws 8 M.turn M.us).1) co' Db' sv2' →
      LkP 101 107 w0 { M with repeats := if again then M.repeats + 1 else M.repeats, us := (outUs again now M.quality ws 8 M.turn M.us).2.1, turn := (outUs again now M.quality ws 8 M.turn M.us).2.2 } su sus sp (.slice none 0 0) cu cus' cp [] D sv →
      Hp w0 w' (co' ++ (Db' ++ (⟨b, 96, lkc { M with repeats := if again then M.repeats + 1 else M.repeats, us := (outUs again now M.quality ws 8 M.turn M.us).2.1, turn := (outUs again now M.quality ws 8 M.turn M.us).2.2 } su sus sp (.slice none 0 0)⟩ :: (cus' ++ (cu ++ (cp ++ (cw ++ (D ++ F)))))))) →
      R (.returned (.tuple ⟨[s', I 0]⟩)) w') : F14_j5 R (ptr b 0) (I now) sw (.bool again) s w := by
  have hrw : IntKind.i64.wrap (M.repeats + 1) = M.repeats + 1 := wrap64_id (by have := hwf.rep; omega) (by omega)
  -- the loop
  have fin : ∀ {w : World} {M1 : LM}, M1 = { M with repeats := if again then M.repeats + 1 else M.repeats } → Hp w0 w (⟨b, 96, lkc M1 su sus sp (.slice none 0 0)⟩ :: (co ++ (Db ++ (cus ++ (cu ++ (cp ++ (cw ++ (D ++ F)))))))) → F14_j6 R (ptr b 0) (I now) sw (.bool again) s w := by
    intro w M1 hM1 H
    subst hM1
    unfold F14_j6 F14_j8 F14_j9
    simp only [WKt, mem, drewV]
    refine ld_h H 0 rfl rfl ?_
    have e8 : min2I (.int .i64 8) (I ((M.us.length : Nat) : Int)) = some (I ((min 8 M.us.length : Nat) : Int)) := min2I_nat 8 _
    simp only [lenS_sl hlk.us, e8, WKt, mem, drewV]
    refine ⟨min 8 M.us.length + 1, ?_⟩
    by_cases hul : 0 < M.us.length
    · obtain ⟨bu, cap, rest, rfl, rfl, g1, g2, g3⟩ := hlk.us.chunk hul
      have hul2 := hwf.ul
      have H' : Hp w0 w (co ++ (Db ++ (⟨b, 96, lkc { M with repeats := if again then M.repeats + 1 else M.repeats } su (.slice (some ⟨bu, 0, none⟩) M.us.length cap) sp (.slice none 0 0)⟩ :: ⟨bu, 101, ucells M.us sv ++ rest⟩ :: (cu ++ (cp ++ (cw ++ (D ++ F))))))) := H.to (by intro f; simp only [I, U8, U64, ptr, List.set_cons_zero, List.set_cons_succ, List.eraseIdx_cons_zero, List.eraseIdx_cons_succ, List.map_append, List.map_cons, List.map_nil, List.sum_append, List.sum_cons, List.sum_nil]; omega)
      refine out_units (cu := cu) (cw := cw) (b := b) (bu := bu) (cap := cap) (k := min 8 M.us.length) (M0 := { M with repeats := if again then M.repeats + 1 else M.repeats }) (su := su) (sp := sp) (sx := .slice none 0 0) (D := D) (G := cu ++ (cp ++ (cw ++ (D ++ F)))) (sv := sv) (rest := rest) (N := M.us.length)
        hsu (fun c hc => by simp [hc]) (fun c hc => by simp [hc]) hws (by omega) (by omega) hlk.svl (by omega) (by omega) (min 8 M.us.length) 0 w [] M.us M.turn os s co Db sv2 (by omega) rfl rfl hwf.turn.1 (by have := hwf.turn.2; omega) (by omega) hlk.dat hP H' ?_
      intro w' s' co' Db' sv2' h1 h2 h3 h4
      simp only [List.nil_append] at h1 h2 h3 h4
      rw [outUs_min] at h1 h2 h3 h4
      refine hq w' s' co' Db' sv2' [⟨bu, 101, ucells (outUs again now M.quality ws 8 M.turn M.us).2.1 sv ++ rest⟩] h1 ⟨hlk.up, ?_, by rw [h3, hlk.svl], h2, hlk.part, hlk.acks⟩ h4
      refine .inr ⟨bu, cap, rest, rfl, ?_, ?_, ?_, ?_⟩
      · show Value.slice _ _ _ = Value.slice _ (outUs again now M.quality ws 8 M.turn M.us).2.1.length _
        rw [h3]
      · show (ucells (outUs again now M.quality ws 8 M.turn M.us).2.1 sv).length = _
        rw [ucells_len (by rw [hlk.svl]; exact h3.symm)]
      · show (outUs again now M.quality ws 8 M.turn M.us).2.1.length ≤ cap; rw [h3]; exact g2
      · show rest.length = (cap - (outUs again now M.quality ws 8 M.turn M.us).2.1.length) * 6; rw [h3]; exact g3
    · have hM : M.us = [] := List.length_eq_zero_iff.1 (by omega)
      have hm0 : min 8 M.us.length = 0 := by omega
      rw [hm0]
      show F14_l2 R (0 + 1) _ _ _ _ _ _ _ w
      rw [F14_l2_succ]
      unfold F14_b1 F14_j7
      simp only [WKt, mem, drewV, show decide ((0 : Int) < ((0 : Nat) : Int)) = false from rfl]
      have e : outUs again now M.quality ws 8 M.turn M.us = ([], [], M.turn) := by rw [hM]; rfl
      rw [e] at hq
      refine hq w s co Db sv2 cus (by simpa using hP) ⟨hlk.up, ?_, ?_, ?_, hlk.part, hlk.acks⟩ ?_
      · have := hlk.us; rw [hM] at this; exact this
      · have := hlk.svl; rw [hM] at this; exact this
      · intro i u s h; simp at h
      · have hc : lkc { M with repeats := if again then M.repeats + 1 else M.repeats, us := [], turn := M.turn } su sus sp (.slice none 0 0) = lkc { M with repeats := if again then M.repeats + 1 else M.repeats } su sus sp (.slice none 0 0) := rfl
        rw [hc]
        exact H.to (by intro f; simp only [I, U8, U64, ptr, List.set_cons_zero, List.set_cons_succ, List.eraseIdx_cons_zero, List.eraseIdx_cons_succ, List.map_append, List.map_cons, List.map_nil, List.sum_append, List.sum_cons, List.sum_nil]; omega)
  unfold F14_j5
  have H1 : Hp w0 w (⟨b, 96, lkc M su sus sp (.slice none 0 0)⟩ :: (co ++ (Db ++ (cus ++ (cu ++ (cp ++ (cw ++ (D ++ F)))))))) := H.to (by intro f; simp only [I, U8, U64, ptr, List.set_cons_zero, List.set_cons_succ, List.eraseIdx_cons_zero, List.eraseIdx_cons_succ, List.map_append, List.map_cons, List.map_nil, List.sum_append, List.sum_cons, List.sum_nil]; omega)
  cases ha : again with
  | true =>
    rw [ha] at fin
    simp only [WKt, mem, drewV]
    refine ld_h H1 0 rfl rfl ?_
    simp only [WKt, mem, drewV]
    refine st_h H1 0 rfl (by simp [lkc]) rfl fun w2 H2 => ?_
    rw [hrw] at H2
    exact fin rfl H2
  | false =>
    rw [ha] at fin
    simp only [WKt, mem, drewV]
    exact fin rfl H1
set_option maxHeartbeats 800000 in
theorem Output_spec {b : Nat} {M : LM} {now : Int} (H : Hp w0 w (L ++ F)) (hL : Lk w0 b M L) (hwf : Wf M) : Calls Pg 14 ⟨[ptr b 0, I now]⟩ w (OutPost w0 F Lk 90 b M now) := by
  obtain ⟨su, sus, sp, sa, cu, cus, cp, ca, D, sv, hlk, rfl⟩ := hL
  have H0 : Hp w0 w (⟨b, 96, lkc M su sus sp sa⟩ :: (cus ++ (cu ++ (cp ++ (ca ++ (D ++ F)))))) := H.to (by intro f; simp only [I, U8, U64, ptr, List.set_cons_zero, List.set_cons_succ, List.eraseIdx_cons_zero, List.eraseIdx_cons_succ, List.map_append, List.map_cons, List.map_nil, List.sum_append, List.sum_cons, List.sum_nil]; omega)
  apply F14_calls
  unfold F14 F14_j1
  simp only [WKt, mem, drewV]
  refine cal_h (time_spec (now := now) H0) ?_
  rintro e w1 ⟨rfl, rfl⟩
  simp only [WKt, mem, drewV]
  refine cnd_decide (fun h => ?_) (fun h => ?_)
  · refine ⟨.slice none 0 0, [], [], [], _, ?_, H0.to (L' := [] ++ ([] ++ ((⟨b, 96, lkc M su sus sp sa⟩ :: (cu ++ (cus ++ (cp ++ (ca ++ D))))) ++ F))) (by intro f; simp only [I, U8, U64, ptr, List.set_cons_zero, List.set_cons_succ, List.eraseIdx_cons_zero, List.eraseIdx_cons_succ, List.map_append, List.map_cons, List.map_nil, List.sum_append, List.sum_cons, List.sum_nil]; omega), ?_, ?_⟩
    · unfold outE; rw [if_pos h]
    · have : outV M now = [] := by unfold outV; rw [if_pos]; unfold outE; rw [if_pos h]; exact h
      rw [this]; exact OutP.nil
    · unfold outM; rw [if_pos h]; exact ⟨_, _, _, _, _, _, _, _, _, _, hlk, rfl⟩
  have ht : timeE M now = 0 := by simpa using h
  have hnow : 0 ≤ now ∧ now ≤ 1099511627776 := by
    unfold timeE at ht
    by_cases hn : now < 0 ∨ 1099511627776 < now
    · rw [if_pos hn] at ht; exact absurd ht (by decide)
    · omega
  unfold F14_j2
  refine cal_h (usable_spec (b := b) H0 hlk.up (fun c hc => by simp [hc]) (by have := hwf.up8; omega)) ?_
  rintro e w2 ⟨sw, cw, rfl, H2, hsw⟩
  have H3 : Hp w0 w2.drew (⟨b, 96, lkc M su sus sp sa⟩ :: (cw ++ (cus ++ (cu ++ (cp ++ (ca ++ (D ++ F))))))) := H2.drew.to (by intro f; simp only [I, U8, U64, ptr, List.set_cons_zero, List.set_cons_succ, List.eraseIdx_cons_zero, List.eraseIdx_cons_succ, List.map_append, List.map_cons, List.map_nil, List.sum_append, List.sum_cons, List.sum_nil]; omega)
  simp only [WKt, mem, drewV]
  -- again
  have hag : ∀ {G : V1}, G (.bool (againB M now)) w2.drew → (ld1 (ptr b 5) fun v93 => pv (lenS v93) fun v94 => pv (bin .gtr v94 (I 0)) fun v95 => gd v95 true (pv (some (ptr b 0))) fun v96 => gd v95 true (pv (nilO v96)) fun v97 => gd v95 true (pv (faO 5 v97)) fun v98 =>
      gd v95 true (ld1 v98) fun v99 => gd v95 true (pv (ixS 6 v99 (I 0))) fun v100 => gd v95 true (pv (faO 5 v100)) fun v101 => gd v95 true (ld1 v101) fun v102 => gd v95 true (pv (bin .geq v102 (I 0))) fun v103 => pv (pickO v95 v103 (.bool false)) fun v104 =>
      gd v104 true (pv (some (I now))) fun v105 => gd v104 true (pv (some (ptr b 0))) fun v106 => gd v104 true (pv (nilO v106)) fun v107 => gd v104 true (pv (faO 5 v107)) fun v108 => gd v104 true (ld1 v108) fun v109 => gd v104 true (pv (ixS 6 v109 (I 0))) fun v110 =>
      gd v104 true (pv (faO 5 v110)) fun v111 => gd v104 true (ld1 v111) fun v112 => gd v104 true (pv (bin .sub v105 v112)) fun v113 => gd v104 true (pv (some (ptr b 0))) fun v114 => gd v104 true (pv (nilO v114)) fun v115 => gd v104 true (pv (faO 3 v115)) fun v116 =>
      gd v104 true (ld1 v116) fun v117 => gd v104 true (pv (bin .geq v113 v117)) fun v118 => pv (pickO v104 v118 (.bool false)) G) w2.drew := by
    intro G hG
    refine ld_h H3 0 rfl rfl ?_
    simp only [lenS_sl hlk.us, WKt, mem, drewV]
    cases hM : M.us with
    | nil =>
      have ea : againB M now = false := by unfold againB; rw [hM]
      rw [ea] at hG
      simp only [List.length_nil, show decide ((0 : Int) < ((0 : Nat) : Int)) = false from rfl, WKt, mem, drewV]
      exact hG
    | cons u r =>
      have hul : 0 < M.us.length := by rw [hM]; simp
      obtain ⟨bu, cap, rest, hcus, hsus, g1, g2, g3⟩ := hlk.us.chunk hul
      obtain ⟨s, hs⟩ : ∃ s, sv[0]? = some s := ⟨_, List.getElem?_eq_getElem (by rw [hlk.svl]; exact hul)⟩
      have hu : M.us[0]? = some u := by rw [hM]; rfl
      have hc5 : (ucells M.us sv ++ rest)[5]? = some (I u.at_) := get_left (by have := ucells_get hu hs (j := 5) (by omega); simpa [ucell] using this)
      have e0 : ixS 6 sus (.int .i64 0) = some (ptr bu 0) := by
        rw [hsus]; have := ixS_mk (sz := 6) (b := bu) (o := 0) (c := cap) (n := M.us.length) (j := 0) (k := .i64) hul; simpa using this
      have hblk : w2.drew.cell? ⟨bu, 5, none⟩ = some (I u.at_) := by
        have hm : (⟨bu, 101, ucells M.us sv ++ rest⟩ : Chunk) ∈ ⟨b, 96, lkc M su sus sp sa⟩ :: (cw ++ (cus ++ (cu ++ (cp ++ (ca ++ (D ++ F)))))) := by rw [hcus]; simp
        rw [(H3.blk _ hm).2.cell]; exact hc5
      have hat := hwf.at_ u (by rw [hM]; simp)
      simp only [show decide ((0 : Int) < (((u :: r).length : Nat) : Int)) = true from decide_eq_true (by simp), WKt, mem, drewV]
      refine ld_h H3 0 rfl rfl ?_
      simp only [e0, WKt, mem, drewV]
      refine ld1_a hblk ?_
      simp only [WKt, mem, drewV]
      by_cases h0 : 0 ≤ u.at_
      · simp only [decide_eq_true h0, WKt, mem, drewV]
        refine ld_h H3 0 rfl rfl ?_
        simp only [e0, WKt, mem, drewV]
        refine ld1_a hblk ?_
        simp only [WKt, mem, drewV]
        refine ld_h H3 0 rfl rfl ?_
        simp only [WKt, mem, drewV]
        rw [wrap64_id (by omega) (by omega)]
        have ea : againB M now = decide (M.timeout ≤ now - u.at_) := by unfold againB; rw [hM]; simp [h0]
        rw [← ea]; exact hG
      · simp only [decide_eq_false h0, WKt, mem, drewV]
        have ea : againB M now = false := by unfold againB; rw [hM]; simp [h0]
        rw [ea] at hG; exact hG
  have goal : F14_j23 (OutPost w0 F Lk 90 b M now) (ptr b 0) (I now) sw (.bool (againB M now)) w2.drew := by
    have hlen8 : (useI 0 M.up).length ≤ 8 := Nat.le_trans (useI_le _ _) hwf.up8
    -- the rest
    have go : ¬ (againB M now = true ∧ useI 0 M.up ≠ [] ∧ M.repeats = 6) → F14_j3 (OutPost w0 F Lk 90 b M now) (ptr b 0) (I now) sw (.bool (againB M now)) w2.drew := by
      intro hnb
      have hE : outE M now = 0 := by unfold outE; rw [if_neg h, if_neg hnb]
      unfold F14_j3
      simp only [WKt, mem, drewV]
      refine st_h H3 0 rfl (by simp [lkc]) rfl fun w3 H4 => ?_
      replace H4 : Hp w0 w3 (⟨b, 96, lkc { M with clock := now } su sus sp sa⟩ :: (cw ++ (cus ++ (cu ++ (cp ++ (ca ++ (D ++ F))))))) := H4
      refine ld_h H4 0 rfl rfl ?_
      try simp only [WKt, mem, drewV]
      refine st_h H4 0 rfl (by simp [lkc]) rfl fun w4 H5 => ?_
      replace H5 : Hp w0 w4 (⟨b, 96, lkc { M with clock := now, acks := [] } su sus sp (.slice none 0 0)⟩ :: (cw ++ (cus ++ (cu ++ (cp ++ (ca ++ (D ++ F))))))) := H5
      simp only [lenS_sl hsw, WKt, mem, drewV]
      have hlk5 : LkP 101 107 w0 { M with clock := now, acks := [] } su sus sp (.slice none 0 0) cu cus cp [] D sv := ⟨hlk.up, hlk.us, hlk.svl, hlk.dat, hlk.part, Sl.nil⟩
      refine cnd_decide (fun h0 => ?_) (fun h0 => ?_)
      · have hws : useI 0 M.up = [] := List.length_eq_zero_iff.1 (by omega)
        refine ⟨.slice none 0 0, [], [], [], ⟨b, 96, lkc { M with clock := now, acks := [] } su sus sp (.slice none 0 0)⟩ :: (cu ++ (cus ++ (cp ++ ([] ++ D)))), ?_, H5.to (by intro f; simp only [I, U8, U64, ptr, List.set_cons_zero, List.set_cons_succ, List.eraseIdx_cons_zero, List.eraseIdx_cons_succ, List.map_append, List.map_cons, List.map_nil, List.sum_append, List.sum_cons, List.sum_nil]; omega), ?_, ?_⟩
        · rw [hE]
        · have : outV M now = [] := by unfold outV; rw [if_neg (by rw [hE]; simp), if_pos hws]
          rw [this]; exact OutP.nil
        · have : outM M now = { M with clock := now, acks := [] } := by unfold outM; rw [if_neg h, if_neg hnb, if_pos hws]
          rw [this]; exact ⟨_, _, _, _, _, _, _, _, _, _, hlk5, rfl⟩
      · have hws : useI 0 M.up ≠ [] := fun hn => by rw [hn] at h0; simp at h0
        have hw0 := iv_ne hws
        unfold F14_j4 F14_j16 F14_j17
        simp only [lenS_sl hlk.acks, WKt, mem, drewV]
        refine ⟨M.acks.length + 1, ?_⟩
        refine out_acks (b := b) (M := { M with clock := now, acks := [] }) (su := su) (sus := sus) (sp := sp) (sx := .slice none 0 0) (acks := M.acks) (ws := useI 0 M.up) (G := cw ++ (cus ++ (cu ++ (cp ++ (ca ++ (D ++ F)))))) hlk.up hlk.acks hsw hw0 hwf.aw (by have := hwf.al; omega)
          (fun c hc => by simp [hc]) (fun c hc => by simp [hc]) (fun c hc => by simp [hc]) ?_ M.acks.length 0 w4 (.slice none 0 0) [] [] [] (by omega) OutP.nil H5
        intro w5 s5 co5 Db5 sv5 hP5 H6
        have hwf5 : Wf { M with clock := now, acks := [] } := { hwf with clock := hnow, aw := fun a ha => by simp at ha, al := by simp }
        refine out_j5 (M := { M with clock := now, acks := [] }) (cus := cus) (cu := cu) (cp := cp) (ca := []) (D := D) (cw := cw) (F := F) hlk5 hwf5 hsw hw0 hlen8 (by have := hwf.al; simpa using this) hP5 hwf.rep.2 (H6.to (by intro f; simp only [I, U8, U64, ptr, List.set_cons_zero, List.set_cons_succ, List.eraseIdx_cons_zero, List.eraseIdx_cons_succ, List.map_append, List.map_cons, List.map_nil, List.sum_append, List.sum_cons, List.sum_nil]; omega)) ?_
        intro w6 s6 co6 Db6 sv6 cus6 hP6 hlk6 H7
        have eV : outV M now = M.acks.map (outAck M.up (useI 0 M.up)) ++ (outUs (againB M now) now M.quality (useI 0 M.up) 8 M.turn M.us).1 := by unfold outV; rw [if_neg (by rw [hE]; simp), if_neg hws]
        have eM : outM M now = { M with clock := now, acks := [], repeats := if againB M now then M.repeats + 1 else M.repeats, us := (outUs (againB M now) now M.quality (useI 0 M.up) 8 M.turn M.us).2.1, turn := (outUs (againB M now) now M.quality (useI 0 M.up) 8 M.turn M.us).2.2 } := by
          unfold outM; rw [if_neg h, if_neg hnb, if_neg hws]
        refine ⟨s6, co6, Db6, sv6, ⟨b, 96, lkc (outM M now) su sus sp (.slice none 0 0)⟩ :: (cu ++ (cus6 ++ (cp ++ ([] ++ D)))), by rw [hE], ?_, by rw [eV]; exact hP6, ?_⟩
        · rw [eM]; exact H7.to (by intro f; simp only [I, U8, U64, ptr, List.set_cons_zero, List.set_cons_succ, List.eraseIdx_cons_zero, List.eraseIdx_cons_succ, List.map_append, List.map_cons, List.map_nil, List.sum_append, List.sum_cons, List.sum_nil]; omega)
        · rw [eM]; exact ⟨_, _, _, _, _, _, _, _, _, _, hlk6, rfl⟩
    unfold F14_j23
    cases ha : againB M now with
    | false =>
      rw [ha] at go
      simp only [WKt, mem, drewV]
      exact go (by simp)
    | true =>
      rw [ha] at go
      simp only [lenS_sl hsw, WKt, mem, drewV]
      by_cases h0 : (0 : Int) < (((useI 0 M.up).length : Nat) : Int)
      · have hws : useI 0 M.up ≠ [] := fun hn => by rw [hn] at h0; simp at h0
        simp only [decide_eq_true h0, WKt, mem, drewV]
        refine ld_h H3 0 rfl rfl ?_
        simp only [WKt, mem, drewV]
        refine cnd_decide (fun h6 => ?_) (fun h6 => ?_)
        · refine st_h H3 0 rfl (by simp [lkc]) rfl fun w3 H4 => ?_
          replace H4 : Hp w0 w3 (⟨b, 96, lkc { M with broken := true } su sus sp sa⟩ :: (cw ++ (cus ++ (cu ++ (cp ++ (ca ++ (D ++ F))))))) := H4
          have hb : againB M now = true ∧ useI 0 M.up ≠ [] ∧ M.repeats = 6 := ⟨ha, hws, h6⟩
          have hE : outE M now = 4 := by unfold outE; rw [if_neg h, if_pos hb]
          refine ⟨.slice none 0 0, [], [], [], ⟨b, 96, lkc { M with broken := true } su sus sp sa⟩ :: (cu ++ (cus ++ (cp ++ (ca ++ D)))), by rw [hE], H4.to (by intro f; simp only [I, U8, U64, ptr, List.set_cons_zero, List.set_cons_succ, List.eraseIdx_cons_zero, List.eraseIdx_cons_succ, List.map_append, List.map_cons, List.map_nil, List.sum_append, List.sum_cons, List.sum_nil]; omega), ?_, ?_⟩
          · have : outV M now = [] := by unfold outV; rw [if_pos]; rw [hE]; decide
            rw [this]; exact OutP.nil
          · have : outM M now = { M with broken := true } := by unfold outM; rw [if_neg h, if_pos hb]
            rw [this]; exact ⟨_, _, _, _, _, _, _, _, _, _, ⟨hlk.up, hlk.us, hlk.svl, hlk.dat, hlk.part, hlk.acks⟩, rfl⟩
        · exact go (fun hh => h6 hh.2.2)
      · simp only [decide_eq_false h0, WKt, mem, drewV]
        exact go (fun hh => h0 (by have := iv_ne hh.2.1; omega))
  have := hag (G := fun v119 => F14_j23 (OutPost w0 F Lk 90 b M now) (ptr b 0) (I now) sw v119) goal
  try simp only [WKt, mem, drewV] at this
  exact this
end
end Go.Proofs.Ytmnpndgmfmjfhaa.Den
end

section
set_option linter.unusedVariables false
set_option linter.unusedSimpArgs false
set_option maxRecDepth 8000
namespace Go.Proofs.Ytmnpndgmfmjfhaa.Den
open Go Go.RowKit
theorem ozip_len : ∀ (os : List OM) (sv : List Value), ∀ l ∈ List.zipWith ocell os sv, l.length = 2
  | [], _, l, h => by simp at h
  | _ :: _, [], l, h => by simp at h
  | u :: us, s :: sv, l, h => by
    simp only [List.zipWith_cons_cons, List.mem_cons] at h
    rcases h with rfl | h
    · rfl
    · exact ozip_len us sv l h
theorem ocells_get {os : List OM} {sv : List Value} {i j : Nat} {o : OM} {s : Value} (ho : os[i]? = some o) (hs : sv[i]? = some s) (hj : j < 2) : (ocells os sv)[i * 2 + j]? = (ocell o s)[j]? :=
  flat_get (sz := 2) (ozip_len os sv) (by simp [List.getElem?_zipWith, ho, hs]) hj
def awM : LM := newM 2 32 0 10
def awD : List Int := List.replicate 20 0
def z8 : List Int := [0, 0, 0, 0, 0, 0, 0, 0]
theorem awE : sendE awM awD 0 = 0 := by decide
theorem awS : sendM awM awD 0 = { awM with sent := 1, us := [⟨false, 1, 0, z8, -1⟩, ⟨false, 1, 1, z8, -1⟩, ⟨true, 1, 2, [0, 0, 0, 0], -1⟩] } := by rfl
def awM1 : LM := { awM with sent := 1, us := [⟨false, 1, 0, z8, -1⟩, ⟨false, 1, 1, z8, -1⟩, ⟨true, 1, 2, [0, 0, 0, 0], -1⟩] }
theorem awOE : outE awM1 0 = 0 := by decide
theorem awV : outV awM1 0 = [(0, encR 1 false 1 0 z8), (0, encR 1 false 1 1 z8), (0, encR 1 true 1 2 [0, 0, 0, 0])] := by rfl
theorem awO : outM awM1 0 = { awM1 with us := [⟨false, 1, 0, z8, 0⟩, ⟨false, 1, 1, z8, 0⟩, ⟨true, 1, 2, [0, 0, 0, 0], 0⟩] } := by rfl
theorem awN : nextV (outM awM1 0) = (10, true) := by rw [awO]; rfl
theorem aw28 : (encR 1 true 1 2 [0, 0, 0, 0]).length = 28 := by
  unfold encR
  rw [if_pos (by decide), encB_length]; rfl
theorem newM_wf {n : Nat} {size q t : Int} (h1 : 1 ≤ n) (h8 : n ≤ 8) (hs : 32 ≤ size ∧ size ≤ 4096) (ht : 1 ≤ t ∧ t ≤ 1099511627776) : Wf (newM n size q t) where
  up1 := by simp [newM]; exact h1
  up8 := by simp [newM]; exact h8
  size := hs
  tout := ht
  turn := by simp [newM]
  rep := by simp [newM]
  clock := by simp [newM]
  at_ := by intro u hu; simp [newM] at hu
  aw := by intro a ha; simp [newM] at ha
  ul := by simp [newM]
  al := by simp [newM]
  sd := by simp [newM]
theorem awW : Wf awM1 := by
  have h := newM_wf (n := 2) (size := 32) (q := 0) (t := 10) (by omega) (by omega) (by decide) (by decide)
  exact { h with
    at_ := by intro u hu; simp [awM1] at hu; rcases hu with rfl | rfl | rfl <;> decide
    ul := by decide
    sd := by decide }
section
variable {w w' : World} {w0 : Base} {F L : List Chunk} {R : ER}
theorem awake_spec (H : Hp w0 w F) : Calls Pg 11 ⟨[]⟩ w fun e w' => e = .returned (.bool true) ∧ Hp w0 w' F := by
  apply F11_calls
  unfold F11
  refine cal_h (New_spec (wires := 2) (size := 32) (quality := 0) (timeout := 10) H) ?_
  rintro e w1 ⟨_, hn⟩
  obtain ⟨b, L, rfl, H1, hL⟩ := hn (by decide)
  simp only [WKt, mem, drewV]
  simp only [show decide ((0 : Int) ≠ 0) = false from rfl, WKt, mem, drewV]
  unfold F11_j1
  refine make_h elT24 H1 (n := 20) (c := 20) rfl rfl (by omega) (by omega) (by omega) fun w2 nb H2 => ?_
  have H2' : Hp w0 w2 (L ++ (⟨nb, 5, bv awD⟩ :: F)) := by
    have e : (List.replicate 20 [U8 0]).flatten = bv awD := rfl
    rw [e] at H2
    exact H2.to (by intro f; simp only [I, U8, U64, ptr, List.set_cons_zero, List.set_cons_succ, List.eraseIdx_cons_zero, List.eraseIdx_cons_succ, List.map_append, List.map_cons, List.map_nil, List.sum_append, List.sum_cons, List.sum_nil]; omega)
  have hs : RdL w0 (⟨nb, 5, bv awD⟩ :: F) 1 (.slice (some ⟨nb, 0, none⟩) 20 20) awD.length (bv awD) := .inr ⟨nb, 0, 20, 5, bv awD, rfl, by decide, by simp, by decide, rfl⟩
  refine cal_h (Send_spec (M := awM) (now := 0) H2' hL hs (by decide) (by decide) (by decide) (by decide)) ?_
  rintro e w3 ⟨L3, rfl, H3, hL3⟩
  rw [awE, if_pos rfl]
  rw [show sendM awM awD 0 = awM1 from awS] at hL3
  simp only [WKt, mem, drewV]
  refine cal_h (Output_spec (now := 0) H3 hL3 awW) ?_
  rintro e w4 ⟨s, co, Db, sv, L4, rfl, H4, hP, hL4⟩
  simp only [WKt, mem, drewV]
  have H4' : Hp w0 w4 (L4 ++ (co ++ (Db ++ (⟨nb, 5, bv awD⟩ :: F)))) := H4.to (by intro f; simp only [I, U8, U64, ptr, List.set_cons_zero, List.set_cons_succ, List.eraseIdx_cons_zero, List.eraseIdx_cons_succ, List.map_append, List.map_cons, List.map_nil, List.sum_append, List.sum_cons, List.sum_nil]; omega)
  refine cal_h (Next_spec H4' hL4 (by rw [awO]; decide) (by rw [awO]; intro u hu; simp at hu; rcases hu with rfl | rfl | rfl <;> decide) (by rw [awO]; decide) (by rw [awO]; decide)) ?_
  rintro e w5 ⟨rfl, H5⟩
  rw [awN, awOE]
  have hol : (outV awM1 0).length = 3 := by rw [awV]; rfl
  obtain ⟨bo, cap, rest, rfl, rfl, g1, g2, g3⟩ := hP.sl.chunk (by rw [hol]; omega)
  obtain ⟨s2, hs2⟩ : ∃ s, sv[2]? = some s := ⟨_, List.getElem?_eq_getElem (by rw [hP.svl, hol]; omega)⟩
  have ho2 : (outV awM1 0)[2]? = some (0, encR 1 true 1 2 [0, 0, 0, 0]) := by rw [awV]; rfl
  have hd := hP.dat 2 _ s2 ho2 hs2
  rw [aw28] at hd
  have e1 : ((1 : Int) = awM.sent + 1) := rfl
  have ei : ixS 2 (.slice (some ⟨bo, 0, none⟩) (outV awM1 0).length cap) (.int .i64 2) = some (ptr bo 4) := by
    have := ixS_mk (sz := 2) (b := bo) (o := 0) (c := cap) (n := (outV awM1 0).length) (j := 2) (k := .i64) (by rw [hol]; omega); simpa using this
  have hcell : w5.cell? ⟨bo, 5, none⟩ = some s2 := by
    have hm : (⟨bo, 90, ocells (outV awM1 0) sv ++ rest⟩ : Chunk) ∈ L4 ++ ([⟨bo, 90, ocells (outV awM1 0) sv ++ rest⟩] ++ (Db ++ (⟨nb, 5, bv awD⟩ :: F))) := by simp
    rw [(H5.blk _ hm).2.cell]
    exact get_left (by have := ocells_get ho2 hs2 (j := 1) (by omega); simpa [ocell] using this)
  rw [hol] at ei
  try simp only [lenS_mk, hol]
  try simp only [lenS_mk, hol, ei, WKt, mem, drewV]
  have eS : decide (awM.sent + 1 = 1) = true := rfl
  have e3 : decide (((3 : Nat) : Int) = 3) = true := rfl
  simp only [decide_true, eS, e3, lenS_mk, ei, WKt, mem, drewV]
  refine ld1_a hcell ?_
  have e28 : decide (((28 : Nat) : Int) = 28) = true := rfl
  simp only [lenS_rdL hd, decide_true, e28, WKt, mem, drewV]
  exact ⟨by trivial, H5.to (by intro f; simp only [I, U8, U64, ptr, List.set_cons_zero, List.set_cons_succ, List.eraseIdx_cons_zero, List.eraseIdx_cons_succ, List.map_append, List.map_cons, List.map_nil, List.sum_append, List.sum_cons, List.sum_nil]; omega)⟩
end
end Go.Proofs.Ytmnpndgmfmjfhaa.Den
end

section
set_option linter.unusedVariables false
set_option linter.unusedSimpArgs false
set_option maxRecDepth 8000
namespace Go.Proofs.Ytmnpndgmfmjfhaa.Den
open Go Go.RowKit
def rlc (M : LM) (su sus sp sa : Value) : List Value :=
  [su, I M.size, I M.quality, I M.timeout, I M.clock, sus, I M.sent, I M.done, I M.repeats, I M.turn, .bool M.broken, I M.msg, I M.frag, sp, sa]
/-- A link of the reference stands at block b in the chunks L. -/
def rLk (w0 : Base) (b : Nat) (M : LM) (L : List Chunk) : Prop :=
  ∃ su sus sp sa cu cus cp ca D sv, LkP 141 144 w0 M su sus sp sa cu cus cp ca D sv ∧ L = ⟨b, 125, rlc M su sus sp sa⟩ :: (cu ++ (cus ++ (cp ++ (ca ++ D))))
theorem elT122 : ElT 122 141 6 64 [I 0, .bool false, I 0, I 0, .slice none 0 0, I 0] := ⟨by kernel_rfl, by kernel_rfl, rfl⟩
theorem elT123 : ElT 123 144 6 64 [I 0, I 0, .bool false, I 0, I 0, .slice none 0 0] := ⟨by kernel_rfl, by kernel_rfl, rfl⟩
theorem elT127 : ElT 127 145 2 32 [I 0, .slice none 0 0] := ⟨by kernel_rfl, by kernel_rfl, rfl⟩
section
variable {w : World} {w0 : Base} {F L : List Chunk} {R : ER}
theorem rnew_l {wires b : Nat} {size quality timeout : Int} (hw : wires ≤ 8)
    (k : ∀ w' L', Hp w0 w' (L' ++ F) → rLk w0 b (newM wires size quality timeout) L' → R (.returned (.tuple ⟨[ptr b 0, I 0]⟩)) w') :
    ∀ (d j : Nat) (w : World) (su : Value) (cu : List Chunk), j + d = wires → Sl 4 1 su j (List.replicate j (.bool true)) cu →
      Hp w0 w (cu ++ (⟨b, 125, rlc (newM wires size quality timeout) su (.slice none 0 0) (.slice none 0 0) (.slice none 0 0)⟩ :: F)) →
      F30_l1 R (d + 1) (I (wires : Int)) (ptr b 0) (I (j : Int)) w := by
  intro d
  induction d with
  | zero =>
    intro j w su cu hj hS H
    rw [F30_l1_succ]
    unfold F30_b1 F30_j3
    simp only [WKt, mem, drewV, show decide ((j : Int) < (wires : Int)) = false from decide_eq_false (by omega)]
    have hj : j = wires := by omega
    subst hj
    refine k w (⟨b, 125, rlc (newM j size quality timeout) su (.slice none 0 0) (.slice none 0 0) (.slice none 0 0)⟩ :: cu) (H.to (by intro f; simp only [I, U8, U64, ptr, List.set_cons_zero, List.set_cons_succ, List.eraseIdx_cons_zero, List.eraseIdx_cons_succ, List.map_append, List.map_cons, List.map_nil, List.sum_append, List.sum_cons, List.sum_nil]; omega)) ⟨su, .slice none 0 0, .slice none 0 0, .slice none 0 0, cu, [], [], [], [], [], ?_, by simp⟩
    refine ⟨?_, Sl.nil, rfl, fun i u s h => by simp [newM] at h, Sl.nil, Sl.nil⟩
    simpa [newM] using hS
  | succ d ih =>
    intro j w su cu hj hS H
    rw [F30_l1_succ]
    unfold F30_b1 F30_j6
    simp only [WKt, mem, drewV, show decide ((j : Int) < (wires : Int)) = true from decide_eq_true (by omega)]
    have H0 : Hp w0 w (⟨b, 125, rlc (newM wires size quality timeout) su (.slice none 0 0) (.slice none 0 0) (.slice none 0 0)⟩ :: (cu ++ F)) := H.to (by intro f; simp only [I, U8, U64, ptr, List.set_cons_zero, List.set_cons_succ, List.eraseIdx_cons_zero, List.eraseIdx_cons_succ, List.map_append, List.map_cons, List.map_nil, List.sum_append, List.sum_cons, List.sum_nil]; omega)
    refine ld_h H0 0 rfl rfl ?_
    refine lit1s_h elT92 H0 rfl fun w1 nb H1 => ?_
    have H1' : Hp w0 w1 (cu ++ (⟨nb, 4, [.bool true]⟩ :: ⟨b, 125, rlc (newM wires size quality timeout) su (.slice none 0 0) (.slice none 0 0) (.slice none 0 0)⟩ :: F)) := H1.to (by intro f; simp only [I, U8, U64, ptr, List.set_cons_zero, List.set_cons_succ, List.eraseIdx_cons_zero, List.eraseIdx_cons_succ, List.map_append, List.map_cons, List.map_nil, List.sum_append, List.sum_cons, List.sum_nil]; omega)
    refine append_h (m := 1) (ys := [.bool true]) elT92 H1' hS (.inr ⟨nb, 0, 1, 4, [.bool true], rfl, by omega, by simp, by simp, rfl⟩) (by intro c hc; simp at hc; subst hc; rfl) (by omega) (by omega) fun w2 s2 cs2 H2 hS2 => ?_
    try simp only [WKt, mem, drewV]
    have H2' : Hp w0 w2 (⟨b, 125, rlc (newM wires size quality timeout) su (.slice none 0 0) (.slice none 0 0) (.slice none 0 0)⟩ :: (cs2 ++ (⟨nb, 4, [.bool true]⟩ :: F))) := H2.to (by intro f; simp only [I, U8, U64, ptr, List.set_cons_zero, List.set_cons_succ, List.eraseIdx_cons_zero, List.eraseIdx_cons_succ, List.map_append, List.map_cons, List.map_nil, List.sum_append, List.sum_cons, List.sum_nil]; omega)
    refine st_h H2' 0 rfl (by simp [rlc]) (rd_cells (hS2.rdL (w0 := w0) (L := cs2) fun c hc => hc)).2 fun w3 H3 => ?_
    simp only [List.set_cons_zero] at H3
    rw [wrap64_id (by omega) (by omega), show (j : Int) + 1 = ((j + 1 : Nat) : Int) from by omega]
    refine ih (j + 1) w3 s2 cs2 (by omega) (by rw [List.replicate_succ']; exact hS2) ?_
    have H3' : Hp w0 w3 (⟨b, 125, rlc (newM wires size quality timeout) s2 (.slice none 0 0) (.slice none 0 0) (.slice none 0 0)⟩ :: (cs2 ++ (⟨nb, 4, [.bool true]⟩ :: F))) := H3
    exact H3'.to (by intro f; simp only [I, U8, U64, ptr, List.set_cons_zero, List.set_cons_succ, List.eraseIdx_cons_zero, List.eraseIdx_cons_succ, List.map_append, List.map_cons, List.map_nil, List.sum_append, List.sum_cons, List.sum_nil]; omega)
theorem rNew_spec {wires size quality timeout : Int} (H : Hp w0 w F) : Calls Pg 30 ⟨[I wires, I size, I quality, I timeout]⟩ w (NewPost w0 F rLk wires size quality timeout) := by
  apply F30_calls
  unfold F30 F30_j7
  have bad : (wires < 1 ∨ 8 < wires ∨ size < 32 ∨ 4096 < size ∨ timeout < 1 ∨ 1099511627776 < timeout) → NewPost w0 F rLk wires size quality timeout (.returned (.tuple ⟨[.pointer none, I 34]⟩)) w := by
    intro h
    have e : newE wires size quality timeout = 34 := by unfold newE; rw [if_pos h]
    refine ⟨fun _ => by rw [e]; exact ⟨rfl, H⟩, fun h' => ?_⟩
    rw [e] at h'; exact absurd h' (by decide)
  simp only [WKt, mem, drewV]
  by_cases h1 : wires < 1
  · simp only [decide_eq_true h1, WKt, mem, drewV]; exact bad (by omega)
  simp only [decide_eq_false h1, WKt, mem, drewV]
  by_cases h2 : 8 < wires
  · simp only [decide_eq_true h2, WKt, mem, drewV]; exact bad (by omega)
  simp only [decide_eq_false h2, WKt, mem, drewV]
  by_cases h3 : size < 32
  · simp only [decide_eq_true h3, WKt, mem, drewV]; exact bad (by omega)
  simp only [decide_eq_false h3, WKt, mem, drewV]
  by_cases h4 : 4096 < size
  · simp only [decide_eq_true h4, WKt, mem, drewV]; exact bad (by omega)
  simp only [decide_eq_false h4, WKt, mem, drewV]
  by_cases h5 : timeout < 1
  · simp only [decide_eq_true h5, WKt, mem, drewV]; exact bad (by omega)
  simp only [decide_eq_false h5, WKt, mem, drewV]
  by_cases h6 : 1099511627776 < timeout
  · simp only [decide_eq_true h6, WKt, mem, drewV]; exact bad (by omega)
  simp only [decide_eq_false h6, WKt, mem, drewV]
  have hno : ¬ (wires < 1 ∨ 8 < wires ∨ size < 32 ∨ 4096 < size ∨ timeout < 1 ∨ 1099511627776 < timeout) := by omega
  unfold F30_j1
  have bad2 : (quality < 0 ∨ 2 < quality) → NewPost w0 F rLk wires size quality timeout (.returned (.tuple ⟨[.pointer none, I 17]⟩)) w := by
    intro h
    have e : newE wires size quality timeout = 17 := by unfold newE; rw [if_neg hno, if_pos h]
    refine ⟨fun _ => by rw [e]; exact ⟨rfl, H⟩, fun h' => ?_⟩
    rw [e] at h'; exact absurd h' (by decide)
  simp only [WKt, mem, drewV]
  by_cases h7 : quality < 0
  · simp only [decide_eq_true h7, WKt, mem, drewV]; exact bad2 (by omega)
  simp only [decide_eq_false h7, WKt, mem, drewV]
  by_cases h8 : 2 < quality
  · simp only [decide_eq_true h8, WKt, mem, drewV]; exact bad2 (by omega)
  simp only [decide_eq_false h8, WKt, mem, drewV]
  have e0 : newE wires size quality timeout = 0 := by unfold newE; rw [if_neg hno, if_neg (by omega)]
  unfold F30_j2
  have eb : bldO [.slice none 0 0, .int .i64 0, .int .i64 0, .int .i64 0, .int .i64 0, .slice none 0 0, .int .i64 0, .int .i64 0, .int .i64 0, .int .i64 0, .bool false, .int .i64 0, .int .i64 0, .slice none 0 0, .slice none 0 0] [(1, 1, I size), (2, 1, I quality), (3, 1, I timeout), (11, 1, (.int .i64 1))] = some (.agg ⟨rlc (newM wires.toNat size quality timeout) (.slice none 0 0) (.slice none 0 0) (.slice none 0 0) (.slice none 0 0)⟩) := rfl
  simp only [eb, WKt, mem, drewV]
  refine bxa_h H fun w1 b H1 => ?_
  unfold F30_j4 F30_j5
  refine ⟨wires.toNat + 1, ?_⟩
  obtain ⟨n, rfl⟩ : ∃ n : Nat, wires = (n : Int) := ⟨wires.toNat, by omega⟩
  rw [Int.toNat_natCast] at *
  exact rnew_l (by omega) (fun w' L' H' hL => ⟨fun h => absurd e0 h, fun _ => ⟨b, L', rfl, H', by rw [Int.toNat_natCast]; exact hL⟩⟩) n 0 w1 (.slice none 0 0) [] (by omega) Sl.nil (by rw [List.nil_append]; exact H1)
/-! ### begin -/
theorem remU {a m : Int} (h0 : 0 < m) : bin .rem (U64 (u64 a)) (U64 m) = some (U64 (u64 a % m)) := by
  rw [U64, U64, bin_rem (by omega), Int.tmod_eq_emod_of_nonneg (show 0 ≤ u64 a from Int.emod_nonneg _ (by decide))]
theorem cv_small {a m : Int} (h0 : 0 < m) (h1 : m < 4294967296) : cvI .i64 (U64 (u64 a % m)) = some (I (u64 a % m)) := by
  have h2 := Int.emod_nonneg (u64 a) (b := m) (by omega)
  have h3 := Int.emod_lt_of_pos (u64 a) h0
  rw [U64, cvI64, i64, wrap64_id (by omega) (by omega)]
theorem add_small {a m c : Int} (h0 : 0 < m) (h1 : m < 4294967296) (c0 : 0 ≤ c) (c1 : c < 4294967296) : bin .add (I c) (I (u64 a % m)) = some (I (c + u64 a % m)) := by
  have h2 := Int.emod_nonneg (u64 a) (b := m) (by omega)
  have h3 := Int.emod_lt_of_pos (u64 a) h0
  rw [I, I, bin_add, wrap64_id (by omega) (by omega)]
def cfW (a : Int) : Int := 1 + u64 a % 3
def cfS (a : Int) : Int := 32 + u64 a % 64
def cfQ (a : Int) : Int := u64 a % 3
def cfT (a : Int) : Int := 1 + u64 a % 30
def cfM (a b c d : Int) : LM := newM (cfW a).toNat (cfS b) (cfQ c) (cfT d)
theorem cf_ok (a b c d : Int) : newE (cfW a) (cfS b) (cfQ c) (cfT d) = 0 := by
  unfold cfW cfS cfQ cfT newE
  rw [if_neg (by omega), if_neg (by omega)]
theorem cf_W (a : Int) : 1 ≤ (cfW a).toNat ∧ (cfW a).toNat ≤ 3 := by unfold cfW; omega
theorem begin_r {a b c d : Int} {l : List Value} {tb cb i : Nat} {k1 : V3} (hi : i < 2) (hl : l.length = 10)
    (H : Hp w0 w (⟨tb, 39, l⟩ :: ⟨cb, 23, [I a, I b, I c, I d]⟩ :: F))
    (k : ∀ w' p q L L', Hp w0 w' (⟨tb, 39, (l.set i (ptr p 0)).set (2 + i) (ptr q 0)⟩ :: ⟨cb, 23, [I a, I b, I c, I d]⟩ :: (L ++ (L' ++ F))) → Lk w0 p (cfM a b c d) L → rLk w0 q (cfM a b c d) L' → k1 (ptr cb 0) (ptr tb 0) (I ((i + 1 : Nat) : Int)) w') :
    F10_j4 R k1 (ptr cb 0) (ptr tb 0) (I (i : Int)) w := by
  unfold F10_j4
  have ss : ∀ {w : World} {l : List Value} {F : List Chunk} {K : V4}, Hp w0 w (⟨tb, 39, l⟩ :: ⟨cb, 23, [I a, I b, I c, I d]⟩ :: F) → K (I (cfW a)) (I (cfS b)) (I (cfQ c)) (I (cfT d)) w →
      (ld1 (ptr cb 0) fun v2 =>
      pv (cvI .u64 v2) fun v3 =>
      pv (bin .rem v3 (.int .u64 3)) fun v4 =>
      pv (cvI .i64 v4) fun v5 =>
      pv (bin .add (.int .i64 1) v5) fun v6 =>
      ld1 (ptr cb 1) fun v8 =>
      pv (cvI .u64 v8) fun v9 =>
      pv (bin .rem v9 (.int .u64 64)) fun v10 =>
      pv (cvI .i64 v10) fun v11 =>
      pv (bin .add (.int .i64 32) v11) fun v12 =>
      ld1 (ptr cb 2) fun v14 =>
      pv (cvI .u64 v14) fun v15 =>
      pv (bin .rem v15 (.int .u64 3)) fun v16 =>
      pv (cvI .i64 v16) fun v17 =>
      ld1 (ptr cb 3) fun v19 =>
      pv (cvI .u64 v19) fun v20 =>
      pv (bin .rem v20 (.int .u64 30)) fun v21 =>
      pv (cvI .i64 v21) fun v22 =>
      pv (bin .add (.int .i64 1) v22) fun v23 => K v6 v12 v17 v23) w := by
    intro w l F K H k
    refine ld_h H 1 rfl rfl ?_
    rw [cvU64, pv_some, remU (by decide), pv_some, cv_small (by decide) (by decide), pv_some, add_small (by decide) (by decide) (by decide) (by decide), pv_some]
    refine ld_h H 1 rfl rfl ?_
    rw [cvU64, pv_some, remU (by decide), pv_some, cv_small (by decide) (by decide), pv_some, add_small (by decide) (by decide) (by decide) (by decide), pv_some]
    refine ld_h H 1 rfl rfl ?_
    rw [cvU64, pv_some, remU (by decide), pv_some, cv_small (by decide) (by decide), pv_some]
    refine ld_h H 1 rfl rfl ?_
    rw [cvU64, pv_some, remU (by decide), pv_some, cv_small (by decide) (by decide), pv_some, add_small (by decide) (by decide) (by decide) (by decide), pv_some]
    exact k
  simp only [WKt, mem, drewV]
  refine ss H.drew ?_
  refine cal_h (New_spec H.drew) ?_
  rintro e w1 ⟨_, hn⟩
  obtain ⟨p, L, rfl, H1, hL⟩ := hn (cf_ok a b c d)
  simp only [WKt, mem, drewV]
  have ei : ixA 2 1 (ptr tb 0) (I (i : Int)) = some (ptr tb i) := by have := ixA_mk (n := 2) (sz := 1) (b := tb) (o := 0) (k := .i64) hi; simpa using this
  have ei2 : ixA 2 1 (ptr tb 2) (I (i : Int)) = some (ptr tb (2 + i)) := by have := ixA_mk (n := 2) (sz := 1) (b := tb) (o := 2) (k := .i64) hi; simpa using this
  simp only [ei, WKt, mem, drewV]
  have H1' : Hp w0 w1 (⟨tb, 39, l⟩ :: ⟨cb, 23, [I a, I b, I c, I d]⟩ :: (L ++ F)) := H1.to (by intro f; simp only [I, U8, U64, ptr, List.set_cons_zero, List.set_cons_succ, List.eraseIdx_cons_zero, List.eraseIdx_cons_succ, List.map_append, List.map_cons, List.map_nil, List.sum_append, List.sum_cons, List.sum_nil]; omega)
  refine st_h H1' 0 rfl (by omega) rfl fun w2 H2 => ?_
  try simp only [WKt, mem, drewV]
  refine ss H2.drew ?_
  refine cal_h (rNew_spec H2.drew) ?_
  rintro e w3 ⟨_, hn⟩
  obtain ⟨q, L', rfl, H3, hL'⟩ := hn (cf_ok a b c d)
  simp only [WKt, mem, drewV]
  simp only [ei2, WKt, mem, drewV]
  have H3' : Hp w0 w3 (⟨tb, 39, l.set i (ptr p 0)⟩ :: ⟨cb, 23, [I a, I b, I c, I d]⟩ :: (L ++ (L' ++ F))) := H3.to (by intro f; simp only [I, U8, U64, ptr, List.set_cons_zero, List.set_cons_succ, List.eraseIdx_cons_zero, List.eraseIdx_cons_succ, List.map_append, List.map_cons, List.map_nil, List.sum_append, List.sum_cons, List.sum_nil]; omega)
  refine st_h H3' 0 rfl (by simp; omega) rfl fun w4 H4 => ?_
  simp only [ne_eq, not_true_eq_false, decide_false, WKt, mem, drewV]
  rw [wrap64_id (by omega) (by omega), show (i : Int) + 1 = ((i + 1 : Nat) : Int) from by omega]
  exact k w4 p q L L' H4 hL hL'
/-- The state of a talk, as the walks see it. -/
def tkc (b0 b1 r0 r1 : Nat) (s4 x5 s6 s7 s8 s9 : Value) : List Value := [ptr b0 0, ptr b1 0, ptr r0 0, ptr r1 0, s4, x5, s6, s7, s8, s9]
def nilS : Value := .slice none 0 0
theorem begin_spec {a b c d : Int} (H : Hp w0 w F) : Calls Pg 10 ⟨[.agg ⟨[I a, I b, I c, I d]⟩]⟩ w fun e w' =>
    ∃ tb b0 b1 r0 r1 L0 L1 L2 L3, e = .returned (.tuple ⟨[ptr tb 0, .bool true]⟩) ∧ Hp w0 w' (⟨tb, 39, tkc b0 b1 r0 r1 nilS (I 0) nilS nilS nilS nilS⟩ :: (L0 ++ (L1 ++ (L2 ++ (L3 ++ F))))) ∧
      Lk w0 b0 (cfM a b c d) L0 ∧ Lk w0 b1 (cfM a b c d) L1 ∧ rLk w0 r0 (cfM a b c d) L2 ∧ rLk w0 r1 (cfM a b c d) L3 := by
  apply F10_calls
  unfold F10
  refine bxa_h H fun w1 cb H1 => ?_
  have eb : bldO [.pointer none, .pointer none, .pointer none, .pointer none, .slice none 0 0, .int .i64 0, .slice none 0 0, .slice none 0 0, .slice none 0 0, .slice none 0 0] [] = some (.agg ⟨[.pointer none, .pointer none, .pointer none, .pointer none, nilS, I 0, nilS, nilS, nilS, nilS]⟩) := rfl
  simp only [eb, WKt, mem, drewV]
  refine bxa_h H1 fun w2 tb H2 => ?_
  unfold F10_j2 F10_j3
  refine ⟨3, ?_⟩
  show F10_l1 _ (2 + 1) _ _ _ w2
  rw [F10_l1_succ]
  unfold F10_b1
  simp only [show decide ((0 : Int) < 2) = true from rfl, WKt, mem, drewV]
  refine begin_r (i := 0) (by decide) rfl H2 fun w3 b0 r0 L0 L2 H3 hL0 hL2 => ?_
  show F10_l1 _ (1 + 1) _ _ _ w3
  rw [F10_l1_succ]
  unfold F10_b1
  simp only [show decide (((0 + 1 : Nat) : Int) < 2) = true from rfl, WKt, mem, drewV]
  refine begin_r (i := 1) (by decide) rfl H3 fun w4 b1 r1 L1 L3 H4 hL1 hL3 => ?_
  show F10_l1 _ (0 + 1) _ _ _ w4
  rw [F10_l1_succ]
  unfold F10_b1 F10_j1
  simp only [show decide (((1 + 1 : Nat) : Int) < 2) = false from rfl, WKt, mem, drewV]
  have H4' : Hp w0 w4 (⟨tb, 39, tkc b0 b1 r0 r1 nilS (I 0) nilS nilS nilS nilS⟩ :: ⟨cb, 23, [I a, I b, I c, I d]⟩ :: (L1 ++ (L3 ++ (L0 ++ (L2 ++ F))))) := H4
  exact ⟨tb, b0, b1, r0, r1, L0, L1, L2, L3, rfl, H4'.to (by intro f; simp only [I, U8, U64, ptr, List.set_cons_zero, List.set_cons_succ, List.eraseIdx_cons_zero, List.eraseIdx_cons_succ, List.map_append, List.map_cons, List.map_nil, List.sum_append, List.sum_cons, List.sum_nil]; omega), hL0, hL1, hL2, hL3⟩
end
end Go.Proofs.Ytmnpndgmfmjfhaa.Den
end
