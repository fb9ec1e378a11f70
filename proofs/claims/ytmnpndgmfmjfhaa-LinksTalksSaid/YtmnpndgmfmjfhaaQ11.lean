/- Links: both links side by side: comparing results, one call. Conditions: none. -/
import Derived.Test.YtmnpndgmfmjfhaaRows
import Derived.WalkKit
import Derived.ProofKit
import Derived.OpenShut
import Derived.Carry
import Derived.Deep.Slices
import Derived.Deep.Fields
import Derived.ChangeSame
import Derived.Lib.SmallJoins
import Derived.Test.YtmnpndgmfmjfhaaQ10
section
set_option linter.unusedVariables false
set_option linter.unusedSimpArgs false
set_option maxRecDepth 8000
namespace Go.Proofs.Ytmnpndgmfmjfhaa.Den
open Go Go.RowKit
section
variable {w w' : World} {w0 : Base} {F L : List Chunk} {R : ER}
theorem out_cellP {os : List OM} {sv rest : List Value} {p : Nat} {o : OM} {s : Value} (hsv : sv.length = os.length) (ho : os[p]? = some o) (hs : sv[p]? = some s) : ((ocells os sv ++ rest).drop (p * 2)).take 2 = [I o.1, s] := by
  have hlen : (ocells os sv).length = os.length * 2 := by
    unfold ocells; rw [flat_length (sz := 2) (ozip_len os sv)]; simp [hsv]
  have hp : p < os.length := (List.getElem?_eq_some_iff.1 ho).1
  apply List.ext_getElem?
  intro m
  rw [List.getElem?_take]
  by_cases hm : m < 2
  · rw [if_pos hm, List.getElem?_drop, List.getElem?_append_left (by rw [hlen]; omega)]
    exact ocells_get ho hs hm
  · rw [if_neg hm, List.getElem?_eq_none (by simp; omega)]
theorem ocells_lenP {os : List OM} {sv : List Value} (hsv : sv.length = os.length) : (ocells os sv).length = os.length * 2 := by
  unfold ocells; rw [flat_length (sz := 2) (ozip_len os sv)]; simp [hsv]
theorem encR_lenP {k m f : Int} {last : Bool} {d : List Int} : (encR k last m f d).length < 2 ^ 40 := by
  unfold encR
  split
  · rename_i h
    have := (encE_zero' h).2.2.2.2
    rw [encB_length]; omega
  · simp
theorem outUs_bytesP {again : Bool} {now q : Int} {ws : List Int} : ∀ (n : Nat) (t : Int) (us : List UM), ∀ o ∈ (outUs again now q ws n t us).1, o.2.length < 2 ^ 40
  | 0, t, us, o, h => by simp [outUs] at h
  | n + 1, t, [], o, h => by simp [outUs] at h
  | n + 1, t, v :: r, o, h => by
    unfold outUs at h
    split at h
    · exact outUs_bytesP n t r o h
    · rcases List.mem_append.1 h with h | h
      · unfold outWs at h
        obtain ⟨x, _, rfl⟩ := List.mem_map.1 h
        exact encR_lenP
      · exact outUs_bytesP n _ r o h
theorem outV_bytesP {M : LM} {now : Int} : ∀ o ∈ outV M now, o.2.length < 2 ^ 40 := by
  intro o h
  unfold outV at h
  split at h
  · simp at h
  · split at h
    · simp at h
    · rcases List.mem_append.1 h with h | h
      · obtain ⟨x, _, rfl⟩ := List.mem_map.1 h
        exact encR_lenP
      · exact outUs_bytesP _ _ _ o h
theorem Ack_specP {b : Nat} {M : LM} (H : Hp w0 w (L ++ F)) (hL : Lk w0 b M L) : Calls Pg 25 ⟨[ptr b 0]⟩ w fun e w' => e = .returned (I M.done) ∧ Hp w0 w' (L ++ F) := by
  obtain ⟨su, sus, sp, sa, cu, cus, cp, ca, D, sv, hlk, rfl⟩ := hL
  apply F25_calls
  unfold F25
  have e1 : eqNilP (ptr b 0) = some (.bool false) := rfl
  simp only [e1, WKt, mem, drewV]
  refine ld_h H 0 rfl rfl ?_
  exact ⟨rfl, H⟩
theorem BrokenQ_specP {b : Nat} {M : LM} (H : Hp w0 w (L ++ F)) (hL : Lk w0 b M L) : Calls Pg 15 ⟨[ptr b 0]⟩ w fun e w' => e = .returned (.bool M.broken) ∧ Hp w0 w' (L ++ F) := by
  obtain ⟨su, sus, sp, sa, cu, cus, cp, ca, D, sv, hlk, rfl⟩ := hL
  apply F15_calls
  unfold F15
  have e1 : neNilP (ptr b 0) = some (.bool true) := rfl
  simp only [e1, WKt, mem, drewV]
  refine ld_h H 0 rfl rfl ?_
  exact ⟨rfl, H⟩
theorem enter53 : enterOk Pg 53 = true := by kernel_rfl
theorem enter70 : enterOk Pg 70 = true := by kernel_rfl
/-- A function that compares slices of bytes. -/
def EqF (c : Nat) : Prop := ∀ {w : World} {w0 : Base} {L : List Chunk} {s t : Value} {v : List Int}, RdL w0 L 1 s v.length (bv v) → RdL w0 L 1 t v.length (bv v) → v.length < 2 ^ 60 → Hp w0 w L → Calls Pg c ⟨[s, t]⟩ w fun e w' => e = .returned (.bool true) ∧ Hp w0 w' L
theorem eqF53 : EqF 53 := by
  intro w w0 L s t v r1 r2 hl H
  apply F53_calls
  unfold F53
  refine cal_h (Equal_spec H r1 r2 hl) ?_
  rw [decide_eq_true rfl]
  rintro _ w1 ⟨rfl, H1⟩
  exact ⟨rfl, H1⟩
theorem eqm_l {fv : Nat} (hen : enterOk Pg fv = true) (heq : EqF fv) {s s' : Value} {vs : List (List Int)} {co Db co2 Db2 : List Chunk} {sv sv2 : List Value} (h1 : MsgP w0 s vs co Db sv) (h2 : MsgP w0 s' vs co2 Db2 sv2) (m1 : ∀ c ∈ co, c ∈ L) (m2 : ∀ c ∈ Db, c ∈ L) (m3 : ∀ c ∈ co2, c ∈ L) (m4 : ∀ c ∈ Db2, c ∈ L)
    (hl : vs.length < 2 ^ 30) (hby : ∀ v ∈ vs, v.length < 2 ^ 60) (hq : ∀ w', Hp w0 w' L → R (.returned (.bool true)) w') :
    ∀ (d i : Nat) (w : World), i + d = vs.length → Hp w0 w L → F52_l1 R (d + 1) s' (.func (.func fv) ⟨[]⟩ ⟨[]⟩) s (I (vs.length : Int)) (I (i : Int)) w := by
  intro d
  induction d with
  | zero =>
    intro i w hi H
    rw [F52_l1_succ]
    unfold F52_b1
    simp only [WKt, mem, drewV, show decide ((i : Int) < (vs.length : Int)) = false from decide_eq_false (by omega)]
    exact hq w H
  | succ d ih =>
    intro i w hi H
    have hlt : i < vs.length := by omega
    obtain ⟨v, hv⟩ : ∃ v, vs[i]? = some v := ⟨_, List.getElem?_eq_getElem hlt⟩
    obtain ⟨a, ha⟩ : ∃ a, sv[i]? = some a := ⟨_, List.getElem?_eq_getElem (by rw [h1.svl]; exact hlt)⟩
    obtain ⟨a2, ha2⟩ : ∃ a, sv2[i]? = some a := ⟨_, List.getElem?_eq_getElem (by rw [h2.svl]; exact hlt)⟩
    rw [F52_l1_succ]
    unfold F52_b1
    simp only [WKt, mem, drewV, show decide ((i : Int) < (vs.length : Int)) = true from decide_eq_true (by omega)]
    unfold F52_j5
    refine ix1_rd ((h1.sl.rdL (w0 := w0) m1).rd H) ha ?_
    refine ix1_rd ((h2.sl.rdL (w0 := w0) m3).rd H) ha2 ?_
    have r1 := (h1.dat i v a hv ha).mono m2
    have r2 := (h2.dat i v a2 hv ha2).mono m4
    refine calD_fn (Q := fun e w' => e = .returned (.bool true) ∧ Hp w0 w' L) hen ?_ ?_
    · exact heq r1 r2 (hby v (List.mem_of_getElem? hv)) H
    · rintro _ w1 ⟨rfl, H1⟩
      simp only [WKt, mem, drewV]
      rw [wrap64_id (by omega) (by omega), show (i : Int) + 1 = ((i + 1 : Nat) : Int) from by omega]
      exact ih (i + 1) w1 (by omega) H1
theorem eqm_spec' {fv : Nat} (hen : enterOk Pg fv = true) (heq : EqF fv) {s s' : Value} {vs : List (List Int)} {co Db co2 Db2 : List Chunk} {sv sv2 : List Value} (h1 : MsgP w0 s vs co Db sv) (h2 : MsgP w0 s' vs co2 Db2 sv2) (m1 : ∀ c ∈ co, c ∈ L) (m2 : ∀ c ∈ Db, c ∈ L) (m3 : ∀ c ∈ co2, c ∈ L) (m4 : ∀ c ∈ Db2, c ∈ L)
    (hl : vs.length < 2 ^ 30) (hby : ∀ v ∈ vs, v.length < 2 ^ 60) (H : Hp w0 w L) : Calls Pg 52 ⟨[s, s', .func (.func fv) ⟨[]⟩ ⟨[]⟩]⟩ w fun e w' => e = .returned (.bool true) ∧ Hp w0 w' L := by
  apply F52_calls
  unfold F52
  simp only [lenS_sl h1.sl, lenS_sl h2.sl, WKt, mem, drewV]
  simp only [show decide ((vs.length : Int) ≠ (vs.length : Int)) = false from decide_eq_false (by simp), WKt, mem, drewV]
  unfold F52_j1 F52_j3 F52_j4
  simp only [lenS_sl h1.sl, WKt, mem, drewV]
  exact ⟨vs.length + 1, eqm_l hen heq h1 h2 m1 m2 m3 m4 hl hby (fun w' H' => ⟨rfl, H'⟩) vs.length 0 w (by omega) H⟩
theorem eqo_l {s s' : Value} {os : List OM} {co Db co2 Db2 : List Chunk} {sv sv2 : List Value} (h1 : OutP 90 w0 s os co Db sv) (h2 : OutP 145 w0 s' os co2 Db2 sv2) (hl : os.length < 2 ^ 30) (hby : ∀ o ∈ os, o.2.length < 2 ^ 60) (hq : ∀ w' L, Hp w0 w' L → (∃ G, L = G ++ F) → R (.returned (.bool true)) w') :
    ∀ (d i : Nat) (w : World) (G : List Chunk), i + d = os.length → Hp w0 w (G ++ F) → (∀ c ∈ co, c ∈ F) → (∀ c ∈ Db, c ∈ F) → (∀ c ∈ co2, c ∈ F) → (∀ c ∈ Db2, c ∈ F) →
      F69_l1 R (d + 1) s' (.func (.func 70) ⟨[]⟩ ⟨[]⟩) s (I (os.length : Int)) (I (i : Int)) w := by
  intro d
  induction d with
  | zero =>
    intro i w G hi H m1 m2 m3 m4
    rw [F69_l1_succ]
    unfold F69_b1
    simp only [WKt, mem, drewV, show decide ((i : Int) < (os.length : Int)) = false from decide_eq_false (by omega)]
    exact hq w _ H ⟨G, rfl⟩
  | succ d ih =>
    intro i w G hi H m1 m2 m3 m4
    have hlt : i < os.length := by omega
    obtain ⟨o, ho⟩ : ∃ o, os[i]? = some o := ⟨_, List.getElem?_eq_getElem hlt⟩
    obtain ⟨a, ha⟩ : ∃ a, sv[i]? = some a := ⟨_, List.getElem?_eq_getElem (by rw [h1.svl]; exact hlt)⟩
    obtain ⟨a2, ha2⟩ : ∃ a, sv2[i]? = some a := ⟨_, List.getElem?_eq_getElem (by rw [h2.svl]; exact hlt)⟩
    rw [F69_l1_succ]
    unfold F69_b1
    simp only [WKt, mem, drewV, show decide ((i : Int) < (os.length : Int)) = true from decide_eq_true (by omega)]
    unfold F69_j5
    obtain ⟨b1, c1, q1, e1, rfl, g1, g2, g3⟩ := h1.sl.chunk (by omega)
    obtain ⟨b2, c2, q2, e2, rfl, g4, g5, g6⟩ := h2.sl.chunk (by omega)
    have r1 := h1.dat i o a ho ha
    have r2 := h2.dat i o a2 ho ha2
    have s1 := (rd_cells r1).2
    have s2 := (rd_cells r2).2
    rw [ixS_mk hlt]
    simp only [WKt, mem, drewV]
    refine ldN_blk (H.blk ⟨b1, 90, ocells os sv ++ q1⟩ (List.mem_append_right _ (m1 _ (by rw [e1]; simp)))).2 (by show _ ≤ (ocells os sv ++ q1).length; rw [List.length_append, ocells_lenP h1.svl]; omega) ?_
    rw [show ((({ b := b1, t := 90, l := ocells os sv ++ q1 } : Chunk).l).drop (i * 2)).take 2 = [I o.1, a] from out_cellP h1.svl ho ha]
    refine al_h H (z := [I 0, .slice none 0 0]) (by kernel_rfl) fun w1 x1 H1 => ?_
    refine stA_h H1 0 rfl rfl rfl (by intro c hc; simp at hc; rcases hc with rfl | rfl <;> first | rfl | exact s1) fun w2 H2 => ?_
    rw [ixS_mk hlt]
    simp only [WKt, mem, drewV]
    refine ldN_blk (H2.blk ⟨b2, 145, ocells os sv2 ++ q2⟩ (List.mem_cons_of_mem _ (List.mem_append_right _ (m3 _ (by rw [e2]; simp))))).2 (by show _ ≤ (ocells os sv2 ++ q2).length; rw [List.length_append, ocells_lenP h2.svl]; omega) ?_
    rw [show ((({ b := b2, t := 145, l := ocells os sv2 ++ q2 } : Chunk).l).drop (i * 2)).take 2 = [I o.1, a2] from out_cellP h2.svl ho ha2]
    refine al_h H2 (z := [I 0, .slice none 0 0]) (by kernel_rfl) fun w3 x2 H3 => ?_
    refine stA_h H3 0 rfl rfl rfl (by intro c hc; simp at hc; rcases hc with rfl | rfl <;> first | rfl | exact s2) fun w4 H4 => ?_
    try simp only [WKt, mem, drewV]
    refine ldA_h H4 1 rfl rfl ?_
    refine ldA_h H4 0 rfl rfl ?_
    have H4' : Hp w0 w4 ((⟨x2, 145, [I o.1, a2]⟩ :: ⟨x1, 90, [I o.1, a]⟩ :: G) ++ F) := H4
    have hbl := hby o (List.mem_of_getElem? ho)
    generalize (⟨x2, 145, [I o.1, a2]⟩ :: ⟨x1, 90, [I o.1, a]⟩ :: G : List Chunk) = G2 at H4'
    refine calD_fn (Q := fun e w' => e = .returned (.bool true) ∧ Hp w0 w' (G2 ++ F)) enter70 ?_ ?_
    · apply F70_calls
      unfold F70
      refine bxa_h H4' fun w5 y1 H5 => ?_
      refine bxa_h H5 fun w6 y2 H6 => ?_
      simp only [WKt, mem, drewV]
      refine ld_h H6 1 rfl rfl ?_
      refine ld_h H6 0 rfl rfl ?_
      simp only [decide_true, WKt, mem, drewV]
      refine ld_h H6 1 rfl rfl ?_
      refine ld_h H6 0 rfl rfl ?_
      refine cal_h (Equal_spec H6 (r1.mono fun c hc => by simp [m2 c hc]) (r2.mono fun c hc => by simp [m4 c hc]) hbl) ?_
      rw [decide_eq_true rfl]
      rintro _ w7 ⟨rfl, H7⟩
      simp only [WKt, mem, drewV]
      exact ⟨(by first | rfl | trivial), H7.tail.tail⟩
    · rintro _ w5 ⟨rfl, H5⟩
      simp only [WKt, mem, drewV]
      rw [wrap64_id (by omega) (by omega), show (i : Int) + 1 = ((i + 1 : Nat) : Int) from by omega]
      exact ih (i + 1) w5 G2 (by omega) H5 m1 m2 m3 m4
theorem eqo_spec {s s' : Value} {os : List OM} {co Db co2 Db2 : List Chunk} {sv sv2 : List Value} (h1 : OutP 90 w0 s os co Db sv) (h2 : OutP 145 w0 s' os co2 Db2 sv2) (m1 : ∀ c ∈ co, c ∈ L) (m2 : ∀ c ∈ Db, c ∈ L) (m3 : ∀ c ∈ co2, c ∈ L) (m4 : ∀ c ∈ Db2, c ∈ L)
    (hl : os.length < 2 ^ 30) (hby : ∀ o ∈ os, o.2.length < 2 ^ 60) (H : Hp w0 w L) : Calls Pg 55 ⟨[s, s']⟩ w fun e w' => e = .returned (.bool true) ∧ Hp w0 w' L := by
  apply F55_calls
  unfold F55
  refine cal_h (Q := fun e w' => e = .returned (.bool true) ∧ Hp w0 w' L) ?_ ?_
  · apply F69_calls
    unfold F69
    simp only [lenS_sl h1.sl, lenS_sl h2.sl, WKt, mem, drewV]
    simp only [show decide ((os.length : Int) ≠ (os.length : Int)) = false from decide_eq_false (by simp), WKt, mem, drewV]
    unfold F69_j1 F69_j3 F69_j4
    simp only [lenS_sl h1.sl, WKt, mem, drewV]
    refine ⟨os.length + 1, eqo_l (F := L) h1 h2 hl hby ?_ os.length 0 w [] (by omega) H m1 m2 m3 m4⟩
    rintro w' _ H' ⟨G, rfl⟩
    exact ⟨rfl, H'.to (by intro f; simp only [List.map_append, List.sum_append]; omega)⟩
  · rintro _ w' ⟨rfl, H'⟩
    exact ⟨rfl, H'⟩
/-- Both links in one state. -/
structure Both (w0 : Base) (b r n : Nat) (M : LM) (La Lb : List Chunk) : Prop where
  a : Lk w0 b M La
  b : rLk w0 r M Lb
  i : LInv n M
  q : M.quality = 0 ∨ M.quality = 1 ∨ M.quality = 2
theorem LInv.rg {n : Nat} {M : LM} (h : LInv n M) : ∀ u ∈ M.us, (0 ≤ u.m ∧ u.m < 2 ^ 62) ∧ 0 ≤ u.f ∧ u.f < 2 ^ 62 := by
  intro u hu
  have h1 := h.us u hu
  have h2 := h.wf.sd
  omega
theorem inV_len1 {M : LM} {x now : Int} {xs : List Int} : (inV M x xs now).length ≤ 1 := by
  unfold inV takeV; split
  · simp
  · split
    · simp
    · split <;> simp
theorem inV_by {M : LM} {x now : Int} {xs : List Int} (hp : M.part.length ≤ 4096) : ∀ v ∈ inV M x xs now, v.length ≤ 8192 := by
  intro v hv
  unfold inV at hv
  split at hv
  · simp at hv
  · split at hv
    · simp at hv
    · unfold takeV at hv
      split at hv
      · rename_i h
        simp at hv; subst hv
        have := h.1.2.2
        simp only [List.length_append, List.length_drop] at this ⊢
        omega
      · simp at hv
theorem ackM_q {M : LM} {a b : Int} : (ackM M a b).quality = M.quality := by
  unfold ackM
  split
  · rfl
  · split
    · rfl
    · split <;> rfl
theorem inM_q {M : LM} {x now : Int} {xs : List Int} : (inM M x xs now).quality = M.quality := by
  unfold inM
  split
  · rfl
  · split
    · rw [ackM_q]
    · show (takeM _ _ _ _ _).quality = _
      unfold takeM
      split
      · split <;> rfl
      · rfl
theorem outM_q {M : LM} {now : Int} : (outM M now).quality = M.quality := by
  unfold outM
  split
  · rfl
  · split
    · rfl
    · split <;> rfl
theorem sendM_q {M : LM} {now : Int} {d : List Int} : (sendM M d now).quality = M.quality := by
  unfold sendM; split <;> rfl
theorem setM_q {M : LM} {x : Int} {f : Bool} : (setM M x f).quality = M.quality := by
  unfold setM; split <;> rfl
theorem outV_len2 {M : LM} {now : Int} (hu : M.up.length ≤ 8) : (outV M now).length ≤ M.acks.length + 64 := by
  have key : ∀ (again : Bool) (q : Int) (ws : List Int) (n : Nat) (t : Int) (us : List UM), (outUs again now q ws n t us).1.length ≤ n * ws.length := by
    intro again q ws n
    induction n with
    | zero => intro t us; simp [outUs]
    | succ n ih =>
      intro t us
      cases us with
      | nil => simp [outUs]
      | cons u r =>
        unfold outUs
        split
        · have := ih t r
          simp only [Nat.succ_mul]; omega
        · have h1 := ih (overT q t) r
          have h2 := overI_len q t ws
          simp only [List.length_append, outWs, List.length_map, Nat.succ_mul]; omega
  unfold outV
  split
  · simp
  · split
    · simp
    · have h1 := key (againB M now) M.quality (useI 0 M.up) 8 M.turn M.us
      have h2 := useI_le M.up 0
      simp only [List.length_append, List.length_map]
      have h3 : 8 * (useI 0 M.up).length ≤ 8 * 8 := Nat.mul_le_mul_left _ (by omega)
      omega
theorem outV_len {M : LM} {now : Int} (h : M.acks.length < 2 ^ 20) (hu : M.up.length ≤ 8) : (outV M now).length < 2 ^ 30 := by
  have := outV_len2 (M := M) (now := now) hu
  omega
/-- What is seen of both is the same. -/
theorem seen_spec {b r n : Nat} {M : LM} {La Lb : List Chunk} (hB : Both w0 b r n M La Lb) (hn : n < 10000) (H : Hp w0 w (La ++ (Lb ++ F))) :
    Calls Pg 32 ⟨[ptr b 0, ptr r 0]⟩ w fun e w' => e = .returned (.bool true) ∧ Hp w0 w' (La ++ (Lb ++ F)) := by
  have h1 := hB.i.un
  have h2 := hB.i.an
  have h3 := hB.i.wf.tout
  have hn4 : 4097 * n ≤ 4097 * 10000 := Nat.mul_le_mul_left _ (by omega)
  have hat : ∀ u ∈ M.us, -1 ≤ u.at_ ∧ u.at_ ≤ 2 ^ 41 := fun u hu => by have := hB.i.wf.at_ u hu; omega
  have sw : ∀ {w : World}, Hp w0 w (La ++ (Lb ++ F)) → Hp w0 w (Lb ++ (La ++ F)) := fun H => H.to (by intro f; simp only [I, U8, U64, ptr, List.set_cons_zero, List.set_cons_succ, List.eraseIdx_cons_zero, List.eraseIdx_cons_succ, List.map_append, List.map_cons, List.map_nil, List.sum_append, List.sum_cons, List.sum_nil]; omega)
  have sw' : ∀ {w : World}, Hp w0 w (Lb ++ (La ++ F)) → Hp w0 w (La ++ (Lb ++ F)) := fun H => H.to (by intro f; simp only [I, U8, U64, ptr, List.set_cons_zero, List.set_cons_succ, List.eraseIdx_cons_zero, List.eraseIdx_cons_succ, List.map_append, List.map_cons, List.map_nil, List.sum_append, List.sum_cons, List.sum_nil]; omega)
  apply F32_calls
  unfold F32
  refine cal_h (Next_spec H hB.a (by omega) hat (by omega) (by omega)) ?_
  rintro _ w1 ⟨rfl, H1⟩
  simp only [WKt, mem, drewV]
  refine cal_h (rNext_spec (sw H1) hB.b (by omega) hat (by omega)) ?_
  rintro _ w2 ⟨rfl, H2⟩
  simp only [decide_true, WKt, mem, drewV]
  have eb : ∀ v : Bool, binB .eql (.bool v) (.bool v) = some (.bool true) := by intro v; cases v <;> rfl
  simp only [eb, WKt, mem, drewV]
  refine cal_h (Ack_specP (sw' H2) hB.a) ?_
  rintro _ w3 ⟨rfl, H3⟩
  simp only [WKt, mem, drewV]
  refine cal_h (rAck_spec (sw H3) hB.b) ?_
  rintro _ w4 ⟨rfl, H4⟩
  simp only [decide_true, WKt, mem, drewV]
  refine cal_h (BrokenQ_specP (sw' H4) hB.a) ?_
  rintro _ w5 ⟨rfl, H5⟩
  simp only [WKt, mem, drewV]
  refine cal_h (rBroken_spec (sw H5) hB.b) ?_
  rintro _ w6 ⟨rfl, H6⟩
  simp only [eb, WKt, mem, drewV]
  exact ⟨(by first | rfl | trivial), sw' H6⟩
/-- What a call of both leaves. -/
def DoQ (w0 : Base) (F : List Chunk) (b r n : Nat) (M' : LM) : ER := fun e w' => e = .returned (.bool true) ∧ ∃ La Lb, Both w0 b r (n + 1) M' La Lb ∧ Hp w0 w' (La ++ (Lb ++ F))
def doM (M : LM) (k x now : Int) (fl : Bool) (xs : List Int) : LM := if k = 0 then setM M x fl else if k = 1 then sendM M xs now else if k = 2 then inM M x xs now else if k = 3 then outM M now else M
theorem do_spec {b r n : Nat} {M : LM} {La Lb : List Chunk} {k x now : Int} {fl : Bool} {s : Value} {xs : List Int} (hB : Both w0 b r n M La Lb) (hn : n < 10000) (hs : RdL w0 [] 1 s xs.length (bv xs)) (hsc : scalar s = true) (hx : xs.length < 2 ^ 30) (hby : 0 ≤ dB xs) (H : Hp w0 w (La ++ (Lb ++ F))) :
    Calls Pg 31 ⟨[ptr b 0, ptr r 0, .agg ⟨[I k, I x, .bool fl, s, I now]⟩]⟩ w (DoQ w0 F b r n (doM M k x now fl xs)) := by
  have h1 := hB.i.un
  have h2 := hB.i.an
  have h3 := hB.i.wf
  have hsd := h3.sd
  have hn4 : 4097 * n ≤ 4097 * 10000 := Nat.mul_le_mul_left _ (by omega)
  have hmn := hB.i.mn
  have hs' : ∀ L : List Chunk, RdL w0 L 1 s xs.length (bv xs) := fun L => hs.mono (by simp)
  apply F31_calls
  unfold F31
  refine bxa_h H fun w1 vb H1 => ?_
  generalize hop : ([I k, I x, .bool fl, s, I now] : List Value) = ol at H1
  have o0 : ol[0]? = some (I k) := by rw [← hop]; rfl
  have o1 : ol[1]? = some (I x) := by rw [← hop]; rfl
  have o2 : ol[2]? = some (.bool fl) := by rw [← hop]; rfl
  have o3 : ol[3]? = some s := by rw [← hop]; rfl
  have o4 : ol[4]? = some (I now) := by rw [← hop]; rfl
  simp only [WKt, mem, drewV]
  refine ld_h H1 0 rfl o0 ?_
  simp only [WKt, mem, drewV]
  by_cases k0 : k = 0
  · have e : doM M k x now fl xs = setM M x fl := by unfold doM; rw [if_pos k0]
    rw [e]
    simp only [decide_eq_true k0, WKt, mem, drewV]
    have H2 := H1.drew
    refine ld_h H2 0 rfl o1 ?_
    refine ld_h H2 0 rfl o2 ?_
    have H2' : Hp w0 w1.drew (La ++ (⟨vb, 65, ol⟩ :: (Lb ++ F))) := H2.to (by intro f; simp only [I, U8, U64, ptr, List.set_cons_zero, List.set_cons_succ, List.eraseIdx_cons_zero, List.eraseIdx_cons_succ, List.map_append, List.map_cons, List.map_nil, List.sum_append, List.sum_cons, List.sum_nil]; omega)
    refine cal_h (Set_spec (x := x) (f := fl) H2' hB.a) ?_
    rintro _ w3 ⟨La', rfl, H3, hA⟩
    simp only [WKt, mem, drewV]
    have H3' : Hp w0 w3 (⟨vb, 65, ol⟩ :: (La' ++ (Lb ++ F))) := H3.to (by intro f; simp only [I, U8, U64, ptr, List.set_cons_zero, List.set_cons_succ, List.eraseIdx_cons_zero, List.eraseIdx_cons_succ, List.map_append, List.map_cons, List.map_nil, List.sum_append, List.sum_cons, List.sum_nil]; omega)
    refine ldS_h H3' 0 rfl o1 (by intro y hy; simp at hy; subst hy; exact H2.cell 0 rfl o1) ?_
    refine ldS_h H3' 0 rfl o2 (by intro y hy; simp at hy; subst hy; exact H2.cell 0 rfl o2) ?_
    have H3'' : Hp w0 w3 (Lb ++ (⟨vb, 65, ol⟩ :: (La' ++ F))) := H3.to (by intro f; simp only [I, U8, U64, ptr, List.set_cons_zero, List.set_cons_succ, List.eraseIdx_cons_zero, List.eraseIdx_cons_succ, List.map_append, List.map_cons, List.map_nil, List.sum_append, List.sum_cons, List.sum_nil]; omega)
    refine cal_h (rSet_spec (x := x) (f := fl) H3'' hB.b) ?_
    rintro _ w4 ⟨Lb', rfl, H4, hB'⟩
    simp only [decide_true, WKt, mem, drewV]
    exact ⟨(by first | rfl | trivial), La', Lb', ⟨hA, hB', (inv_set hB.i).mono (by omega), by rw [setM_q]; exact hB.q⟩, H4.to (by intro f; simp only [I, U8, U64, ptr, List.set_cons_zero, List.set_cons_succ, List.eraseIdx_cons_zero, List.eraseIdx_cons_succ, List.map_append, List.map_cons, List.map_nil, List.sum_append, List.sum_cons, List.sum_nil]; omega)⟩
  simp only [decide_eq_false k0, WKt, mem, drewV]
  by_cases k1 : k = 1
  · have e : doM M k x now fl xs = sendM M xs now := by unfold doM; rw [if_neg k0, if_pos k1]
    rw [e]
    simp only [decide_eq_true k1, WKt, mem, drewV]
    have H2 := H1.drew
    refine ld_h H2 0 rfl o3 ?_
    refine cal_h (Clone_spec (hs' _) (by omega) H2) ?_
    rintro _ w3 ⟨s', cs, rfl, H3, hs2⟩
    simp only [WKt, mem, drewV]
    have H3' : Hp w0 w3 (⟨vb, 65, ol⟩ :: (cs ++ (La ++ (Lb ++ F)))) := H3.to (by intro f; simp only [I, U8, U64, ptr, List.set_cons_zero, List.set_cons_succ, List.eraseIdx_cons_zero, List.eraseIdx_cons_succ, List.map_append, List.map_cons, List.map_nil, List.sum_append, List.sum_cons, List.sum_nil]; omega)
    refine ldS_h H3' 0 rfl o4 (by intro y hy; simp at hy; subst hy; exact H2.cell 0 rfl o4) ?_
    have H3'' : Hp w0 w3 (La ++ (⟨vb, 65, ol⟩ :: (cs ++ (Lb ++ F)))) := H3.to (by intro f; simp only [I, U8, U64, ptr, List.set_cons_zero, List.set_cons_succ, List.eraseIdx_cons_zero, List.eraseIdx_cons_succ, List.map_append, List.map_cons, List.map_nil, List.sum_append, List.sum_cons, List.sum_nil]; omega)
    refine cal_h (Send_spec (now := now) H3'' hB.a (hs2.rdL (fun c hc => by simp [hc])) hx h3.size (by omega) (by omega)) ?_
    rintro _ w4 ⟨La', rfl, H4, hA⟩
    simp only [WKt, mem, drewV]
    have H4' : Hp w0 w4 (⟨vb, 65, ol⟩ :: (cs ++ (La' ++ (Lb ++ F)))) := H4.to (by intro f; simp only [I, U8, U64, ptr, List.set_cons_zero, List.set_cons_succ, List.eraseIdx_cons_zero, List.eraseIdx_cons_succ, List.map_append, List.map_cons, List.map_nil, List.sum_append, List.sum_cons, List.sum_nil]; omega)
    refine ld_h H4' 0 rfl o3 ?_
    refine ld_h H4' 0 rfl o4 ?_
    have H4'' : Hp w0 w4 (Lb ++ (⟨vb, 65, ol⟩ :: (cs ++ (La' ++ F)))) := H4.to (by intro f; simp only [I, U8, U64, ptr, List.set_cons_zero, List.set_cons_succ, List.eraseIdx_cons_zero, List.eraseIdx_cons_succ, List.map_append, List.map_cons, List.map_nil, List.sum_append, List.sum_cons, List.sum_nil]; omega)
    refine cal_h (rSend_spec (now := now) H4'' hB.b (hs' _) hx h3.size (by omega) (by omega)) ?_
    rintro _ w5 ⟨Lb', rfl, H5, hB'⟩
    simp only [decide_true, WKt, mem, drewV]
    exact ⟨(by first | rfl | trivial), La', Lb', ⟨hA, hB', inv_send hB.i (by omega), by rw [sendM_q]; exact hB.q⟩, H5.to (by intro f; simp only [I, U8, U64, ptr, List.set_cons_zero, List.set_cons_succ, List.eraseIdx_cons_zero, List.eraseIdx_cons_succ, List.map_append, List.map_cons, List.map_nil, List.sum_append, List.sum_cons, List.sum_nil]; omega)⟩
  simp only [decide_eq_false k1, WKt, mem, drewV]
  by_cases k2 : k = 2
  · have e : doM M k x now fl xs = inM M x xs now := by unfold doM; rw [if_neg k0, if_neg k1, if_pos k2]
    rw [e]
    simp only [decide_eq_true k2, WKt, mem, drewV]
    have H2 := H1.drew
    refine ld_h H2 0 rfl o1 ?_
    refine ld_h H2 0 rfl o3 ?_
    refine cal_h (Clone_spec (hs' _) (by omega) H2) ?_
    rintro _ w3 ⟨s', cs, rfl, H3, hs2⟩
    simp only [WKt, mem, drewV]
    have H3' : Hp w0 w3 (⟨vb, 65, ol⟩ :: (cs ++ (La ++ (Lb ++ F)))) := H3.to (by intro f; simp only [I, U8, U64, ptr, List.set_cons_zero, List.set_cons_succ, List.eraseIdx_cons_zero, List.eraseIdx_cons_succ, List.map_append, List.map_cons, List.map_nil, List.sum_append, List.sum_cons, List.sum_nil]; omega)
    rw [rd1_t (H3'.cell 0 rfl o1)]
    refine ldS_h H3' 0 rfl o4 (by intro y hy; simp at hy; subst hy; exact H2.cell 0 rfl o4) ?_
    have H3'' : Hp w0 w3 (La ++ (⟨vb, 65, ol⟩ :: (cs ++ (Lb ++ F)))) := H3.to (by intro f; simp only [I, U8, U64, ptr, List.set_cons_zero, List.set_cons_succ, List.eraseIdx_cons_zero, List.eraseIdx_cons_succ, List.map_append, List.map_cons, List.map_nil, List.sum_append, List.sum_cons, List.sum_nil]; omega)
    refine cal_h (Input_spec (x := x) (now := now) H3'' hB.a (hs2.rdL (fun c hc => by simp [hc])) (by omega) (by omega) (by omega) hB.i.pl (by omega) hB.i.fr) ?_
    rintro _ w4 ⟨t1, co, Db, sv, La', rfl, H4, hm, hA⟩
    simp only [WKt, mem, drewV]
    have H4' : Hp w0 w4 (⟨vb, 65, ol⟩ :: (co ++ (Db ++ (cs ++ (La' ++ (Lb ++ F)))))) := H4.to (by intro f; simp only [I, U8, U64, ptr, List.set_cons_zero, List.set_cons_succ, List.eraseIdx_cons_zero, List.eraseIdx_cons_succ, List.map_append, List.map_cons, List.map_nil, List.sum_append, List.sum_cons, List.sum_nil]; omega)
    refine ld_h H4' 0 rfl o1 ?_
    refine ld_h H4' 0 rfl o3 ?_
    refine ld_h H4' 0 rfl o4 ?_
    have H4'' : Hp w0 w4 (Lb ++ (⟨vb, 65, ol⟩ :: (co ++ (Db ++ (cs ++ (La' ++ F)))))) := H4.to (by intro f; simp only [I, U8, U64, ptr, List.set_cons_zero, List.set_cons_succ, List.eraseIdx_cons_zero, List.eraseIdx_cons_succ, List.map_append, List.map_cons, List.map_nil, List.sum_append, List.sum_cons, List.sum_nil]; omega)
    refine cal_h (rInput_spec (x := x) (now := now) H4'' hB.b (hs' _) (by omega) hby (by omega) (by omega) hB.i.pl (by omega) hB.i.fr hB.i.ch hB.i.pre hB.i.rg) ?_
    rintro _ w5 ⟨t2, co2, Db2, sv2, Lb', rfl, H5, hm2, hB'⟩
    simp only [decide_true, WKt, mem, drewV]
    refine cal_h (eqm_spec' enter53 eqF53 hm hm2 (fun c hc => by simp [hc]) (fun c hc => by simp [hc]) (fun c hc => by simp [hc]) (fun c hc => by simp [hc]) (by have := inV_len1 (M := M) (x := x) (now := now) (xs := xs); omega) (fun v hv => by have := inV_by hB.i.pl v hv; omega) H5) ?_
    rintro _ w6 ⟨rfl, H6⟩
    simp only [WKt, mem, drewV]
    exact ⟨(by first | rfl | trivial), La', Lb', ⟨hA, hB', inv_in hB.i (by omega), by rw [inM_q]; exact hB.q⟩, H6.to (by intro f; simp only [I, U8, U64, ptr, List.set_cons_zero, List.set_cons_succ, List.eraseIdx_cons_zero, List.eraseIdx_cons_succ, List.map_append, List.map_cons, List.map_nil, List.sum_append, List.sum_cons, List.sum_nil]; omega)⟩
  simp only [decide_eq_false k2, WKt, mem, drewV]
  by_cases k3 : k = 3
  · have e : doM M k x now fl xs = outM M now := by unfold doM; rw [if_neg k0, if_neg k1, if_neg k2, if_pos k3]
    rw [e]
    simp only [decide_eq_true k3, WKt, mem, drewV]
    refine ld_h H1 0 rfl o4 ?_
    have H1' : Hp w0 w1 (La ++ (⟨vb, 65, ol⟩ :: (Lb ++ F))) := H1.to (by intro f; simp only [I, U8, U64, ptr, List.set_cons_zero, List.set_cons_succ, List.eraseIdx_cons_zero, List.eraseIdx_cons_succ, List.map_append, List.map_cons, List.map_nil, List.sum_append, List.sum_cons, List.sum_nil]; omega)
    refine cal_h (Output_spec (now := now) H1' hB.a h3) ?_
    rintro _ w4 ⟨t1, co, Db, sv, La', rfl, H4, hm, hA⟩
    simp only [WKt, mem, drewV]
    have H4' : Hp w0 w4 (⟨vb, 65, ol⟩ :: (co ++ (Db ++ (La' ++ (Lb ++ F))))) := H4.to (by intro f; simp only [I, U8, U64, ptr, List.set_cons_zero, List.set_cons_succ, List.eraseIdx_cons_zero, List.eraseIdx_cons_succ, List.map_append, List.map_cons, List.map_nil, List.sum_append, List.sum_cons, List.sum_nil]; omega)
    refine ld_h H4' 0 rfl o4 ?_
    have H4'' : Hp w0 w4 (Lb ++ (⟨vb, 65, ol⟩ :: (co ++ (Db ++ (La' ++ F))))) := H4.to (by intro f; simp only [I, U8, U64, ptr, List.set_cons_zero, List.set_cons_succ, List.eraseIdx_cons_zero, List.eraseIdx_cons_succ, List.map_append, List.map_cons, List.map_nil, List.sum_append, List.sum_cons, List.sum_nil]; omega)
    refine cal_h (rOutput_spec (now := now) H4'' hB.b h3 hB.q) ?_
    rintro _ w5 ⟨t2, co2, Db2, sv2, Lb', rfl, H5, hm2, hB'⟩
    simp only [decide_true, WKt, mem, drewV]
    refine cal_h (eqo_spec hm hm2 (fun c hc => by simp [hc]) (fun c hc => by simp [hc]) (fun c hc => by simp [hc]) (fun c hc => by simp [hc]) (outV_len (by omega) h3.up8) (fun v hv => by have := outV_bytesP v hv; omega) H5) ?_
    rintro _ w6 ⟨rfl, H6⟩
    simp only [WKt, mem, drewV]
    exact ⟨(by first | rfl | trivial), La', Lb', ⟨hA, hB', inv_out hB.i (by omega), by rw [outM_q]; exact hB.q⟩, H6.to (by intro f; simp only [I, U8, U64, ptr, List.set_cons_zero, List.set_cons_succ, List.eraseIdx_cons_zero, List.eraseIdx_cons_succ, List.map_append, List.map_cons, List.map_nil, List.sum_append, List.sum_cons, List.sum_nil]; omega)⟩
  simp only [decide_eq_false k3, WKt, mem, drewV]
  have e : doM M k x now fl xs = M := by unfold doM; rw [if_neg k0, if_neg k1, if_neg k2, if_neg k3]
  rw [e]
  exact ⟨(by first | rfl | trivial), La, Lb, ⟨hB.a, hB.b, hB.i.mono (by omega), hB.q⟩, H1.to (by intro f; simp only [I, U8, U64, ptr, List.set_cons_zero, List.set_cons_succ, List.eraseIdx_cons_zero, List.eraseIdx_cons_succ, List.map_append, List.map_cons, List.map_nil, List.sum_append, List.sum_cons, List.sum_nil]; omega)⟩
end
end Go.Proofs.Ytmnpndgmfmjfhaa.Den
end

section
set_option linter.unusedVariables false
set_option linter.unusedSimpArgs false
set_option maxRecDepth 8000
namespace Go.Proofs.Ytmnpndgmfmjfhaa.Den
open Go Go.RowKit
def setF {α : Type} (f : Nat → α) (i : Nat) (x : α) : Nat → α := fun j => if j = i then x else f j
theorem setF_self {α : Type} (f : Nat → α) (i : Nat) (x : α) : setF f i x i = x := if_pos rfl
theorem setF_ne {α : Type} (f : Nat → α) {i j : Nat} (x : α) (h : j ≠ i) : setF f i x j = f j := if_neg h
/-- A frame on its way. -/
structure Fl where
  to : Nat
  wire : Int
  by_ : List Int
  ch : Bool
def fcell (f : Fl) (s : Value) : List Value := [I (f.to : Int), I f.wire, s, .bool f.ch]
def fls (l : List Fl) (sv : List Value) : List (List Value) := List.zipWith fcell l sv
/-- The frames in memory. -/
structure AirP (w0 : Base) (s : Value) (l : List Fl) (ca Da : List Chunk) (sv : List Value) : Prop where
  sl : Sl 132 4 s l.length (fls l sv).flatten ca
  svl : sv.length = l.length
  dat : ∀ (i : Nat) (f : Fl) (s : Value), l[i]? = some f → sv[i]? = some s → RdL w0 Da 1 s f.by_.length (bv f.by_)
theorem elT35 : ElT 35 132 4 48 [I 0, I 0, .slice none 0 0, .bool false] := ⟨by kernel_rfl, by kernel_rfl, rfl⟩
theorem flat_takeP {α : Type} {sz : Nat} : ∀ {L : List (List α)}, (∀ l ∈ L, l.length = sz) → ∀ j, (L.take j).flatten = L.flatten.take (j * sz)
  | [], _, j => by simp
  | a :: L, h, 0 => by simp
  | a :: L, h, j + 1 => by
    have ha := h a (by simp)
    rw [List.take_succ_cons, List.flatten_cons, flat_takeP (fun l hl => h l (by simp [hl])), List.flatten_cons, List.take_append, ha]
    have h1 : a.take ((j + 1) * sz) = a := List.take_of_length_le (by rw [ha, Nat.add_mul]; omega)
    rw [h1]
    congr 2; rw [Nat.add_mul]; omega
theorem flat_getQ {α : Type} {sz : Nat} : ∀ {L : List (List α)}, (∀ l ∈ L, l.length = sz) → ∀ {i j : Nat} {l : List α}, L[i]? = some l → j < sz → L.flatten[i * sz + j]? = l[j]?
  | [], _, i, j, l, h, _ => by simp at h
  | a :: L, hL, 0, j, l, h, hj => by
    simp only [List.getElem?_cons_zero, Option.some.injEq] at h; subst h
    rw [List.flatten_cons, Nat.zero_mul, Nat.zero_add, List.getElem?_append_left (by rw [hL a (by simp)]; exact hj)]
  | a :: L, hL, i + 1, j, l, h, hj => by
    simp only [List.getElem?_cons_succ] at h
    have ha := hL a (by simp)
    rw [List.flatten_cons, List.getElem?_append_right (by rw [ha, Nat.add_mul]; omega), ha]
    have : (i + 1) * sz + j - sz = i * sz + j := by rw [Nat.add_mul]; omega
    rw [this]
    exact flat_getQ (fun l hl => hL l (by simp [hl])) h hj
theorem flat_part {α : Type} {sz : Nat} {L : List (List α)} {rest : List α} (hL : ∀ l ∈ L, l.length = sz) {i : Nat} {l : List α} (h : L[i]? = some l) : ((L.flatten ++ rest).drop (i * sz)).take sz = l := by
  have hl := hL l (List.mem_of_getElem? h)
  have hi := (List.getElem?_eq_some_iff.1 h).1
  have hfl : L.flatten.length = L.length * sz := flat_length hL
  have hle : (i + 1) * sz ≤ L.length * sz := Nat.mul_le_mul_right _ hi
  rw [Nat.add_mul, Nat.one_mul] at hle
  apply List.ext_getElem?
  intro m
  rw [List.getElem?_take]
  by_cases hm : m < sz
  · rw [if_pos hm, List.getElem?_drop, List.getElem?_append_left (by omega), flat_getQ hL h hm]
  · rw [if_neg hm, List.getElem?_eq_none (by omega)]
theorem lay_set {sz : Nat} {L : List (List Value)} {rest : List Value} (hL : ∀ l ∈ L, l.length = sz) {i : Nat} {x : List Value} (hi : i < L.length) (hx : x.length = sz) : lay (L.flatten ++ rest) (i * sz) x = (L.set i x).flatten ++ rest := by
  have hfl : L.flatten.length = L.length * sz := flat_length hL
  have hle : (i + 1) * sz ≤ L.length * sz := Nat.mul_le_mul_right _ hi
  rw [Nat.add_mul, Nat.one_mul] at hle
  have e1 := flat_takeP hL i
  have e2 := flat_drop hL (i + 1)
  unfold lay
  rw [hx, List.take_append_of_le_length (by omega), List.drop_append_of_le_length (by omega), ← e1, show i * sz + sz = (i + 1) * sz from by rw [Nat.add_mul, Nat.one_mul], ← e2, List.set_eq_take_append_cons_drop, if_pos hi]
  simp [List.append_assoc]
theorem fls_len : ∀ (l : List Fl) (sv : List Value), ∀ c ∈ fls l sv, c.length = 4
  | [], _, c, h => by simp [fls] at h
  | _ :: _, [], c, h => by simp [fls] at h
  | f :: l, s :: sv, c, h => by
    unfold fls at h
    rw [List.zipWith_cons_cons] at h
    rcases List.mem_cons.1 h with rfl | h
    · rfl
    · exact fls_len l sv c h
theorem fls_get {l : List Fl} {sv : List Value} {i : Nat} {f : Fl} {s : Value} (hf : l[i]? = some f) (hs : sv[i]? = some s) : (fls l sv)[i]? = some (fcell f s) := by
  unfold fls; rw [List.getElem?_zipWith, hf, hs]
theorem fls_length {l : List Fl} {sv : List Value} (h : sv.length = l.length) : (fls l sv).length = l.length := by
  unfold fls; rw [List.length_zipWith, h, Nat.min_self]
theorem fls_sc : ∀ {l : List Fl} {sv : List Value}, (∀ s ∈ sv, scalar s = true) → ∀ r ∈ fls l sv, ∀ c ∈ r, scalar c = true
  | [], _, _, r, h => by simp [fls] at h
  | _ :: _, [], _, r, h => by simp [fls] at h
  | f :: l, s :: sv, hs, r, h => by
    unfold fls at h
    rw [List.zipWith_cons_cons] at h
    rcases List.mem_cons.1 h with rfl | h
    · intro c hc
      simp [fcell] at hc
      rcases hc with rfl | rfl | rfl | rfl
      · rfl
      · rfl
      · exact hs _ (by simp)
      · rfl
    · exact fls_sc (fun s h => hs s (by simp [h])) r h
theorem fls_erase : ∀ (l : List Fl) (sv : List Value) (k : Nat), (fls l sv).eraseIdx k = fls (l.eraseIdx k) (sv.eraseIdx k)
  | [], sv, k => by simp [fls]
  | f :: l, [], k => by
    have : ∀ l' : List Fl, fls l' [] = [] := by intro l'; cases l' <;> rfl
    rw [this, List.eraseIdx_nil, List.eraseIdx_nil, this]
  | f :: l, s :: sv, 0 => rfl
  | f :: l, s :: sv, k + 1 => by
    have := fls_erase l sv k
    unfold fls at this ⊢
    rw [List.zipWith_cons_cons, List.eraseIdx_cons_succ, this, List.eraseIdx_cons_succ, List.eraseIdx_cons_succ, List.zipWith_cons_cons]
theorem fls_set : ∀ (l : List Fl) (sv : List Value) (k : Nat) (f : Fl) (s : Value), (fls l sv).set k (fcell f s) = fls (l.set k f) (sv.set k s)
  | [], sv, k, f, s => by simp [fls]
  | g :: l, [], k, f, s => by
    have : ∀ l' : List Fl, fls l' [] = [] := by intro l'; cases l' <;> rfl
    rw [this, List.set_nil, List.set_nil, this]
  | g :: l, t :: sv, 0, f, s => rfl
  | g :: l, t :: sv, k + 1, f, s => by
    have := fls_set l sv k f s
    unfold fls at this ⊢
    rw [List.zipWith_cons_cons, List.set_cons_succ, this, List.set_cons_succ, List.set_cons_succ, List.zipWith_cons_cons]
theorem flat_sc {ls : List (List Value)} (h : ∀ r ∈ ls, ∀ c ∈ r, scalar c = true) : ∀ c ∈ ls.flatten, scalar c = true := by
  intro c hc
  obtain ⟨r, hr, hc⟩ := List.mem_flatten.1 hc
  exact h r hr c hc
section
variable {w w' : World} {w0 : Base} {F L : List Chunk} {R : ER}
theorem AirP.sc {s : Value} {l : List Fl} {ca Da : List Chunk} {sv : List Value} (h : AirP w0 s l ca Da sv) : ∀ c ∈ sv, scalar c = true := by
  intro c hc
  obtain ⟨i, hi, rfl⟩ := List.getElem_of_mem hc
  have hlt : i < l.length := by rw [← h.svl]; exact hi
  exact (rd_cells (h.dat i _ _ (List.getElem?_eq_getElem hlt) (List.getElem?_eq_getElem hi))).2
theorem DeleteF_spec {b cap k : Nat} {ls : List (List Value)} {rest : List Value} (H : Hp w0 w (⟨b, 132, ls.flatten ++ rest⟩ :: F)) (hls : ∀ l ∈ ls, l.length = 4) (hss : ∀ r ∈ ls, ∀ c ∈ r, scalar c = true) (hkc : ls.length ≤ cap) (hr : rest.length = (cap - ls.length) * 4) (hk : k < ls.length) :
    Calls Pg 60 ⟨[.slice (some ⟨b, 0, none⟩) ls.length cap, I (k : Int), I ((k + 1 : Nat) : Int)]⟩ w fun e w' => ∃ rest', e = .returned (.slice (some ⟨b, 0, none⟩) (ls.length - 1) cap) ∧ rest'.length = (cap - (ls.length - 1)) * 4 ∧
      Hp w0 w' (⟨b, 132, (ls.eraseIdx k).flatten ++ rest'⟩ :: F) := by
  have hfl : ls.flatten.length = ls.length * 4 := flat_length hls
  have hll : (ls.flatten ++ rest).length = cap * 4 := by rw [List.length_append, hfl, hr]; omega
  apply F60_calls
  unfold F60
  simp only [WKt, mem, drewV]
  refine slice3_h (lo := k) (hi := k + 1) elT35 (by omega) (by omega) hkc fun v => ?_
  simp only [decide_eq_false (show ¬ ((k : Int) = ((k + 1 : Nat) : Int)) from by omega), WKt, mem, drewV]
  unfold F60_j1
  obtain ⟨o, eo, ho⟩ := slK_from (b := b) (sz := 4) (n := ls.length) (c := cap) (lo := k + 1) (by omega) hkc
  have e0 : slS 4 (.slice (some ⟨b, 0, none⟩) ls.length cap) none (some (I (k : Int))) = some (.slice (some ⟨b, 0, none⟩) k cap) := slK_to (hi := k) (by omega)
  simp only [eo, e0, WKt, mem, drewV]
  have hys : RdL w0 (⟨b, 132, ls.flatten ++ rest⟩ :: F) 4 (.slice (some ⟨b, o, none⟩) (ls.length - (k + 1)) (cap - (k + 1))) (ls.length - (k + 1)) ((ls.drop (k + 1)).flatten) := by
    by_cases h : k + 1 < ls.length
    · refine .inr ⟨b, o, cap - (k + 1), 132, ls.flatten ++ rest, rfl, by omega, by simp, ?_, ?_⟩
      · rw [ho h, hll]; omega
      · rw [ho h, flat_drop hls, List.drop_append_of_le_length (by omega), List.take_append_of_le_length (by rw [List.length_drop]; omega), List.take_of_length_le (by rw [List.length_drop]; omega)]
    · have h0 : ls.length - (k + 1) = 0 := by omega
      rw [h0, List.drop_eq_nil_of_le (by omega)]
      exact .inl (.inr ⟨_, _, rfl, by omega, by rw [Nat.zero_mul]; rfl⟩)
  refine append_in (n := k) elT35 H.drew hll (by omega) hys (flat_sc fun r hr => hss r (List.mem_of_mem_drop hr)) fun w1 H1 => ?_
  have en : k + (ls.length - (k + 1)) = ls.length - 1 := by omega
  rw [en]
  have e2 : slS 4 (.slice (some ⟨b, 0, none⟩) (ls.length - 1) cap) (some (.int .i64 ((ls.length - 1 : Nat) : Int))) (some (.int .i64 (ls.length : Int))) = some (.slice (some ⟨b, (ls.length - 1) * 4, none⟩) (ls.length - (ls.length - 1)) (cap - (ls.length - 1))) := slK_mid (by omega) hkc (by omega)
  simp only [e2, WKt, mem, drewV]
  have hdl : ((ls.drop (k + 1)).flatten).length = (ls.length - (k + 1)) * 4 := by rw [flat_length (sz := 4) (fun l hl => hls l (List.mem_of_mem_drop hl)), List.length_drop]
  have hlay : (lay (ls.flatten ++ rest) (k * 4) (ls.drop (k + 1)).flatten).length = cap * 4 := by
    unfold lay
    simp only [List.length_append, List.length_take, List.length_drop, hdl]
    rw [List.length_append] at hll; omega
  refine clear_h (el := 132) elT35 H1 (by omega) ?_ (by intro c hc; simp at hc; rcases hc with rfl | rfl | rfl | rfl <;> rfl) fun w2 l' hl1 hl2 H2 => ?_
  · rw [hlay]; omega
  have hel : (ls.eraseIdx k).flatten.length = (ls.length - 1) * 4 := by rw [flat_length (sz := 4) (fun l hl => hls l (List.mem_of_mem_eraseIdx hl)), List.length_eraseIdx_of_lt hk]
  have hpre : (lay (ls.flatten ++ rest) (k * 4) (ls.drop (k + 1)).flatten).take ((ls.length - 1) * 4) = (ls.eraseIdx k).flatten := by
    unfold lay
    rw [List.eraseIdx_eq_take_drop_succ, List.flatten_append, flat_takeP hls, List.take_append_of_le_length (l₁ := ls.flatten) (by omega)]
    rw [List.take_append_of_le_length (by rw [List.length_append, List.length_take, hdl]; omega)]
    rw [List.take_of_length_le (by rw [List.length_append, List.length_take, hdl]; omega)]
  have hl3 : l' = (ls.eraseIdx k).flatten ++ l'.drop ((ls.length - 1) * 4) := by
    conv => lhs; rw [← List.take_append_drop ((ls.length - 1) * 4) l', hl2, hpre]
  refine ⟨l'.drop ((ls.length - 1) * 4), by trivial, ?_, ?_⟩
  · rw [List.length_drop, hl1, hlay]; omega
  · rw [← hl3]; exact H2
end
end Go.Proofs.Ytmnpndgmfmjfhaa.Den
end

section
set_option linter.unusedVariables false
set_option linter.unusedSimpArgs false
set_option maxRecDepth 8000
namespace Go.Proofs.Ytmnpndgmfmjfhaa.Den
open Go Go.RowKit
/-- A talk av Lean data: the links (sides 0 and 1), what is in the air, the time, what was sent and got. -/
structure TS where
  M : Nat → LM
  air : List Fl
  now : Int
  sent : Nat → List (List Int)
  got : Nat → List (List Int)
def tkL (b r : Nat → Nat) (a : Value) (now : Int) (ss gs : Nat → Value) : List Value := [ptr (b 0) 0, ptr (b 1) 0, ptr (r 0) 0, ptr (r 1) 0, a, I now, ss 0, ss 1, gs 0, gs 1]
section
variable {b r : Nat → Nat} {a : Value} {now : Int} {ss gs : Nat → Value} {i : Nat}
theorem tk_b (hi : i < 2) : (tkL b r a now ss gs)[i]? = some (ptr (b i) 0) := by
  rcases (show i = 0 ∨ i = 1 by omega) with rfl | rfl <;> rfl
theorem tk_r (hi : i < 2) : (tkL b r a now ss gs)[2 + i]? = some (ptr (r i) 0) := by
  rcases (show i = 0 ∨ i = 1 by omega) with rfl | rfl <;> rfl
theorem tk_s (hi : i < 2) : (tkL b r a now ss gs)[6 + i]? = some (ss i) := by
  rcases (show i = 0 ∨ i = 1 by omega) with rfl | rfl <;> rfl
theorem tk_g (hi : i < 2) : (tkL b r a now ss gs)[8 + i]? = some (gs i) := by
  rcases (show i = 0 ∨ i = 1 by omega) with rfl | rfl <;> rfl
theorem tk_setS {v : Value} (hi : i < 2) : (tkL b r a now ss gs).set (6 + i) v = tkL b r a now (setF ss i v) gs := by
  rcases (show i = 0 ∨ i = 1 by omega) with rfl | rfl <;> rfl
theorem tk_setG {v : Value} (hi : i < 2) : (tkL b r a now ss gs).set (8 + i) v = tkL b r a now ss (setF gs i v) := by
  rcases (show i = 0 ∨ i = 1 by omega) with rfl | rfl <;> rfl
theorem tk_len : (tkL b r a now ss gs).length = 10 := rfl
end
section
variable {w w' : World} {w0 : Base} {F L : List Chunk} {R : ER}
theorem enter71 : enterOk Pg 71 = true := by kernel_rfl
theorem eqF71 : EqF 71 := by
  intro w w0 L s t v r1 r2 hl H
  apply F71_calls
  unfold F71
  refine cal_h (Equal_spec H r1 r2 hl) ?_
  rw [decide_eq_true rfl]
  rintro _ w1 ⟨rfl, H1⟩
  exact ⟨rfl, H1⟩
theorem MsgP.app {g s : Value} {vs vs2 : List (List Int)} {co Db co2 Db2 : List Chunk} {sv sv2 : List Value} {K : VK} {ty : Nat} {cc : Array Bool} (h : MsgP w0 g vs co Db sv) (h2 : MsgP w0 s vs2 co2 Db2 sv2) (hb : vs.length + vs2.length < 2 ^ 30)
    (H : Hp w0 w (co ++ (Db ++ (co2 ++ (Db2 ++ F))))) (k : ∀ w' g' co', Hp w0 w' (co' ++ ((Db ++ Db2) ++ (co2 ++ F))) → MsgP w0 g' (vs ++ vs2) co' (Db ++ Db2) (sv ++ sv2) → K g' w') :
    blt Pg R .append ⟨[36, 36]⟩ ty cc ⟨[g, s]⟩ K w := by
  have hsc : ∀ c ∈ sv2, scalar c = true := by
    intro c hc
    obtain ⟨i, hi, rfl⟩ := List.getElem_of_mem hc
    have hlt : i < vs2.length := by rw [← h2.svl]; exact hi
    exact (rd_cells (h2.dat i _ _ (List.getElem?_eq_getElem hlt) (List.getElem?_eq_getElem hi))).2
  refine append_h elT36 H h.sl (h2.sl.rdL fun c hc => by simp [hc]) hsc (by omega) (by omega) fun w' g' co' H' hs => ?_
  refine k w' g' co' (H'.to (by intro f; simp only [I, U8, U64, ptr, List.set_cons_zero, List.set_cons_succ, List.eraseIdx_cons_zero, List.eraseIdx_cons_succ, List.map_append, List.map_cons, List.map_nil, List.sum_append, List.sum_cons, List.sum_nil]; omega)) ⟨by rw [List.length_append]; exact hs, by simp [h.svl, h2.svl], ?_⟩
  intro i ys s hi hs
  by_cases hlt : i < vs.length
  · rw [List.getElem?_append_left hlt] at hi
    rw [List.getElem?_append_left (by rw [h.svl]; exact hlt)] at hs
    exact (h.dat i ys s hi hs).mono fun c hc => by simp [hc]
  · rw [List.getElem?_append_right (by omega)] at hi
    rw [List.getElem?_append_right (by rw [h.svl]; omega), h.svl] at hs
    exact (h2.dat _ ys s hi hs).mono fun c hc => by simp [hc]
/-- A frame arrives. -/
theorem arrive_spec {tb n : Nat} {b r : Nat → Nat} {av s : Value} {now : Int} {ss gs : Nat → Value} {f : Fl} {M : LM} {La Lb cg Dg Da : List Chunk} {got : List (List Int)} {svg : List Value} (hto : f.to < 2) (hB : Both w0 (b f.to) (r f.to) n M La Lb) (hn : n < 10000)
    (hg : MsgP w0 (gs f.to) got cg Dg svg) (hgl : got.length < 2 ^ 20) (hs : RdL w0 Da 1 s f.by_.length (bv f.by_)) (hx : f.by_.length < 2 ^ 30) (hby : 0 ≤ dB f.by_)
    (H : Hp w0 w (⟨tb, 39, tkL b r av now ss gs⟩ :: (La ++ (Lb ++ (cg ++ (Dg ++ (Da ++ F))))))) :
    Calls Pg 59 ⟨[ptr tb 0, .agg ⟨fcell f s⟩]⟩ w fun e w' => e = .returned (.bool true) ∧ ∃ La' Lb' g' cg' Dg' svg', Both w0 (b f.to) (r f.to) (n + 1) (inM M f.wire f.by_ now) La' Lb' ∧ MsgP w0 g' (got ++ inV M f.wire f.by_ now) cg' Dg' svg' ∧
      Hp w0 w' (⟨tb, 39, tkL b r av now ss (setF gs f.to g')⟩ :: (La' ++ (Lb' ++ (cg' ++ (Dg' ++ (Da ++ F)))))) := by
  have h1 := hB.i.un
  have h2 := hB.i.an
  have h3 := hB.i.wf
  have hn4 : 4097 * n ≤ 4097 * 10000 := Nat.mul_le_mul_left _ (by omega)
  have hmn := hB.i.mn
  apply F59_calls
  unfold F59
  refine bxa_h H fun w1 vb H1 => ?_
  have H2 := H1.drew
  have c0 : (fcell f s)[0]? = some (I (f.to : Int)) := rfl
  have c1 : (fcell f s)[1]? = some (I f.wire) := rfl
  have c2 : (fcell f s)[2]? = some s := rfl
  generalize fcell f s = fc at H2 c0 c1 c2
  try simp only [WKt, mem, drewV]
  refine ld_h H2 0 rfl c0 ?_
  try rw [ixA_mk hto]
  try simp only [WKt, mem, drewV]
  refine ld_h H2 1 rfl (tk_b hto) ?_
  refine ld_h H2 0 rfl c1 ?_
  refine ld_h H2 0 rfl c2 ?_
  refine cal_h (Clone_spec (hs.mono fun c hc => by simp [hc]) (by omega) H2) ?_
  rintro _ w3 ⟨s', cs, rfl, H3, hs2⟩
  try simp only [WKt, mem, drewV]
  have H3' : Hp w0 w3 (⟨vb, 132, fc⟩ :: ⟨tb, 39, tkL b r av now ss gs⟩ :: (cs ++ (La ++ (Lb ++ (cg ++ (Dg ++ (Da ++ F))))))) := H3.to (by intro f; simp only [I, U8, U64, ptr, List.set_cons_zero, List.set_cons_succ, List.eraseIdx_cons_zero, List.eraseIdx_cons_succ, List.map_append, List.map_cons, List.map_nil, List.sum_append, List.sum_cons, List.sum_nil]; omega)
  rw [rd1_t (H3'.cell 0 rfl c1), rd1_t (H3'.cell 1 rfl (tk_b hto)), rd1_t (H3'.cell 0 rfl c0)]
  try simp only [WKt, mem, drewV]
  refine ldS_h H3' 1 rfl (o := 5) rfl (by intro y hy; simp at hy; subst hy; exact H2.cell 1 rfl rfl) ?_
  have H3'' : Hp w0 w3 (La ++ (⟨vb, 132, fc⟩ :: ⟨tb, 39, tkL b r av now ss gs⟩ :: (cs ++ (Lb ++ (cg ++ (Dg ++ (Da ++ F))))))) := H3.to (by intro f; simp only [I, U8, U64, ptr, List.set_cons_zero, List.set_cons_succ, List.eraseIdx_cons_zero, List.eraseIdx_cons_succ, List.map_append, List.map_cons, List.map_nil, List.sum_append, List.sum_cons, List.sum_nil]; omega)
  refine cal_h (Input_spec (x := f.wire) (now := now) H3'' hB.a (hs2.rdL (fun c hc => by simp [hc])) (by omega) (by omega) (by omega) hB.i.pl (by omega) hB.i.fr) ?_
  rintro _ w4 ⟨t1, co, Db, sv, La', rfl, H4, hm, hA⟩
  try simp only [WKt, mem, drewV]
  have H4' : Hp w0 w4.drew (⟨vb, 132, fc⟩ :: ⟨tb, 39, tkL b r av now ss gs⟩ :: (co ++ (Db ++ (cs ++ (La' ++ (Lb ++ (cg ++ (Dg ++ (Da ++ F))))))))) := H4.drew.to (by intro f; simp only [I, U8, U64, ptr, List.set_cons_zero, List.set_cons_succ, List.eraseIdx_cons_zero, List.eraseIdx_cons_succ, List.map_append, List.map_cons, List.map_nil, List.sum_append, List.sum_cons, List.sum_nil]; omega)
  refine ld_h H4' 0 rfl c0 ?_
  try rw [ixA_mk hto]
  try simp only [WKt, mem, drewV]
  refine ld_h H4' 1 rfl (tk_r hto) ?_
  refine ld_h H4' 0 rfl c1 ?_
  refine ld_h H4' 0 rfl c2 ?_
  refine ld_h H4' 1 rfl (o := 5) rfl ?_
  have H4'' : Hp w0 w4.drew (Lb ++ (⟨vb, 132, fc⟩ :: ⟨tb, 39, tkL b r av now ss gs⟩ :: (co ++ (Db ++ (cs ++ (La' ++ (cg ++ (Dg ++ (Da ++ F))))))))) := H4.drew.to (by intro f; simp only [I, U8, U64, ptr, List.set_cons_zero, List.set_cons_succ, List.eraseIdx_cons_zero, List.eraseIdx_cons_succ, List.map_append, List.map_cons, List.map_nil, List.sum_append, List.sum_cons, List.sum_nil]; omega)
  refine cal_h (rInput_spec (x := f.wire) (now := now) H4'' hB.b (hs.mono fun c hc => by simp [hc]) (by omega) hby (by omega) (by omega) hB.i.pl (by omega) hB.i.fr hB.i.ch hB.i.pre hB.i.rg) ?_
  rintro _ w5 ⟨t2, co2, Db2, sv2, Lb', rfl, H5, hm2, hB'⟩
  try simp only [WKt, mem, drewV]
  have H5' : Hp w0 w5.drew (⟨vb, 132, fc⟩ :: ⟨tb, 39, tkL b r av now ss gs⟩ :: (cg ++ (Dg ++ (co ++ (Db ++ (co2 ++ (Db2 ++ (cs ++ (La' ++ (Lb' ++ (Da ++ F))))))))))) := H5.drew.to (by intro f; simp only [I, U8, U64, ptr, List.set_cons_zero, List.set_cons_succ, List.eraseIdx_cons_zero, List.eraseIdx_cons_succ, List.map_append, List.map_cons, List.map_nil, List.sum_append, List.sum_cons, List.sum_nil]; omega)
  refine ld_h H5' 0 rfl c0 ?_
  refine ld_h H5' 0 rfl c0 ?_
  try rw [ixA_mk hto]
  try simp only [WKt, mem, drewV]
  refine ld_h H5' 1 rfl (tk_g hto) ?_
  have H5'' : Hp w0 w5.drew (cg ++ (Dg ++ (co ++ (Db ++ (⟨vb, 132, fc⟩ :: ⟨tb, 39, tkL b r av now ss gs⟩ :: (co2 ++ (Db2 ++ (cs ++ (La' ++ (Lb' ++ (Da ++ F))))))))))) := H5.drew.to (by intro f; simp only [I, U8, U64, ptr, List.set_cons_zero, List.set_cons_succ, List.eraseIdx_cons_zero, List.eraseIdx_cons_succ, List.map_append, List.map_cons, List.map_nil, List.sum_append, List.sum_cons, List.sum_nil]; omega)
  have hvl := inV_len1 (M := M) (x := f.wire) (now := now) (xs := f.by_)
  refine hg.app hm (by omega) H5'' fun w6 g' cg' H6 hg' => ?_
  try simp only [WKt, mem, drewV]
  have H6' : Hp w0 w6 (⟨vb, 132, fc⟩ :: ⟨tb, 39, tkL b r av now ss gs⟩ :: (cg' ++ ((Dg ++ Db) ++ (co ++ (co2 ++ (Db2 ++ (cs ++ (La' ++ (Lb' ++ (Da ++ F)))))))))) := H6.to (by intro f; simp only [I, U8, U64, ptr, List.set_cons_zero, List.set_cons_succ, List.eraseIdx_cons_zero, List.eraseIdx_cons_succ, List.map_append, List.map_cons, List.map_nil, List.sum_append, List.sum_cons, List.sum_nil]; omega)
  rw [rd1_t (H6'.cell 0 rfl c0)]
  try simp only [WKt, mem, drewV]
  try rw [ixA_mk hto]
  try simp only [WKt, mem, drewV]
  refine st_h H6' 1 rfl (by rw [tk_len]; omega) (sl_sc hg'.sl) fun w7 H7 => ?_
  simp only [List.set_cons_succ, List.set_cons_zero] at H7
  rw [tk_setG hto] at H7
  simp only [decide_true, WKt, mem, drewV]
  refine cal_h (eqm_spec' enter71 eqF71 hm hm2 (fun c hc => by simp [hc]) (fun c hc => by simp [hc]) (fun c hc => by simp [hc]) (fun c hc => by simp [hc]) (by omega) (fun v hv => by have := inV_by hB.i.pl v hv; omega) H7) ?_
  rintro _ w8 ⟨rfl, H8⟩
  try simp only [WKt, mem, drewV]
  exact ⟨(by first | rfl | trivial), La', Lb', g', cg', Dg ++ Db, _, ⟨hA, hB', inv_in hB.i (by omega), by rw [inM_q]; exact hB.q⟩, hg', H8.to (by intro f; simp only [I, U8, U64, ptr, List.set_cons_zero, List.set_cons_succ, List.eraseIdx_cons_zero, List.eraseIdx_cons_succ, List.map_append, List.map_cons, List.map_nil, List.sum_append, List.sum_cons, List.sum_nil]; omega)⟩
/-- What one side has in memory. -/
def sideC (La Lb cs Ds cg Dg : Nat → List Chunk) (i : Nat) : List Chunk := La i ++ (Lb i ++ (cs i ++ (Ds i ++ (cg i ++ Dg i))))
def TkM (w0 : Base) (tb n : Nat) (st : TS) (L : List Chunk) : Prop := ∃ (b r : Nat → Nat) (La Lb : Nat → List Chunk) (av : Value) (ca Da : List Chunk) (sva : List Value) (ss gs : Nat → Value) (cs Ds cg Dg : Nat → List Chunk) (svs svg : Nat → List Value),
  (∀ i, i < 2 → Both w0 (b i) (r i) n (st.M i) (La i) (Lb i)) ∧ AirP w0 av st.air ca Da sva ∧ (∀ i, i < 2 → MsgP w0 (ss i) (st.sent i) (cs i) (Ds i) (svs i)) ∧ (∀ i, i < 2 → MsgP w0 (gs i) (st.got i) (cg i) (Dg i) (svg i)) ∧
  L = ⟨tb, 39, tkL b r av st.now ss gs⟩ :: (ca ++ (Da ++ (sideC La Lb cs Ds cg Dg 0 ++ sideC La Lb cs Ds cg Dg 1)))
theorem Both.mono {b r n n' : Nat} {M : LM} {La Lb : List Chunk} (h : Both w0 b r n M La Lb) (hn : n ≤ n') : Both w0 b r n' M La Lb := ⟨h.a, h.b, h.i.mono hn, h.q⟩
theorem all_setF {α β : Type} {p : Nat → α → β → Prop} {f : Nat → α} {g : Nat → β} {i : Nat} {x : α} {y : β} (h : ∀ j, j < 2 → p j (f j) (g j)) (hi : p i x y) : ∀ j, j < 2 → p j (setF f i x j) (setF g i y j) := by
  intro j hj
  by_cases e : j = i
  · subst e; rw [setF_self, setF_self]; exact hi
  · rw [setF_ne _ _ e, setF_ne _ _ e]; exact h j hj
/-- The state opened at side i; and closed again with other contents there. -/
theorem tk_open {tb n i : Nat} {st : TS} (hT : TkM w0 tb n st L) (H : Hp w0 w (L ++ F)) (hi : i < 2) :
    ∃ (b r : Nat → Nat) (La Lb : List Chunk) (av : Value) (ca Da : List Chunk) (sva : List Value) (ss gs : Nat → Value) (cs Ds cg Dg : List Chunk) (svs svg : List Value) (X : List Chunk),
      Both w0 (b i) (r i) n (st.M i) La Lb ∧ AirP w0 av st.air ca Da sva ∧ MsgP w0 (ss i) (st.sent i) cs Ds svs ∧ MsgP w0 (gs i) (st.got i) cg Dg svg ∧
      Hp w0 w (⟨tb, 39, tkL b r av st.now ss gs⟩ :: (ca ++ (Da ++ (La ++ (Lb ++ (cs ++ (Ds ++ (cg ++ (Dg ++ (X ++ F)))))))))) ∧
      ∀ (w' : World) (n' : Nat) (M' : LM) (La' Lb' : List Chunk) (av' : Value) (air' : List Fl) (ca' Da' : List Chunk) (sva' : List Value) (now' : Int) (s' g' : Value) (sent' got' : List (List Int)) (cs' Ds' cg' Dg' : List Chunk) (svs' svg' : List Value) (G : List Chunk), n ≤ n' →
        Both w0 (b i) (r i) n' M' La' Lb' → AirP w0 av' air' ca' Da' sva' → MsgP w0 s' sent' cs' Ds' svs' → MsgP w0 g' got' cg' Dg' svg' →
        Hp w0 w' (⟨tb, 39, tkL b r av' now' (setF ss i s') (setF gs i g')⟩ :: (ca' ++ (Da' ++ (La' ++ (Lb' ++ (cs' ++ (Ds' ++ (cg' ++ (Dg' ++ (X ++ G)))))))))) →
        ∃ L', TkM w0 tb n' ⟨setF st.M i M', air', now', setF st.sent i sent', setF st.got i got'⟩ L' ∧ Hp w0 w' (L' ++ G) := by
  obtain ⟨b, r, La, Lb, av, ca, Da, sva, ss, gs, cs, Ds, cg, Dg, svs, svg, hB, hA, hS, hG, rfl⟩ := hT
  refine ⟨b, r, La i, Lb i, av, ca, Da, sva, ss, gs, cs i, Ds i, cg i, Dg i, svs i, svg i, sideC La Lb cs Ds cg Dg (1 - i), hB i hi, hA, hS i hi, hG i hi, ?_, ?_⟩
  · rcases (show i = 0 ∨ i = 1 by omega) with rfl | rfl <;> exact H.to (by intro f; simp only [sideC, List.map_append, List.map_cons, List.sum_append, List.sum_cons, Nat.sub_self, Nat.sub_zero]; omega)
  · intro w' n' M' La' Lb' av' air' ca' Da' sva' now' s' g' sent' got' cs' Ds' cg' Dg' svs' svg' G hn hB' hA' hS' hG' H'
    refine ⟨_, ⟨b, r, setF La i La', setF Lb i Lb', av', ca', Da', sva', setF ss i s', setF gs i g', setF cs i cs', setF Ds i Ds', setF cg i cg', setF Dg i Dg', setF svs i svs', setF svg i svg', ?_, hA', ?_, ?_, rfl⟩, ?_⟩
    · intro j hj
      by_cases e : j = i
      · subst e; simp only [setF_self]; exact hB'
      · simp only [setF_ne _ _ e]; exact (hB j hj).mono hn
    · intro j hj
      by_cases e : j = i
      · subst e; simp only [setF_self]; exact hS'
      · simp only [setF_ne _ _ e]; exact hS j hj
    · intro j hj
      by_cases e : j = i
      · subst e; simp only [setF_self]; exact hG'
      · simp only [setF_ne _ _ e]; exact hG j hj
    · rcases (show i = 0 ∨ i = 1 by omega) with rfl | rfl <;> exact H'.to (by intro f; simp only [sideC, setF, List.map_append, List.map_cons, List.sum_append, List.sum_cons, Nat.sub_self, Nat.sub_zero, if_true, if_pos, Nat.one_ne_zero, Nat.zero_ne_one, if_false, ite_true, ite_false]; omega)
end
end Go.Proofs.Ytmnpndgmfmjfhaa.Den
end

section
set_option linter.unusedVariables false
set_option linter.unusedSimpArgs false
set_option maxRecDepth 8000
namespace Go.Proofs.Ytmnpndgmfmjfhaa.Den
open Go Go.RowKit
theorem setF_same {α : Type} (f : Nat → α) (i : Nat) : setF f i (f i) = f := by
  funext j; unfold setF; split
  · rename_i h; rw [h]
  · rfl
section
variable {w w' : World} {w0 : Base} {F L : List Chunk} {R : ER}
/-- Both sides look the same as their references. -/
theorem tk_seen {tb n : Nat} {st : TS} (hT : TkM w0 tb n st L) (hn : n < 10000) (H : Hp w0 w (L ++ F)) (k : ∀ w', Hp w0 w' (L ++ F) → R (.returned (.bool true)) w') : F33_j2 R (ptr tb 0) w := by
  obtain ⟨b, r, La, Lb, av, ca, Da, sva, ss, gs, cs, Ds, cg, Dg, svs, svg, hB, hA, hS, hG, rfl⟩ := hT
  have H1 : Hp w0 w.drew (⟨tb, 39, tkL b r av st.now ss gs⟩ :: (La 0 ++ (Lb 0 ++ (La 1 ++ (Lb 1 ++ (ca ++ (Da ++ (cs 0 ++ (Ds 0 ++ (cg 0 ++ (Dg 0 ++ (cs 1 ++ (Ds 1 ++ (cg 1 ++ (Dg 1 ++ F))))))))))))))) := H.drew.to (by intro f; simp only [sideC, List.map_append, List.map_cons, List.cons_append, List.sum_append, List.sum_cons]; omega)
  unfold F33_j2
  have e0 : ixA 2 1 (ptr tb 0) (.int .i64 0) = some (ptr tb 0) := rfl
  have e2 : ixA 2 1 (ptr tb 2) (.int .i64 0) = some (ptr tb 2) := rfl
  have e1 : ixA 2 1 (ptr tb 0) (.int .i64 1) = some (ptr tb 1) := rfl
  have e3 : ixA 2 1 (ptr tb 2) (.int .i64 1) = some (ptr tb 3) := rfl
  simp only [e0, WKt, mem, drewV]
  refine ld_h H1 0 rfl (v := ptr (b 0) 0) rfl ?_
  simp only [e2, WKt, mem, drewV]
  refine ld_h H1 0 rfl (v := ptr (r 0) 0) rfl ?_
  have H2 : Hp w0 w.drew (La 0 ++ (Lb 0 ++ (⟨tb, 39, tkL b r av st.now ss gs⟩ :: (La 1 ++ (Lb 1 ++ (ca ++ (Da ++ (cs 0 ++ (Ds 0 ++ (cg 0 ++ (Dg 0 ++ (cs 1 ++ (Ds 1 ++ (cg 1 ++ (Dg 1 ++ F))))))))))))))) := H1.to (by intro f; simp only [I, U8, U64, ptr, List.set_cons_zero, List.set_cons_succ, List.eraseIdx_cons_zero, List.eraseIdx_cons_succ, List.map_append, List.map_cons, List.map_nil, List.sum_append, List.sum_cons, List.sum_nil]; omega)
  refine cal_h (seen_spec (hB 0 (by decide)) hn H2) ?_
  rintro _ w3 ⟨rfl, H3⟩
  have H3' : Hp w0 w3 (⟨tb, 39, tkL b r av st.now ss gs⟩ :: (La 0 ++ (Lb 0 ++ (La 1 ++ (Lb 1 ++ (ca ++ (Da ++ (cs 0 ++ (Ds 0 ++ (cg 0 ++ (Dg 0 ++ (cs 1 ++ (Ds 1 ++ (cg 1 ++ (Dg 1 ++ F))))))))))))))) := H3.to (by intro f; simp only [I, U8, U64, ptr, List.set_cons_zero, List.set_cons_succ, List.eraseIdx_cons_zero, List.eraseIdx_cons_succ, List.map_append, List.map_cons, List.map_nil, List.sum_append, List.sum_cons, List.sum_nil]; omega)
  simp only [e1, WKt, mem, drewV]
  refine ld_h H3' 0 rfl (v := ptr (b 1) 0) rfl ?_
  simp only [e3, WKt, mem, drewV]
  refine ld_h H3' 0 rfl (v := ptr (r 1) 0) rfl ?_
  have H4 : Hp w0 w3 (La 1 ++ (Lb 1 ++ (⟨tb, 39, tkL b r av st.now ss gs⟩ :: (La 0 ++ (Lb 0 ++ (ca ++ (Da ++ (cs 0 ++ (Ds 0 ++ (cg 0 ++ (Dg 0 ++ (cs 1 ++ (Ds 1 ++ (cg 1 ++ (Dg 1 ++ F))))))))))))))) := H3.to (by intro f; simp only [I, U8, U64, ptr, List.set_cons_zero, List.set_cons_succ, List.eraseIdx_cons_zero, List.eraseIdx_cons_succ, List.map_append, List.map_cons, List.map_nil, List.sum_append, List.sum_cons, List.sum_nil]; omega)
  refine cal_h (seen_spec (hB 1 (by decide)) hn H4) ?_
  rintro _ w5 ⟨rfl, H5⟩
  simp only [WKt, mem, drewV]
  exact k w5 (H5.to (by intro f; simp only [sideC, List.map_append, List.map_cons, List.cons_append, List.sum_append, List.sum_cons]; omega))
/-- One side sends. -/
theorem tk_send {tb vb n i : Nat} {st : TS} {l : List Value} {s : Value} {xs : List Int} (hT : TkM w0 tb n st L) (hn : n < 9000) (hi : i < 2) (hs : RdL w0 [] 1 s xs.length (bv xs)) (hsl : (st.sent i).length < 2 ^ 20) (hl3 : l[3]? = some s)
    (H : Hp w0 w (L ++ (⟨vb, 85, l⟩ :: F)))
    (k : ∀ w' L', TkM w0 tb (n + 1) ⟨setF st.M i (sendM (st.M i) (xs.take 200) st.now), st.air, st.now, setF st.sent i (if sendE (st.M i) (xs.take 200) st.now = 0 then st.sent i ++ [xs.take 200] else st.sent i), setF st.got i (st.got i)⟩ L' → Hp w0 w' (L' ++ (⟨vb, 85, l⟩ :: F)) → R (.returned (.bool true)) w') :
    F33_j5 R (ptr tb 0) (ptr vb 0) (I (i : Int)) w := by
  obtain ⟨b, r, La, Lb, av, ca, Da, sva, ss, gs, cs, Ds, cg, Dg, svs, svg, X, hB, hA, hS, hG, H, close⟩ := tk_open hT H hi
  have h1 := hB.i.un
  have h3 := hB.i.wf
  have hsd := h3.sd
  have hn4 : 4097 * n ≤ 4097 * 10000 := Nat.mul_le_mul_left _ (by omega)
  unfold F33_j5
  have Ha : Hp w0 w (⟨vb, 85, l⟩ :: (⟨tb, 39, tkL b r av st.now ss gs⟩ :: (ca ++ (Da ++ (La ++ (Lb ++ (cs ++ (Ds ++ (cg ++ (Dg ++ (X ++ F))))))))))) := H.to (by intro f; simp only [I, U8, U64, ptr, List.set_cons_zero, List.set_cons_succ, List.eraseIdx_cons_zero, List.eraseIdx_cons_succ, List.map_append, List.map_cons, List.map_nil, List.sum_append, List.sum_cons, List.sum_nil]; omega)
  try simp only [WKt, mem, drewV]
  refine ld_h Ha 0 rfl hl3 ?_
  refine ld_h Ha 0 rfl hl3 ?_
  rw [lenS_rdL hs]
  try simp only [WKt, mem, drewV]
  have em : min2I (.int .i64 (xs.length : Int)) (.int .i64 200) = some (.int .i64 ((min xs.length 200 : Nat) : Int)) := min2I_nat xs.length 200
  obtain ⟨t, et, ht⟩ := slS_pre (k := min xs.length 200) hs (by omega)
  rw [em]
  try simp only [WKt, mem, drewV]
  rw [et]
  try simp only [WKt, mem, drewV]
  have etk : xs.take (min xs.length 200) = xs.take 200 := by
    by_cases h : xs.length ≤ 200
    · rw [Nat.min_eq_left h, List.take_of_length_le (Nat.le_refl _), List.take_of_length_le h]
    · rw [Nat.min_eq_right (by omega)]
  have htl : (xs.take 200).length = min xs.length 200 := by simp [Nat.min_comm]
  rw [etk, ← htl] at ht
  generalize hd : xs.take 200 = d at ht close
  have hd200 : d.length ≤ 200 := by rw [← hd]; simp; omega
  have ht' : ∀ G : List Chunk, RdL w0 G 1 t d.length (bv d) := fun G => ht.mono (by simp)
  unfold F33_j7
  have Hb : Hp w0 w.drew (⟨tb, 39, tkL b r av st.now ss gs⟩ :: (ca ++ (Da ++ (La ++ (Lb ++ (cs ++ (Ds ++ (cg ++ (Dg ++ (X ++ (⟨vb, 85, l⟩ :: F))))))))))) := H.drew
  try simp only [WKt, mem, drewV]
  rw [ixA_mk hi]
  try simp only [WKt, mem, drewV]
  refine ld_h Hb 0 rfl (tk_b hi) ?_
  refine cal_h (Clone_spec (ht' _) (by omega) Hb) ?_
  rintro _ w1 ⟨s', c1, rfl, H1, hs1⟩
  try simp only [WKt, mem, drewV]
  have H1' : Hp w0 w1 (⟨tb, 39, tkL b r av st.now ss gs⟩ :: (c1 ++ (ca ++ (Da ++ (La ++ (Lb ++ (cs ++ (Ds ++ (cg ++ (Dg ++ (X ++ (⟨vb, 85, l⟩ :: F)))))))))))) := H1.to (by intro f; simp only [I, U8, U64, ptr, List.set_cons_zero, List.set_cons_succ, List.eraseIdx_cons_zero, List.eraseIdx_cons_succ, List.map_append, List.map_cons, List.map_nil, List.sum_append, List.sum_cons, List.sum_nil]; omega)
  rw [rd1_t (H1'.cell 0 rfl (tk_b hi))]
  try simp only [WKt, mem, drewV]
  refine ldS_h H1' 0 rfl (o := 5) rfl (by intro y hy; simp at hy; subst hy; exact Hb.cell 0 rfl rfl) ?_
  have H1'' : Hp w0 w1 (La ++ (⟨tb, 39, tkL b r av st.now ss gs⟩ :: (c1 ++ (ca ++ (Da ++ (Lb ++ (cs ++ (Ds ++ (cg ++ (Dg ++ (X ++ (⟨vb, 85, l⟩ :: F)))))))))))) := H1.to (by intro f; simp only [I, U8, U64, ptr, List.set_cons_zero, List.set_cons_succ, List.eraseIdx_cons_zero, List.eraseIdx_cons_succ, List.map_append, List.map_cons, List.map_nil, List.sum_append, List.sum_cons, List.sum_nil]; omega)
  refine cal_h (Send_spec (now := st.now) H1'' hB.a (hs1.rdL (fun c hc => by simp [hc])) (by omega) h3.size (by omega) (by omega)) ?_
  rintro _ w2 ⟨La', rfl, H2, hA'⟩
  try simp only [WKt, mem, drewV]
  have fin : ∀ {w : World} {s2 : Value} {c2 D2 : List Chunk} {sv2 : List Value}, MsgP w0 s2 (if sendE (st.M i) d st.now = 0 then st.sent i ++ [d] else st.sent i) c2 D2 sv2 →
      Hp w0 w (⟨tb, 39, tkL b r av st.now (setF ss i s2) gs⟩ :: (c1 ++ (ca ++ (Da ++ (La' ++ (Lb ++ (c2 ++ (D2 ++ (cg ++ (Dg ++ (X ++ (⟨vb, 85, l⟩ :: F)))))))))))) → F33_j6 R (ptr tb 0) (I (i : Int)) t w := by
    intro w s2 c2 D2 sv2 hS2 H
    unfold F33_j6
    have H := H.drew
    try simp only [WKt, mem, drewV]
    rw [ixA_mk hi]
    try simp only [WKt, mem, drewV]
    refine ld_h H 0 rfl (tk_r hi) ?_
    refine ld_h H 0 rfl (o := 5) rfl ?_
    have H' : Hp w0 w.drew (Lb ++ (⟨tb, 39, tkL b r av st.now (setF ss i s2) gs⟩ :: (c1 ++ (ca ++ (Da ++ (La' ++ (c2 ++ (D2 ++ (cg ++ (Dg ++ (X ++ (⟨vb, 85, l⟩ :: F)))))))))))) := H.to (by intro f; simp only [I, U8, U64, ptr, List.set_cons_zero, List.set_cons_succ, List.eraseIdx_cons_zero, List.eraseIdx_cons_succ, List.map_append, List.map_cons, List.map_nil, List.sum_append, List.sum_cons, List.sum_nil]; omega)
    refine cal_h (rSend_spec (now := st.now) H' hB.b (ht' _) (by omega) h3.size (by omega) (by omega)) ?_
    rintro _ w5 ⟨Lb', rfl, H5, hB'⟩
    try simp only [WKt, mem, drewV]
    have H6 : Hp w0 w5 (⟨tb, 39, tkL b r av st.now (setF ss i s2) (setF gs i (gs i))⟩ :: (ca ++ (Da ++ (La' ++ (Lb' ++ (c2 ++ (D2 ++ (cg ++ (Dg ++ (X ++ (⟨vb, 85, l⟩ :: F))))))))))) := by rw [setF_same]; exact H5.to (by intro f; simp only [I, U8, U64, ptr, List.set_cons_zero, List.set_cons_succ, List.eraseIdx_cons_zero, List.eraseIdx_cons_succ, List.map_append, List.map_cons, List.map_nil, List.sum_append, List.sum_cons, List.sum_nil]; omega)
    obtain ⟨L', hT', H7⟩ := close w5 (n + 1) (sendM (st.M i) d st.now) La' Lb' av st.air ca Da sva st.now s2 (gs i) _ (st.got i) c2 D2 cg Dg sv2 svg (⟨vb, 85, l⟩ :: F) (by omega) ⟨hA', hB', inv_send hB.i (by omega), by rw [sendM_q]; exact hB.q⟩ hA hS2 hG H6
    exact tk_seen hT' (by omega) H7 fun w' H8 => k w' L' (by rw [hd]; exact hT') H8
  unfold F33_j8
  by_cases hE : sendE (st.M i) d st.now = 0
  · rw [if_pos hE] at fin
    simp only [decide_eq_true hE, WKt, mem, drewV]
    unfold F33_j9
    have H3 : Hp w0 w2.drew (⟨tb, 39, tkL b r av st.now ss gs⟩ :: (c1 ++ (ca ++ (Da ++ (La' ++ (Lb ++ (cs ++ (Ds ++ (cg ++ (Dg ++ (X ++ (⟨vb, 85, l⟩ :: F)))))))))))) := H2.drew.to (by intro f; simp only [I, U8, U64, ptr, List.set_cons_zero, List.set_cons_succ, List.eraseIdx_cons_zero, List.eraseIdx_cons_succ, List.map_append, List.map_cons, List.map_nil, List.sum_append, List.sum_cons, List.sum_nil]; omega)
    try simp only [WKt, mem, drewV]
    rw [ixA_mk hi]
    try simp only [WKt, mem, drewV]
    refine ld_h H3 0 rfl (tk_s hi) ?_
    refine lit1s_h elT36 H3 (rd_cells ht).1 fun w4 nb H4 => ?_
    have H4' : Hp w0 w4 (⟨tb, 39, tkL b r av st.now ss gs⟩ :: ⟨nb, 24, [t]⟩ :: (c1 ++ (ca ++ (Da ++ (La' ++ (Lb ++ (cs ++ (Ds ++ (cg ++ (Dg ++ (X ++ (⟨vb, 85, l⟩ :: F)))))))))))) := H4.to (by intro f; simp only [I, U8, U64, ptr, List.set_cons_zero, List.set_cons_succ, List.eraseIdx_cons_zero, List.eraseIdx_cons_succ, List.map_append, List.map_cons, List.map_nil, List.sum_append, List.sum_cons, List.sum_nil]; omega)
    rw [rd1_t (H4'.cell 0 rfl (tk_s hi))]
    try simp only [WKt, mem, drewV]
    have hM1 : MsgP w0 (.slice (some ⟨nb, 0, none⟩) 1 1) [d] [⟨nb, 24, [t]⟩] [] [t] := by
      refine ⟨.inr ⟨nb, 1, [], by simp, rfl, by simp, Nat.le_refl _, by simp⟩, rfl, ?_⟩
      intro j ys s hj hs
      have h0 : j = 0 := by have := (List.getElem?_eq_some_iff.1 hj).1; simp at this; omega
      subst h0
      simp at hj hs
      subst hj; subst hs
      exact ht
    have H4'' : Hp w0 w4 (cs ++ (Ds ++ ([⟨nb, 24, [t]⟩] ++ ([] ++ (⟨tb, 39, tkL b r av st.now ss gs⟩ :: (c1 ++ (ca ++ (Da ++ (La' ++ (Lb ++ (cg ++ (Dg ++ (X ++ (⟨vb, 85, l⟩ :: F)))))))))))))) := H4.to (by intro f; simp only [I, U8, U64, ptr, List.set_cons_zero, List.set_cons_succ, List.eraseIdx_cons_zero, List.eraseIdx_cons_succ, List.map_append, List.map_cons, List.map_nil, List.sum_append, List.sum_cons, List.sum_nil]; omega)
    refine hS.app hM1 (by simp; omega) H4'' fun w6 s6 c6 H6 hS6 => ?_
    try simp only [WKt, mem, drewV]
    have H6' : Hp w0 w6 (⟨tb, 39, tkL b r av st.now ss gs⟩ :: (c1 ++ (ca ++ (Da ++ (La' ++ (Lb ++ (c6 ++ ((Ds ++ []) ++ (cg ++ (Dg ++ (X ++ (⟨vb, 85, l⟩ :: F)))))))))))) := H6.to (by intro f; simp only [I, U8, U64, ptr, List.set_cons_zero, List.set_cons_succ, List.eraseIdx_cons_zero, List.eraseIdx_cons_succ, List.map_append, List.map_cons, List.map_nil, List.sum_append, List.sum_cons, List.sum_nil]; omega)
    try rw [ixA_mk hi]
    try simp only [WKt, mem, drewV]
    refine st_h H6' 0 rfl (by rw [tk_len]; omega) (sl_sc hS6.sl) fun w7 H7 => ?_
    simp only [List.set_cons_zero] at H7
    rw [tk_setS hi] at H7
    exact fin hS6 H7
  · rw [if_neg hE] at fin
    simp only [decide_eq_false hE, WKt, mem, drewV]
    refine fin (s2 := ss i) hS ?_
    rw [setF_same]
    exact H2.to (by intro f; simp only [I, U8, U64, ptr, List.set_cons_zero, List.set_cons_succ, List.eraseIdx_cons_zero, List.eraseIdx_cons_succ, List.map_append, List.map_cons, List.map_nil, List.sum_append, List.sum_cons, List.sum_nil]; omega)
end
end Go.Proofs.Ytmnpndgmfmjfhaa.Den
end

section
set_option linter.unusedVariables false
set_option linter.unusedSimpArgs false
set_option maxRecDepth 8000
namespace Go.Proofs.Ytmnpndgmfmjfhaa.Den
open Go Go.RowKit
/-- Frames that were sent, on their way. -/
def flOf (to : Nat) (os : List OM) : List Fl := os.map fun o => ⟨to, o.1, o.2, false⟩
section
variable {w w' : World} {w0 : Base} {F L : List Chunk} {R : ER}
theorem AirP.mono {s : Value} {l : List Fl} {ca Da Da' : List Chunk} {sv : List Value} (h : AirP w0 s l ca Da sv) (hs : ∀ c ∈ Da, c ∈ Da') : AirP w0 s l ca Da' sv :=
  ⟨h.sl, h.svl, fun i f s h1 h2 => (h.dat i f s h1 h2).mono hs⟩
theorem fls_app {l : List Fl} {sv : List Value} {f : Fl} {s : Value} (h : sv.length = l.length) : (fls (l ++ [f]) (sv ++ [s])).flatten = (fls l sv).flatten ++ fcell f s := by
  unfold fls
  rw [List.zipWith_append (by rw [h]), List.flatten_append]; simp
theorem air_app {av s : Value} {l : List Fl} {ca Da : List Chunk} {sv : List Value} {f : Fl} (h : AirP w0 av l ca Da sv) (hs : RdL w0 Da 1 s f.by_.length (bv f.by_)) {K : VK} {ty : Nat} {cc : Array Bool} (hl : l.length < 2 ^ 30) {nb : Nat} {G : List Chunk}
    (H : Hp w0 w (⟨nb, 132, fcell f s⟩ :: (ca ++ G))) (k : ∀ w' av' ca', AirP w0 av' (l ++ [f]) ca' Da (sv ++ [s]) → Hp w0 w' (ca' ++ G) → K av' w') : blt Pg R .append ⟨[35, 35]⟩ ty cc ⟨[av, .slice (some ⟨nb, 0, none⟩) 1 1]⟩ K w := by
  have H' : Hp w0 w (ca ++ (⟨nb, 132, fcell f s⟩ :: G)) := H.to (by intro f; simp only [I, U8, U64, ptr, List.set_cons_zero, List.set_cons_succ, List.eraseIdx_cons_zero, List.eraseIdx_cons_succ, List.map_append, List.map_cons, List.map_nil, List.sum_append, List.sum_cons, List.sum_nil]; omega)
  have hsc := (rd_cells hs).2
  refine append_h (m := 1) (ys := fcell f s) elT35 H' h.sl (.inr ⟨nb, 0, 1, 132, fcell f s, rfl, by omega, by simp, by simp [fcell], rfl⟩)
    (by intro c hc; simp [fcell] at hc; rcases hc with rfl | rfl | rfl | rfl <;> first | rfl | exact hsc) (by omega) (by omega) fun w2 s2 ca2 H2 h2 => ?_
  refine k w2 s2 ca2 ⟨?_, by simp [h.svl], ?_⟩ (H2.to (by intro f; simp only [I, U8, U64, ptr, List.set_cons_zero, List.set_cons_succ, List.eraseIdx_cons_zero, List.eraseIdx_cons_succ, List.map_append, List.map_cons, List.map_nil, List.sum_append, List.sum_cons, List.sum_nil]; omega))
  · rw [fls_app h.svl, List.length_append]; exact h2
  · intro i g t hg ht
    by_cases hi : i < l.length
    · rw [List.getElem?_append_left hi] at hg
      rw [List.getElem?_append_left (by rw [h.svl]; exact hi)] at ht
      exact h.dat i g t hg ht
    · rw [List.getElem?_append_right (by omega)] at hg
      rw [List.getElem?_append_right (by rw [h.svl]; omega), h.svl] at ht
      have hi0 : i - l.length = 0 := by
        have := (List.getElem?_eq_some_iff.1 hg).1
        simp at this; omega
      rw [hi0] at hg ht
      simp only [List.getElem?_cons_zero, Option.some.injEq] at hg ht
      subst hg; subst ht
      exact hs
theorem tkL_air {b r : Nat → Nat} {a a' : Value} {now : Int} {ss gs : Nat → Value} : (tkL b r a now ss gs).set 4 a' = tkL b r a' now ss gs := rfl
/-- The frames that one side has sent are put in the air. -/
theorem tk_put {tb i : Nat} {b r : Nat → Nat} {now : Int} {ss gs : Nat → Value} {s : Value} {os : List OM} {co Db : List Chunk} {sv : List Value} {air : List Fl} {Da Y : List Chunk} (hi : i < 2) (hP : OutP 90 w0 s os co Db sv) (hal : air.length + os.length < 2 ^ 29) (m1 : ∀ c ∈ co, c ∈ Y) (m2 : ∀ c ∈ Db, c ∈ Da)
    (kk : ∀ w' av' ca' sva', AirP w0 av' (air ++ flOf (1 - i) os) ca' Da sva' → Hp w0 w' (⟨tb, 39, tkL b r av' now ss gs⟩ :: (ca' ++ Y)) → F33_j2 R (ptr tb 0) w') :
    ∀ (d j : Nat) (w : World) (av : Value) (ca : List Chunk) (sva : List Value), j + d = os.length → AirP w0 av (air ++ flOf (1 - i) (os.take j)) ca Da sva → Hp w0 w (⟨tb, 39, tkL b r av now ss gs⟩ :: (ca ++ Y)) →
      F33_l1 R (d + 1) (ptr tb 0) (I (i : Int)) s (I (os.length : Int)) (I (j : Int)) w := by
  intro d
  induction d with
  | zero =>
    intro j w av ca sva hj hA H
    rw [F33_l1_succ]
    unfold F33_b1
    simp only [WKt, mem, drewV, show decide ((j : Int) < (os.length : Int)) = false from decide_eq_false (by omega)]
    rw [List.take_of_length_le (by omega)] at hA
    exact kk w av ca sva hA H
  | succ d ih =>
    intro j w av ca sva hj hA H
    rw [F33_l1_succ]
    unfold F33_b1
    simp only [WKt, mem, drewV, show decide ((j : Int) < (os.length : Int)) = true from decide_eq_true (by omega)]
    unfold F33_j15
    have hlt : j < os.length := by omega
    obtain ⟨o, ho⟩ : ∃ o, os[j]? = some o := ⟨_, List.getElem?_eq_getElem hlt⟩
    obtain ⟨t, ht⟩ : ∃ t, sv[j]? = some t := ⟨_, List.getElem?_eq_getElem (by rw [hP.svl]; exact hlt)⟩
    obtain ⟨b1, c1, q1, e1, rfl, g1, g2, g3⟩ := hP.sl.chunk (by omega)
    have hd := hP.dat j o t ho ht
    have hsc := (rd_cells hd).2
    rw [ixS_mk hlt]
    simp only [WKt, mem, drewV]
    have hmem : (⟨b1, 90, ocells os sv ++ q1⟩ : Chunk) ∈ Y := m1 _ (by rw [e1]; simp)
    refine ldN_blk (H.blk ⟨b1, 90, ocells os sv ++ q1⟩ (by simp [hmem])).2 (by show _ ≤ (ocells os sv ++ q1).length; rw [List.length_append, ocells_lenP hP.svl]; omega) ?_
    rw [show ((({ b := b1, t := 90, l := ocells os sv ++ q1 } : Chunk).l).drop (j * 2)).take 2 = [I o.1, t] from out_cellP hP.svl ho ht]
    refine al_h H (z := [I 0, .slice none 0 0]) (by kernel_rfl) fun w1 x1 H1 => ?_
    refine stA_h H1 0 rfl rfl rfl (by intro c hc; simp at hc; rcases hc with rfl | rfl <;> first | rfl | exact hsc) fun w2 H2 => ?_
    simp only [List.set_cons_zero] at H2
    have H2 := H2.drew
    try simp only [WKt, mem, drewV]
    refine ld_h H2 1 rfl (o := 4) rfl ?_
    have hw : IntKind.i64.wrap (1 - (i : Int)) = ((1 - i : Nat) : Int) := by rw [wrap64_id (by omega) (by omega)]; omega
    rw [hw]
    refine ld_h H2 0 rfl rfl ?_
    refine ld_h H2 0 rfl (o := 1) rfl ?_
    have eb : bldO [.int .i64 0, .int .i64 0, .slice none 0 0, .bool false] [(0, 1, I ((1 - i : Nat) : Int)), (1, 1, I o.1), (2, 1, t)] = some (.agg ⟨fcell ⟨1 - i, o.1, o.2, false⟩ t⟩) := by
      clear ht hd H2
      cases t <;> first | (simp [scalar] at hsc; done) | rfl
    rw [eb]
    try simp only [WKt, mem, drewV]
    refine lit1_h (v := .agg ⟨fcell ⟨1 - i, o.1, o.2, false⟩ t⟩) elT35 H2 rfl (by omega) fun w3 nb H3 => ?_
    have H3 : Hp w0 w3 (⟨nb, 132, fcell ⟨1 - i, o.1, o.2, false⟩ t⟩ :: ⟨x1, 90, [I o.1, t]⟩ :: ⟨tb, 39, tkL b r av now ss gs⟩ :: (ca ++ Y)) := H3
    have H3' : Hp w0 w3 (⟨nb, 132, fcell ⟨1 - i, o.1, o.2, false⟩ t⟩ :: ⟨tb, 39, tkL b r av now ss gs⟩ :: (ca ++ (⟨x1, 90, [I o.1, t]⟩ :: Y))) := H3.to (by intro f; simp only [I, U8, U64, ptr, List.set_cons_zero, List.set_cons_succ, List.eraseIdx_cons_zero, List.eraseIdx_cons_succ, List.map_append, List.map_cons, List.map_nil, List.sum_append, List.sum_cons, List.sum_nil]; omega)
    rw [rd1_t (H3'.cell 1 (o := 4) rfl rfl)]
    have H3'' : Hp w0 w3 (⟨nb, 132, fcell ⟨1 - i, o.1, o.2, false⟩ t⟩ :: (ca ++ (⟨tb, 39, tkL b r av now ss gs⟩ :: ⟨x1, 90, [I o.1, t]⟩ :: Y))) := H3'.to (by intro f; simp only [I, U8, U64, ptr, List.set_cons_zero, List.set_cons_succ, List.eraseIdx_cons_zero, List.eraseIdx_cons_succ, List.map_append, List.map_cons, List.map_nil, List.sum_append, List.sum_cons, List.sum_nil]; omega)
    try simp only [WKt, mem, drewV]
    refine air_app (f := ⟨1 - i, o.1, o.2, false⟩) hA (hd.mono m2) (by simp [flOf]; omega) H3'' fun w4 av' ca' hA' H4 => ?_
    try simp only [WKt, mem, drewV]
    have H4' : Hp w0 w4 (⟨tb, 39, tkL b r av now ss gs⟩ :: (ca' ++ (⟨x1, 90, [I o.1, t]⟩ :: Y))) := H4.to (by intro f; simp only [I, U8, U64, ptr, List.set_cons_zero, List.set_cons_succ, List.eraseIdx_cons_zero, List.eraseIdx_cons_succ, List.map_append, List.map_cons, List.map_nil, List.sum_append, List.sum_cons, List.sum_nil]; omega)
    refine st_h H4' 0 rfl (by rw [tk_len]; omega) (sl_sc hA'.sl) fun w5 H5 => ?_
    simp only [List.set_cons_zero] at H5
    rw [tkL_air] at H5
    try simp only [WKt, mem, drewV]
    rw [wrap64_id (by omega) (by omega), show (j : Int) + 1 = ((j + 1 : Nat) : Int) from by omega]
    refine ih (j + 1) w5 av' ca' (sva ++ [t]) (by omega) ?_ (H5.to (by intro f; simp only [I, U8, U64, ptr, List.set_cons_zero, List.set_cons_succ, List.eraseIdx_cons_zero, List.eraseIdx_cons_succ, List.map_append, List.map_cons, List.map_nil, List.sum_append, List.sum_cons, List.sum_nil]; omega))
    have : air ++ flOf (1 - i) (os.take (j + 1)) = air ++ flOf (1 - i) (os.take j) ++ [⟨1 - i, o.1, o.2, false⟩] := by
      unfold flOf; rw [List.take_add_one, ho, List.map_append, List.append_assoc]; rfl
    rw [this]; exact hA'
theorem tk_out {tb vb n i : Nat} {st : TS} {l : List Value} (hT : TkM w0 tb n st L) (hn : n < 9000) (hi : i < 2) (hal : st.air.length < 2 ^ 28) (H : Hp w0 w (L ++ (⟨vb, 85, l⟩ :: F)))
    (k : ∀ w' L', TkM w0 tb (n + 1) ⟨setF st.M i (outM (st.M i) st.now), st.air ++ flOf (1 - i) (outV (st.M i) st.now), st.now, setF st.sent i (st.sent i), setF st.got i (st.got i)⟩ L' → Hp w0 w' (L' ++ (⟨vb, 85, l⟩ :: F)) → R (.returned (.bool true)) w') :
    F33_j12 R (ptr tb 0) (I (i : Int)) w := by
  obtain ⟨b, r, La, Lb, av, ca, Da, sva, ss, gs, cs, Ds, cg, Dg, svs, svg, X, hB, hA, hS, hG, H, close⟩ := tk_open hT H hi
  have h3 := hB.i.wf
  have h2 := hB.i.an
  unfold F33_j12
  have Hb := H.drew
  try simp only [WKt, mem, drewV]
  rw [ixA_mk hi]
  try simp only [WKt, mem, drewV]
  refine ld_h Hb 0 rfl (tk_b hi) ?_
  refine ld_h Hb 0 rfl (o := 5) rfl ?_
  have H1 : Hp w0 w.drew (La ++ (⟨tb, 39, tkL b r av st.now ss gs⟩ :: (ca ++ (Da ++ (Lb ++ (cs ++ (Ds ++ (cg ++ (Dg ++ (X ++ (⟨vb, 85, l⟩ :: F))))))))))) := H.drew.to (by intro f; simp only [I, U8, U64, ptr, List.set_cons_zero, List.set_cons_succ, List.eraseIdx_cons_zero, List.eraseIdx_cons_succ, List.map_append, List.map_cons, List.map_nil, List.sum_append, List.sum_cons, List.sum_nil]; omega)
  refine cal_h (Output_spec (now := st.now) H1 hB.a h3) ?_
  rintro _ w4 ⟨t1, co, Db, sv, La', rfl, H4, hm, hA'⟩
  try simp only [WKt, mem, drewV]
  have H4' : Hp w0 w4.drew (⟨tb, 39, tkL b r av st.now ss gs⟩ :: (co ++ (Db ++ (La' ++ (ca ++ (Da ++ (Lb ++ (cs ++ (Ds ++ (cg ++ (Dg ++ (X ++ (⟨vb, 85, l⟩ :: F))))))))))))) := H4.drew.to (by intro f; simp only [I, U8, U64, ptr, List.set_cons_zero, List.set_cons_succ, List.eraseIdx_cons_zero, List.eraseIdx_cons_succ, List.map_append, List.map_cons, List.map_nil, List.sum_append, List.sum_cons, List.sum_nil]; omega)
  try rw [ixA_mk hi]
  try simp only [WKt, mem, drewV]
  refine ld_h H4' 0 rfl (tk_r hi) ?_
  refine ld_h H4' 0 rfl (o := 5) rfl ?_
  have H4'' : Hp w0 w4.drew (Lb ++ (⟨tb, 39, tkL b r av st.now ss gs⟩ :: (co ++ (Db ++ (La' ++ (ca ++ (Da ++ (cs ++ (Ds ++ (cg ++ (Dg ++ (X ++ (⟨vb, 85, l⟩ :: F))))))))))))) := H4.drew.to (by intro f; simp only [I, U8, U64, ptr, List.set_cons_zero, List.set_cons_succ, List.eraseIdx_cons_zero, List.eraseIdx_cons_succ, List.map_append, List.map_cons, List.map_nil, List.sum_append, List.sum_cons, List.sum_nil]; omega)
  refine cal_h (rOutput_spec (now := st.now) H4'' hB.b h3 hB.q) ?_
  rintro _ w5 ⟨t2, co2, Db2, sv2, Lb', rfl, H5, hm2, hB'⟩
  have hol := outV_len (M := st.M i) (now := st.now) (by omega) h3.up8
  have holt : (outV (st.M i) st.now).length < 2 ^ 28 := by
    have : (outV (st.M i) st.now).length ≤ (st.M i).acks.length + 64 := outV_len2 h3.up8
    omega
  try simp only [WKt, mem, drewV]
  simp only [show decide (outE (st.M i) st.now ≠ outE (st.M i) st.now) = false from decide_eq_false (by simp), WKt, mem, drewV]
  refine cal_h (eqo_spec hm hm2 (fun c hc => by simp [hc]) (fun c hc => by simp [hc]) (fun c hc => by simp [hc]) (fun c hc => by simp [hc]) hol (fun v hv => by have := outV_bytesP v hv; omega) H5) ?_
  rintro _ w6 ⟨rfl, H6⟩
  try simp only [WKt, mem, drewV]
  unfold F33_j13
  rw [lenS_sl hm.sl]
  try simp only [WKt, mem, drewV]
  unfold F33_j14
  refine ⟨(outV (st.M i) st.now).length + 1, ?_⟩
  have H6' : Hp w0 w6 (⟨tb, 39, tkL b r av st.now ss gs⟩ :: (ca ++ (Da ++ (Db ++ (La' ++ (Lb' ++ (cs ++ (Ds ++ (cg ++ (Dg ++ (X ++ ((⟨vb, 85, l⟩ :: F) ++ (co ++ (co2 ++ Db2)))))))))))))) := H6.to (by intro f; simp only [I, U8, U64, ptr, List.set_cons_zero, List.set_cons_succ, List.eraseIdx_cons_zero, List.eraseIdx_cons_succ, List.map_append, List.map_cons, List.map_nil, List.sum_append, List.sum_cons, List.sum_nil]; omega)
  refine tk_put (i := i) (air := st.air) (Da := Da ++ Db) hi hm (by omega) (fun c hc => by simp [hc]) (fun c hc => by simp [hc]) ?_ (outV (st.M i) st.now).length 0 w6 av ca sva (by omega) ?_ H6'
  · intro w7 av' ca' sva' hA7 H7
    have H7' : Hp w0 w7 (⟨tb, 39, tkL b r av' st.now (setF ss i (ss i)) (setF gs i (gs i))⟩ :: (ca' ++ ((Da ++ Db) ++ (La' ++ (Lb' ++ (cs ++ (Ds ++ (cg ++ (Dg ++ (X ++ (⟨vb, 85, l⟩ :: F))))))))))) := by rw [setF_same, setF_same]; exact H7.to (by intro f; simp only [I, U8, U64, ptr, List.set_cons_zero, List.set_cons_succ, List.eraseIdx_cons_zero, List.eraseIdx_cons_succ, List.map_append, List.map_cons, List.map_nil, List.sum_append, List.sum_cons, List.sum_nil]; omega)
    obtain ⟨L', hT', H8⟩ := close w7 (n + 1) (outM (st.M i) st.now) La' Lb' av' _ ca' (Da ++ Db) sva' st.now (ss i) (gs i) (st.sent i) (st.got i) cs Ds cg Dg svs svg (⟨vb, 85, l⟩ :: F) (by omega) ⟨hA', hB', inv_out hB.i (by omega), by rw [outM_q]; exact hB.q⟩ hA7 hS hG H7'
    exact tk_seen hT' (by omega) H8 fun w' H9 => k w' L' hT' H9
  · rw [show flOf (1 - i) (List.take 0 (outV (st.M i) st.now)) = [] from rfl, List.append_nil]
    exact hA.mono fun c hc => by simp [hc]
/-- A wire of one side is set. -/
theorem tk_set {tb vb n i : Nat} {st : TS} {wh : Int} {t : Nat} {s : Value} {kd : Int} (hT : TkM w0 tb n st L) (hn : n < 9000) (hi : i < 2) (ht : t < 256) (H : Hp w0 w (L ++ (⟨vb, 85, [I kd, I wh, .int .u8 (t : Int), s]⟩ :: F)))
    (k : ∀ w' L', TkM w0 tb (n + 1) ⟨setF st.M i (setM (st.M i) (u64 wh % 3) (decide (t % 2 = 0))), st.air, st.now, setF st.sent i (st.sent i), setF st.got i (st.got i)⟩ L' → Hp w0 w' (L' ++ (⟨vb, 85, [I kd, I wh, .int .u8 (t : Int), s]⟩ :: F)) → R (.returned (.bool true)) w') :
    F33_j18 R (ptr tb 0) (ptr vb 0) (I (i : Int)) w := by
  obtain ⟨b, r, La, Lb, av, ca, Da, sva, ss, gs, cs, Ds, cg, Dg, svs, svg, X, hB, hA, hS, hG, H, close⟩ := tk_open hT H hi
  generalize hvl : ([I kd, I wh, .int .u8 (t : Int), s] : List Value) = vl at H close k
  have l1 : vl[1]? = some (I wh) := by rw [← hvl]; rfl
  have l2 : vl[2]? = some (.int .u8 (t : Int)) := by rw [← hvl]; rfl
  unfold F33_j18
  have Ha : Hp w0 w (⟨vb, 85, vl⟩ :: (⟨tb, 39, tkL b r av st.now ss gs⟩ :: (ca ++ (Da ++ (La ++ (Lb ++ (cs ++ (Ds ++ (cg ++ (Dg ++ (X ++ F))))))))))) := H.to (by intro f; simp only [I, U8, U64, ptr, List.set_cons_zero, List.set_cons_succ, List.eraseIdx_cons_zero, List.eraseIdx_cons_succ, List.map_append, List.map_cons, List.map_nil, List.sum_append, List.sum_cons, List.sum_nil]; omega)
  try simp only [WKt, mem, drewV]
  refine ld_h Ha 0 rfl l1 ?_
  rw [cvU64]
  try simp only [WKt, mem, drewV]
  have hu : 0 ≤ u64 wh := Int.emod_nonneg _ (by decide)
  have e3 : (u64 wh).tmod 3 = u64 wh % 3 := by rw [Int.tmod_eq_emod_of_nonneg hu]
  rw [bin_rem (by decide), e3]
  try simp only [WKt, mem, drewV]
  rw [cvI64, i64, wrap64_id (by omega) (by omega)]
  try simp only [WKt, mem, drewV]
  have Hd := Ha.drew
  rw [ixA_mk hi]
  try simp only [WKt, mem, drewV]
  refine ld_h Hd 1 rfl (tk_b hi) ?_
  refine ld_h Hd 0 rfl l2 ?_
  have et : bin .rem (.int .u8 (t : Int)) (.int .u8 2) = some (.int .u8 ((t % 2 : Nat) : Int)) := by rw [bin_rem (by decide)]; rfl
  rw [et]
  try simp only [WKt, mem, drewV]
  have ef : decide (((t % 2 : Nat) : Int) = 0) = decide (t % 2 = 0) := by rw [decide_eq_decide]; omega
  rw [ef]
  have H1 : Hp w0 w.drew (La ++ (⟨vb, 85, vl⟩ :: (⟨tb, 39, tkL b r av st.now ss gs⟩ :: (ca ++ (Da ++ (Lb ++ (cs ++ (Ds ++ (cg ++ (Dg ++ (X ++ F))))))))))) := Hd.to (by intro f; simp only [I, U8, U64, ptr, List.set_cons_zero, List.set_cons_succ, List.eraseIdx_cons_zero, List.eraseIdx_cons_succ, List.map_append, List.map_cons, List.map_nil, List.sum_append, List.sum_cons, List.sum_nil]; omega)
  refine cal_h (Set_spec (x := u64 wh % 3) (f := decide (t % 2 = 0)) H1 hB.a) ?_
  rintro _ w3 ⟨La', rfl, H3, hA'⟩
  try simp only [WKt, mem, drewV]
  have H3' : Hp w0 w3 (⟨vb, 85, vl⟩ :: (⟨tb, 39, tkL b r av st.now ss gs⟩ :: (La' ++ (ca ++ (Da ++ (Lb ++ (cs ++ (Ds ++ (cg ++ (Dg ++ (X ++ F))))))))))) := H3.to (by intro f; simp only [I, U8, U64, ptr, List.set_cons_zero, List.set_cons_succ, List.eraseIdx_cons_zero, List.eraseIdx_cons_succ, List.map_append, List.map_cons, List.map_nil, List.sum_append, List.sum_cons, List.sum_nil]; omega)
  try rw [ixA_mk hi]
  try simp only [WKt, mem, drewV]
  refine ldS_h H3' 1 rfl (tk_r hi) (by intro y hy; simp at hy; subst hy; exact Hd.cell 1 rfl (tk_r hi)) ?_
  refine ldS_h H3' 0 rfl l2 (by intro y hy; simp at hy; subst hy; exact Hd.cell 0 rfl l2) ?_
  rw [et]
  try simp only [WKt, mem, drewV]
  rw [ef]
  have H3'' : Hp w0 w3 (Lb ++ (⟨vb, 85, vl⟩ :: (⟨tb, 39, tkL b r av st.now ss gs⟩ :: (La' ++ (ca ++ (Da ++ (cs ++ (Ds ++ (cg ++ (Dg ++ (X ++ F))))))))))) := H3.to (by intro f; simp only [I, U8, U64, ptr, List.set_cons_zero, List.set_cons_succ, List.eraseIdx_cons_zero, List.eraseIdx_cons_succ, List.map_append, List.map_cons, List.map_nil, List.sum_append, List.sum_cons, List.sum_nil]; omega)
  refine cal_h (rSet_spec (x := u64 wh % 3) (f := decide (t % 2 = 0)) H3'' hB.b) ?_
  rintro _ w4 ⟨Lb', rfl, H4, hB'⟩
  try simp only [WKt, mem, drewV]
  simp only [show decide (setE (st.M i) (u64 wh % 3) ≠ setE (st.M i) (u64 wh % 3)) = false from decide_eq_false (by simp), WKt, mem, drewV]
  have H5 : Hp w0 w4 (⟨tb, 39, tkL b r av st.now (setF ss i (ss i)) (setF gs i (gs i))⟩ :: (ca ++ (Da ++ (La' ++ (Lb' ++ (cs ++ (Ds ++ (cg ++ (Dg ++ (X ++ (⟨vb, 85, vl⟩ :: F))))))))))) := by rw [setF_same, setF_same]; exact H4.to (by intro f; simp only [I, U8, U64, ptr, List.set_cons_zero, List.set_cons_succ, List.eraseIdx_cons_zero, List.eraseIdx_cons_succ, List.map_append, List.map_cons, List.map_nil, List.sum_append, List.sum_cons, List.sum_nil]; omega)
  obtain ⟨L', hT', H6⟩ := close w4 (n + 1) (setM (st.M i) (u64 wh % 3) (decide (t % 2 = 0))) La' Lb' av st.air ca Da sva st.now (ss i) (gs i) (st.sent i) (st.got i) cs Ds cg Dg svs svg (⟨vb, 85, vl⟩ :: F) (by omega) ⟨hA', hB', (inv_set hB.i).mono (by omega), by rw [setM_q]; exact hB.q⟩ hA hS hG H5
  exact tk_seen hT' (by omega) H6 fun w' H7 => k w' L' hT' H7
end
end Go.Proofs.Ytmnpndgmfmjfhaa.Den
end

section
set_option linter.unusedVariables false
set_option linter.unusedSimpArgs false
set_option maxRecDepth 8000
namespace Go.Proofs.Ytmnpndgmfmjfhaa.Den
open Go Go.RowKit Go.ChangeShapes Go.WideShapes Go.ChangeAt Go.Deep
/-- What a law says of a run. -/
def Fin (w0 : World) : ER := fun e w' => e = .returned (.bool true) ∧ Ext [] w0 w'
section
variable {H : Type} {enc : TypeId × Value → H} {P : Program} {W W' : World}
theorem trodAll_below (hl : laidOutB P = true) (hb : Below W.heap.size W W') : ∀ {ts : List TypeId} {vs : List Value} {ds : List (DataW H)} {ps : List MemPlace}, (∀ t ∈ ts, P.readableRec t = true ∧ t < P.types.size) →
    DataW.TrodAll enc P W 0 (fun _ => true) true ts vs ds ps → (∀ x ∈ ps, x.block < W.heap.size) → DataW.TrodAll enc P W' 0 (fun b => decide (b < W.heap.size)) true ts vs ds ps
  | [], _, _, _, ht, h, hlt => by
    obtain ⟨rfl, rfl, rfl⟩ := trodAll_nil h
    rfl
  | t :: ts, _, _, _, ht, h, hlt => by
    obtain ⟨v, vs1, d, ds1, a, b, rfl, rfl, rfl, h1, h2⟩ := trodAll_cons h
    obtain ⟨g1, g2⟩ := ht t (by simp)
    exact ⟨a, b, Below.trod hl g1 g2 h1 hb (fun x hx => hlt x (by simp [hx])), trodAll_below hl hb (fun t' h' => ht t' (by simp [h'])) h2 (fun x hx => hlt x (by simp [hx])), rfl⟩
theorem law_post {f : Func} {s : ChangeSpec} {args : Array Value} {ds : List (DataW H)} {before : List MemPlace} {tb : TypeId} (hl : laidOutB P = true) (hv : s.vars = []) (hr : f.resultTypes = #[tb]) (htb : P.underlying tb = some .bool)
    (hp : ∀ t ∈ f.params.toList, P.readableRec t = true ∧ t < P.types.size)
    (hfn : s.fn H (ds ++ []) = { results := [.lit (.bool true)], args := ds })
    (hW : DataW.Whole enc P f.params.toList s.vars false W args.toList ds [] before) (he : Ext [] W W') :
    s.post enc P f false true false false W args (.bool true) W' := by
  have hb : Below W.heap.size W W' := he.below (Nat.le_refl _) (by simp)
  have hW0 := hW
  obtain ⟨p, q, hA, hV, hpq, _, _⟩ := hW0
  have hlt : ∀ x ∈ before, x.block < W.heap.size := fun x hx => hW.lt x hx
  have hq : q = [] := by rw [hv] at hV; exact hV
  subst hq
  rw [List.append_nil] at hpq
  subst hpq
  refine ⟨ds, [], before, [], before, [], hW, ?_, ?_, ?_, hb.frame _, fun h => by cases h⟩
  · rw [hfn, hr]; exact trodAll_mk1 (shut_bool htb true)
  · rw [hfn]; exact trodAll_below hl hb hp hA hlt
  · rw [hfn, hv]; rfl
end
section
variable {H : Type} {enc : TypeId × Value → H} {P : Program} {w : World} {base : Nat} {spare : Nat → Bool} {held : Bool}
theorem open_slice_fields {t e : TypeId} {fs : Array Field} {fuel : Nat} {cs : List Value} {x : DataW H × List MemPlace} (ht : P.underlying t = some (.slice e)) (he : P.underlying e = some (.struct fs))
    (hone : oneCellFields P fs = true) (hC : P.cellsOf e = fs.size) (h : DataW.trod enc P w base spare held fuel t cs = some x) :
    (cs = [.slice none 0 0] ∧ x = (.nil, [])) ∨
    ∃ (a : Addr) (len cap m : Nat) (D : Nat → DataW H) (Pl : Nat → List MemPlace), cs = [.slice (some a) len cap] ∧ base ≤ a.block ∧ len ≤ cap ∧ cap ≤ maxLen ∧ m = (if spare a.block then cap else len) ∧
      x = (.slice ((List.range len).map D) ((List.range (m - len)).map fun j => D (len + j)), MemPlace.row a (m * fs.size) ++ (List.range m).flatMap Pl) ∧
      ∀ i, i < m → ∃ (ys : List (DataW H × List MemPlace)) (n : Nat), D i = .agg (ys.map (·.1)) ∧ Pl i = ys.flatMap (·.2) ∧ ys.length = fs.size ∧
        ∀ (j : Nat) (f : Field), fs[j]? = some f → ∃ (v : Value) (y : DataW H × List MemPlace), w.cell? (a.add (i * fs.size + j)) = some v ∧ ys[j]? = some y ∧ DataW.trod enc P w base spare held n f.type [v] = some y := by
  rcases open_slice ht h with h0 | ⟨a, len, cap, m, n, D, Pl, hcs, hb, hl, hm, hmm, hx, hi⟩
  · exact .inl h0
  · refine .inr ⟨a, len, cap, m, D, Pl, hcs, hb, hl, hm, hmm, by rw [hC] at hx; exact hx, fun i him => ?_⟩
    obtain ⟨cs', hc, ht'⟩ := hi i him
    rw [hC] at hc
    obtain ⟨ys, n', hn', hy, hlen, hyl, hf⟩ := DataW.trod_struct he ht'
    obtain ⟨_, hcl, hat⟩ := World.cells?_some hc
    simp only [Prod.mk.injEq] at hy
    refine ⟨ys, n', hy.1, hy.2, hyl, fun j f hj => ?_⟩
    obtain ⟨ho, hk⟩ := hone_of hone j f hj
    have hjl : j < fs.size := (Array.getElem?_eq_some_iff.1 hj).1
    have hcell := hat j hjl
    have hv : cs'[j]? = some (cs'[j]'(by omega)) := List.getElem?_eq_getElem (by omega)
    have h1 := hf j f hj
    rw [ho, hk] at h1
    have hone' : (cs'.drop j).take 1 = [cs'[j]'(by omega)] := by
      rw [List.drop_eq_getElem_cons (by omega)]
      rfl
    rw [hone'] at h1
    have hys : ys[j]? = some (ys[j]'(by omega)) := List.getElem?_eq_getElem (by omega)
    refine ⟨_, _, ?_, hys, h1.trans hys⟩
    rw [← Go.Deep.add_add, hcell, hv]
end
/-- The cell of an integer field. -/
theorem int_cell {H : Type} {enc : TypeId × Value → H} {P : Program} {w : World} {base : Nat} {spare : Nat → Bool} {held : Bool} {t : TypeId} {k : IntKind} {n : Nat} {v : Value} {y : DataW H × List MemPlace} (ht : P.underlying t = some (.int k)) (h : DataW.trod enc P w base spare held n t [v] = some y) :
    ∃ i, v = .int k i ∧ (Lit.int k i).wf = true := by
  obtain ⟨i, h1, _, hw⟩ := DataW.trod_int ht h
  simp at h1
  exact ⟨i, h1, hw⟩
theorem bool_cell {H : Type} {enc : TypeId × Value → H} {P : Program} {w : World} {base : Nat} {spare : Nat → Bool} {held : Bool} {t : TypeId} {n : Nat} {v : Value} {y : DataW H × List MemPlace} (ht : P.underlying t = some .bool) (h : DataW.trod enc P w base spare held n t [v] = some y) :
    ∃ i, v = .bool i := by
  obtain ⟨i, h1, _⟩ := DataW.trod_bool ht h
  simp at h1
  exact ⟨i, h1⟩
theorem u8_wf {i : Int} (h : (Lit.int .u8 i).wf = true) : 0 ≤ i ∧ i < 256 := by
  simp [Lit.wf, IntKind.min, IntKind.max, IntKind.signed, IntKind.bits] at h; omega
theorem i64_wf {i : Int} (h : (Lit.int .i64 i).wf = true) : -9223372036854775808 ≤ i ∧ i ≤ 9223372036854775807 := by
  simp [Lit.wf, IntKind.min, IntKind.max, IntKind.signed, IntKind.bits] at h; omega
end Go.Proofs.Ytmnpndgmfmjfhaa.Den
end

section
set_option linter.unusedVariables false
set_option linter.unusedSimpArgs false
set_option maxRecDepth 8000
namespace Go.Proofs.Ytmnpndgmfmjfhaa.Den
open Go Go.Joins Go.RowKit Go.ChangeShapes Go.WideShapes Go.ChangeAt Go.Deep
noncomputable def structOf (t : TypeId) : Array Field := match Try.prog.underlying t with | some (.struct fs) => fs | _ => #[]
noncomputable def fieldT (t : TypeId) (j : Nat) : Option TypeId := ((structOf t)[j]?).map (·.type)
theorem und2 : Try.prog.underlying 2 = some (.int .i64) := by kernel_rfl
theorem und3 : Try.prog.underlying 3 = some (.int .i64) := by kernel_rfl
theorem und4 : Try.prog.underlying 4 = some .bool := by kernel_rfl
theorem und5 : Try.prog.underlying 5 = some (.int .u8) := by kernel_rfl
theorem und24 : Try.prog.underlying 24 = some (.slice 5) := by kernel_rfl
def ByteL (xs : List Int) : Prop := ∀ x ∈ xs, 0 ≤ x ∧ x < 256
section
variable {H : Type} {enc : TypeId × Value → H} {w : World} {base : Nat} {spare : Nat → Bool} {held : Bool}
/-- A slice of bytes that came in. -/
theorem bytes_open {fuel : Nat} {cs : List Value} {x : DataW H × List MemPlace} (h : DataW.trod enc Try.prog w base spare held fuel 24 cs = some x) :
    ∃ s n xs, cs = [s] ∧ Rd w 1 s n (bv xs) ∧ ByteL xs ∧ n < 2 ^ 63 ∧ xs.length = n := by
  have hC : Try.prog.cellsOf 5 = 1 := by kernel_rfl
  rcases open_slice und24 h with ⟨h0, _⟩ | ⟨a, len, cap, m, n, D, Pl, hcs, hb, hl, hcap, hmm, hx, hi⟩
  · exact ⟨.slice none 0 0, 0, [], h0, .inl ⟨0, rfl, by simp, rfl⟩, fun x hx => by simp at hx, by decide, rfl⟩
  · have hel : ∀ i, i < len → ∃ x : Int, w.cell? (a.add i) = some (U8 x) ∧ 0 ≤ x ∧ x < 256 := by
      intro i hil
      obtain ⟨cs', hc, ht'⟩ := hi i (by rw [hmm]; split <;> omega)
      rw [hC] at hc
      obtain ⟨_, hcl, hat⟩ := World.cells?_some hc
      obtain ⟨v, rfl⟩ : ∃ v, cs' = [v] := by
        cases cs' with
        | nil => simp at hcl
        | cons v r => cases r with
          | nil => exact ⟨v, rfl⟩
          | cons _ _ => simp at hcl
      obtain ⟨j, rfl, hw⟩ := int_cell und5 ht'
      have := hat 0 (by omega)
      simp only [Nat.mul_one, List.getElem?_cons_zero] at this
      have h0 : ((a.add i).add 0) = a.add i := by simp [Addr.add]
      rw [h0] at this
      exact ⟨j, this, u8_wf hw⟩
    refine ⟨.slice (some a) len cap, len, (List.range len).map fun i => if h : i < len then (hel i h).choose else 0, hcs, .inr ⟨a, cap, rfl, hl, ?_⟩, ?_, ?_, by simp⟩
    · refine (cellsAt_spec _ _ _).2 ⟨by simp [bv], fun j hj => ?_⟩
      rw [Nat.mul_one] at hj
      rw [Nat.zero_add, (hel j hj).choose_spec.1]
      simp [bv, hj]
    · intro x hx
      simp only [List.mem_map, List.mem_range] at hx
      obtain ⟨i, hi, rfl⟩ := hx
      rw [dif_pos hi]
      exact (hel i hi).choose_spec.2
    · have : maxLen < 2 ^ 63 := by decide
      omega
theorem open_agg5 {r : Reach} {b0 : Nat} {t : TypeId} {f0 f1 f2 f3 f4 : Field} {v : Value} {d : DataW H} {p : List MemPlace} {P : Program} (hs : P.underlying t = some (.struct #[f0, f1, f2, f3, f4])) (hone : oneCellFields P #[f0, f1, f2, f3, f4] = true) (hC : P.cellsOf t = 5)
    (hv : Value.okWide P w r b0 t v) (h : DataW.Trod enc P w base spare held t v d p) :
    ∃ (v0 v1 v2 v3 v4 : Value) (y0 y1 y2 y3 y4 : DataW H × List MemPlace) (n : Nat), v = .agg #[v0, v1, v2, v3, v4] ∧
      DataW.trod enc P w base spare held n f0.type [v0] = some y0 ∧ DataW.trod enc P w base spare held n f1.type [v1] = some y1 ∧ DataW.trod enc P w base spare held n f2.type [v2] = some y2 ∧ DataW.trod enc P w base spare held n f3.type [v3] = some y3 ∧ DataW.trod enc P w base spare held n f4.type [v4] = some y4 := by
  obtain ⟨cs, rfl, hsz⟩ := okWide_struct hs hv
  obtain ⟨l⟩ := cs
  match l, hsz.trans hC with
  | [c0, c1, c2, c3, c4], _ =>
    obtain ⟨fuel, hf⟩ := h
    obtain ⟨xs, n, _, hx, _, hlen, hg⟩ := DataW.trod_struct hs hf
    obtain ⟨o0, k0⟩ := hone_of hone 0 f0 rfl
    obtain ⟨o1, k1⟩ := hone_of hone 1 f1 rfl
    obtain ⟨o2, k2⟩ := hone_of hone 2 f2 rfl
    obtain ⟨o3, k3⟩ := hone_of hone 3 f3 rfl
    obtain ⟨o4, k4⟩ := hone_of hone 4 f4 rfl
    match xs, hlen with
    | [y0, y1, y2, y3, y4], _ =>
      exact ⟨c0, c1, c2, c3, c4, y0, y1, y2, y3, y4, n, rfl, by simpa [Value.cells, o0, k0] using hg 0 f0 rfl, by simpa [Value.cells, o1, k1] using hg 1 f1 rfl, by simpa [Value.cells, o2, k2] using hg 2 f2 rfl, by simpa [Value.cells, o3, k3] using hg 3 f3 rfl, by simpa [Value.cells, o4, k4] using hg 4 f4 rfl⟩
theorem fields5 {fs : Array Field} (h : fs.size = 5) : ∃ f0 f1 f2 f3 f4, fs = #[f0, f1, f2, f3, f4] := by
  obtain ⟨l⟩ := fs
  match l, h with
  | [a, b, c, d, e], _ => exact ⟨a, b, c, d, e, rfl⟩
/-- A call's argument: Op. -/
theorem op_open {b0 : Nat} {v : Value} {d : DataW H} {p : List MemPlace} (hv : Value.okWide Try.prog w .any b0 65 v) (h : DataW.Trod enc Try.prog w base spare held 65 v d p) :
    ∃ k x fl s now n xs, v = .agg ⟨[I k, I x, .bool fl, s, I now]⟩ ∧ Rd w 1 s n (bv xs) ∧ ByteL xs ∧ n < 2 ^ 63 ∧ xs.length = n := by
  have hone : oneCellFields Try.prog (structOf 65) = true := by kernel_rfl
  have hS : (structOf 65).size = 5 := by kernel_rfl
  have hU : Try.prog.underlying 65 = some (.struct (structOf 65)) := by kernel_rfl
  have hF : ∀ j, fieldT 65 j = ((structOf 65)[j]?).map (·.type) := fun j => rfl
  have g0 : fieldT 65 0 = some 3 := by kernel_rfl
  have g1 : fieldT 65 1 = some 3 := by kernel_rfl
  have g2 : fieldT 65 2 = some 4 := by kernel_rfl
  have g3 : fieldT 65 3 = some 24 := by kernel_rfl
  have g4 : fieldT 65 4 = some 2 := by kernel_rfl
  rw [hF] at g0 g1 g2 g3 g4
  generalize structOf 65 = fs at hone hS hU g0 g1 g2 g3 g4
  obtain ⟨f0, f1, f2, f3, f4, rfl⟩ := fields5 hS
  simp at g0 g1 g2 g3 g4
  obtain ⟨v0, v1, v2, v3, v4, y0, y1, y2, y3, y4, n, rfl, t0, t1, t2, t3, t4⟩ := open_agg5 hU hone (by kernel_rfl) hv h
  rw [g0] at t0; rw [g1] at t1; rw [g2] at t2; rw [g3] at t3; rw [g4] at t4
  obtain ⟨i0, rfl, _⟩ := int_cell und3 t0
  obtain ⟨i1, rfl, _⟩ := int_cell und3 t1
  obtain ⟨i2, rfl⟩ := bool_cell und4 t2
  obtain ⟨s, m, xs, hs, hr⟩ := bytes_open t3
  injection hs with hs _; subst hs
  obtain ⟨i4, rfl, _⟩ := int_cell und2 t4
  exact ⟨i0, i1, i2, _, i4, m, xs, rfl, hr⟩
/-- A frame that came in. -/
theorem frame_open {b0 : Nat} {v : Value} {d : DataW H} {p : List MemPlace} (hv : Value.okWide Try.prog w .any b0 48 v) (h : DataW.Trod enc Try.prog w base spare held 48 v d p) :
    ∃ k last m f s n xs, v = .agg ⟨frm k last m f s⟩ ∧ Rd w 1 s n (bv xs) ∧ ByteL xs ∧ n < 2 ^ 63 ∧ xs.length = n ∧ m ≤ 9223372036854775807 := by
  have hone : oneCellFields Try.prog (structOf 48) = true := by kernel_rfl
  have hS : (structOf 48).size = 5 := by kernel_rfl
  have hU : Try.prog.underlying 48 = some (.struct (structOf 48)) := by kernel_rfl
  have hF : ∀ j, fieldT 48 j = ((structOf 48)[j]?).map (·.type) := fun j => rfl
  have g0 : fieldT 48 0 = some 3 := by kernel_rfl
  have g1 : fieldT 48 1 = some 4 := by kernel_rfl
  have g2 : fieldT 48 2 = some 2 := by kernel_rfl
  have g3 : fieldT 48 3 = some 3 := by kernel_rfl
  have g4 : fieldT 48 4 = some 24 := by kernel_rfl
  rw [hF] at g0 g1 g2 g3 g4
  generalize structOf 48 = fs at hone hS hU g0 g1 g2 g3 g4
  obtain ⟨f0, f1, f2, f3, f4, rfl⟩ := fields5 hS
  simp at g0 g1 g2 g3 g4
  obtain ⟨v0, v1, v2, v3, v4, y0, y1, y2, y3, y4, n, rfl, t0, t1, t2, t3, t4⟩ := open_agg5 hU hone (by kernel_rfl) hv h
  rw [g0] at t0; rw [g1] at t1; rw [g2] at t2; rw [g3] at t3; rw [g4] at t4
  obtain ⟨i0, rfl, _⟩ := int_cell und3 t0
  obtain ⟨i1, rfl⟩ := bool_cell und4 t1
  obtain ⟨i2, rfl, w2⟩ := int_cell und2 t2
  obtain ⟨i3, rfl, _⟩ := int_cell und3 t3
  obtain ⟨s, m, xs, hs, hr, hb, hn, hl⟩ := bytes_open t4
  injection hs with hs _; subst hs
  exact ⟨i0, i1, i2, i3, _, m, xs, rfl, hr, hb, hn, hl, (i64_wf w2).2⟩
end
end Go.Proofs.Ytmnpndgmfmjfhaa.Den
end

section
set_option linter.unusedVariables false
set_option linter.unusedSimpArgs false
set_option maxRecDepth 8000
namespace Go.Proofs.Ytmnpndgmfmjfhaa.Den
open Go Go.RowKit
theorem gst_small {x c : Int} (h0 : 0 ≤ x) (h1 : x < 72057594037927936) (c0 : 0 ≤ c) (c1 : c < 256) : gst x c = x * 256 + c := by
  unfold gst
  have q1 : IntKind.u64.wrap (x * 256) = x * 256 := by rw [wrapU64, Int.emod_eq_of_lt (by omega) (by omega)]
  have q2 : IntKind.u64.wrap c = c := by rw [wrapU64, Int.emod_eq_of_lt (by omega) (by omega)]
  rw [q1, q2, wrapU64]
  clear q1 q2
  obtain ⟨a, rfl⟩ : ∃ a : Nat, x = (a : Int) := ⟨x.toNat, by omega⟩
  obtain ⟨b, rfl⟩ : ∃ b : Nat, c = (b : Int) := ⟨c.toNat, by omega⟩
  have e1 : BitVec.ofInt 64 ((a : Int) * 256) = BitVec.ofNat 64 (a * 256) := by
    rw [← BitVec.ofInt_natCast]; congr 1
  have e2 : BitVec.ofInt 64 (b : Int) = BitVec.ofNat 64 b := BitVec.ofInt_natCast 64 b
  rw [e1, e2, BitVec.toNat_or, BitVec.toNat_ofNat, BitVec.toNat_ofNat, Nat.mod_eq_of_lt (by omega), Nat.mod_eq_of_lt (by omega)]
  have e3 : a * 256 ||| b = a * 256 + b := by
    have := Nat.two_pow_add_eq_or_of_lt (i := 8) (b := b) (by omega) a
    rw [show (2 : Nat) ^ 8 = 256 from rfl, Nat.mul_comm 256 a] at this
    exact this.symm
  rw [e3, Int.emod_eq_of_lt (by omega) (by omega)]
  omega
theorem getI_be : ∀ (n : Nat) (x : Int), n ≤ 8 → 0 ≤ x → x < 256 ^ n → getI (be n x) = x
  | 0, x, _, h0, h1 => by
    have : x < 1 := h1
    have : x = 0 := by omega
    subst this; rfl
  | n + 1, x, hn, h0, h1 => by
    have hp : (256 : Int) ^ (n + 1) = 256 ^ n * 256 := Int.pow_succ _ _
    have h2 : x / 256 < 256 ^ n := by rw [hp] at h1; exact Int.ediv_lt_of_lt_mul (by decide) h1
    have ih := getI_be n (x / 256) (by omega) (Int.ediv_nonneg h0 (by decide)) h2
    have h3 : (256 : Int) ^ n ≤ 72057594037927936 := by
      have : n ≤ 7 := by omega
      have : n = 0 ∨ n = 1 ∨ n = 2 ∨ n = 3 ∨ n = 4 ∨ n = 5 ∨ n = 6 ∨ n = 7 := by omega
      rcases this with rfl | rfl | rfl | rfl | rfl | rfl | rfl | rfl <;> decide
    unfold getI at ih ⊢
    rw [be, List.foldl_append, ih]
    show gst (x / 256) (x % 256) = x
    rw [gst_small (Int.ediv_nonneg h0 (by decide)) (by omega) (by omega) (by omega)]
    omega
theorem dst_range (h c : Int) : 0 ≤ dst h c ∧ dst h c < 18446744073709551616 := by
  unfold dst
  rw [wrapU64]
  exact ⟨Int.emod_nonneg _ (by decide), Int.emod_lt_of_pos _ (by decide)⟩
theorem fold_range : ∀ (xs : List Int) (a : Int), 0 ≤ a ∧ a < 18446744073709551616 → 0 ≤ xs.foldl dst a ∧ xs.foldl dst a < 18446744073709551616
  | [], a, h => h
  | x :: xs, a, h => fold_range xs _ (dst_range a x)
theorem digI_range (xs : List Int) : 0 ≤ digI xs ∧ digI xs < 18446744073709551616 := fold_range xs _ (by decide)
theorem be_byte : ∀ (n : Nat) (x : Int), ∀ y ∈ be n x, 0 ≤ y ∧ y < 256
  | 0, _, y, h => by simp [be] at h
  | n + 1, x, y, h => by
    rw [be, List.mem_append] at h
    rcases h with h | h
    · exact be_byte n _ y h
    · rw [List.mem_singleton] at h; subst h; omega
theorem i64_id {x : Int} (h0 : -9223372036854775808 ≤ x) (h1 : x ≤ 9223372036854775807) : i64 x = x := wrap64_id (by omega) (by omega)
theorem u64_id {x : Int} (h0 : 0 ≤ x) (h1 : x < 18446744073709551616) : u64 x = x := Int.emod_eq_of_lt h0 h1
theorem encE_zero {k : Int} {last : Bool} {m f : Int} {n : Nat} (h : encE k last m f n = 0) : (k = 1 ∨ k = 2 ∧ last = false ∧ n = 0) ∧ 1 ≤ m ∧ 0 ≤ f ∧ f ≤ 2147483647 ∧ n ≤ 4096 := by
  unfold encE at h
  split at h
  · cases h
  · split at h
    · cases h
    · split at h
      · cases h
      · split at h
        · cases h
        · rename_i h1 h2 h3 h4
          refine ⟨?_, by omega, by omega, by omega, by omega⟩
          by_cases hk : k = 1
          · exact .inl hk
          · have hk2 : k = 2 := by omega
            refine .inr ⟨hk2, ?_, ?_⟩
            · cases last with
              | false => rfl
              | true => exact absurd ⟨hk2, .inl rfl⟩ h2
            · by_cases hn : 0 < n
              · exact absurd ⟨hk2, .inr hn⟩ h2
              · omega
theorem dec_enc {k : Int} {last : Bool} {m f : Int} {xs : List Int} (h : encE k last m f xs.length = 0) (hm : m ≤ 9223372036854775807) :
    decE (encB k last m f xs) = 0 ∧ dK (encB k last m f xs) = k ∧ dB (encB k last m f xs) = lbit last ∧ dM (encB k last m f xs) = m ∧ dF (encB k last m f xs) = f ∧ (encB k last m f xs).drop 24 = xs ∧ (encB k last m f xs).length = 24 + xs.length := by
  obtain ⟨hk, h1, h2, h3, h4⟩ := encE_zero h
  have hlen := encB_length k last m f xs
  have hb : decide (lbit last = 1) = last := by cases last <;> rfl
  have gl : getI (be 2 (u64 xs.length)) = xs.length := by
    rw [u64_id (by omega) (by omega), getI_be 2 _ (by omega) (by omega) (by rw [show (256 : Int) ^ 2 = 65536 from rfl]; omega)]
  have gm : getI (be 8 (u64 m)) = m := by
    rw [u64_id (by omega) (by omega), getI_be 8 _ (by omega) (by omega) (by rw [show (256 : Int) ^ 8 = 18446744073709551616 from rfl]; omega)]
  have gf : getI (be 4 (u64 f)) = f := by
    rw [u64_id (by omega) (by omega), getI_be 4 _ (by omega) (by omega) (by rw [show (256 : Int) ^ 4 = 4294967296 from rfl]; omega)]
  have gd : getI (be 8 (digI (encH k last m f xs.length ++ xs))) = digI (encH k last m f xs.length ++ xs) :=
    getI_be 8 _ (by omega) (digI_range _).1 (digI_range _).2
  have gk : i64 (k % 256) = k := by
    rcases hk with rfl | ⟨rfl, _⟩ <;> rfl
  have eH : encH k last m f xs.length = [k % 256, lbit last] ++ be 2 (u64 xs.length) ++ be 8 (u64 m) ++ be 4 (u64 f) := rfl
  have eB : encB k last m f xs = encH k last m f xs.length ++ be 8 (digI (encH k last m f xs.length ++ xs)) ++ xs := rfl
  obtain ⟨a0, a1, ha⟩ := be2 (u64 xs.length)
  obtain ⟨b0, b1, b2, b3, b4, b5, b6, b7, hbm⟩ := be8 (u64 m)
  obtain ⟨c0, c1, c2, c3, hc⟩ := be4 (u64 f)
  obtain ⟨d0, d1, d2, d3, d4, d5, d6, d7, hd⟩ := be8 (digI (encH k last m f xs.length ++ xs))
  rw [hd] at gd
  rw [ha] at gl
  rw [hbm] at gm
  rw [hc] at gf
  have eH2 : encH k last m f xs.length = [k % 256, lbit last, a0, a1, b0, b1, b2, b3, b4, b5, b6, b7, c0, c1, c2, c3] := by rw [eH, ha, hbm, hc]; rfl
  have eB2 : encB k last m f xs = k % 256 :: lbit last :: a0 :: a1 :: b0 :: b1 :: b2 :: b3 :: b4 :: b5 :: b6 :: b7 :: c0 :: c1 :: c2 :: c3 :: d0 :: d1 :: d2 :: d3 :: d4 :: d5 :: d6 :: d7 :: xs := by
    rw [eB, hd, eH2]; rfl
  have hdig : (encB k last m f xs).take 16 ++ (encB k last m f xs).drop 24 = encH k last m f xs.length ++ xs := by rw [eB2, eH2]; rfl
  have rK : dK (encB k last m f xs) = k := by rw [eB2]; exact gk
  have rB : dB (encB k last m f xs) = lbit last := by rw [eB2]; rfl
  have rL : dL (encB k last m f xs) = xs.length := by
    rw [eB2]; show i64 (getI [a0, a1]) = _
    rw [gl, i64_id (by omega) (by omega)]
  have rM : dM (encB k last m f xs) = m := by
    rw [eB2]; show i64 (getI [b0, b1, b2, b3, b4, b5, b6, b7]) = _
    rw [gm, i64_id (by omega) (by omega)]
  have rF : dF (encB k last m f xs) = f := by
    rw [eB2]; show i64 (getI [c0, c1, c2, c3]) = _
    rw [gf, i64_id (by omega) (by omega)]
  have rS : dS (encB k last m f xs) = digI (encH k last m f xs.length ++ xs) := by
    rw [eB2]; exact gd
  have rD : (encB k last m f xs).drop 24 = xs := by rw [eB2]; rfl
  refine ⟨?_, rK, rB, rM, rF, rD, hlen⟩
  have ok : dOk (encB k last m f xs) := by
    unfold dOk
    rw [rK, rB, rL, rM, rF, hlen]
    refine ⟨?_, by cases last <;> decide, by omega, h1, h3⟩
    rcases hk with hq | ⟨hq, h', h''⟩
    · exact .inl hq
    · subst h'; exact .inr ⟨hq, rfl, by omega⟩
  unfold decE
  rw [if_neg (by rw [hlen]; rintro (h | h | h); omega; omega; exact h ok), hdig, rS, if_neg (by simp)]
end Go.Proofs.Ytmnpndgmfmjfhaa.Den
end
