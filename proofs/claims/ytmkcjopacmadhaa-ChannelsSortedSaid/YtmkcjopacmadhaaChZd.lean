/- Channels: messages are received in order. Conditions: none. -/
import Derived.Test.YtmkcjopacmadhaaChZc
set_option linter.unusedVariables false
set_option linter.unusedSimpArgs false
set_option maxRecDepth 8000
set_option maxHeartbeats 2000000
namespace Go.Proofs.Ytmkcjopacmadhaa.Den
open Go Go.RowKit
/-- The entry of the j-th message. -/
def PE (xs : List Int) (j : Nat) (e : Ent) : Prop := xs[j]? = some e.pri ∧ e.com = (j : Int) + 1 ∧ e.th = (j : Int) ∧ e.data = [(j : Int)]
def rem (xs : List Int) (p : Int) (i j : Nat) : Prop := ∃ a, xs[j]? = some a ∧ (a < p ∨ (a = p ∧ i ≤ j))
structure SInv (xs : List Int) (k : Nat) (T : Tbl) (r x : Nat) (ch : Chn) : Prop where
  at' : T.At 0 1 r x ch
  rc : ch.recs = []
  eb : ∀ e ∈ ch.ents, ∃ j, j < k ∧ PE xs j e
  ec : ∀ j, j < k → ∃ e ∈ ch.ents, PE xs j e
  com : T.com = k
  bk : ∀ th : Int, (k : Int) ≤ th → T.blk th = none
structure RInv (xs : List Int) (p : Int) (i : Nat) (T : Tbl) (r x : Nat) (ch : Chn) : Prop where
  at' : T.At 0 1 r x ch
  eb : ∀ e ∈ ch.ents, ∃ j, PE xs j e ∧ rem xs p i j
  ec : ∀ j, rem xs p i j → ∃ e ∈ ch.ents, PE xs j e
  bk : ∀ th : Int, (xs.length : Int) ≤ th → T.blk th = none
section
variable {xs : List Int} {k i j r x n : Nat} {T T' : Tbl} {ch ch' : Chn} {p : Int} {e h : Ent} {t : List Ent}
theorem PE.uniq (h1 : PE xs i e) (h2 : PE xs j e) : i = j := by have := h1.2.1; have := h2.2.1; omega
theorem PE.not_bfr {e' : Ent} (h1 : PE xs i e) (h2 : PE xs i e') : bfr e.pri e.com e'.pri e'.com = false := by
  have h3 : e.pri = e'.pri := by have a := h1.1; rw [h2.1] at a; injection a with a; exact a.symm
  rw [h3, h1.2.1, h2.2.1]; exact bfr_irr
theorem SInv.step {e : Ent} (h : SInv xs k T r x ch) (he : PE xs k e) (hat : T'.At 0 1 r x ch') (hen : ch'.ents = insE e ch.ents) (hrc : ch'.recs = []) (hc : T'.com = T.com + 1) {q : Option Plc} (hb : T'.blk = updF T.blk (k : Int) q) : SInv xs (k + 1) T' r x ch' where
  at' := hat
  rc := hrc
  eb := fun y hy => by
    rw [hen] at hy
    rcases insE_mem hy with rfl | hy
    · exact ⟨k, by omega, he⟩
    · obtain ⟨j, h1, h2⟩ := h.eb y hy; exact ⟨j, by omega, h2⟩
  ec := fun j hj => by
    rw [hen]
    rcases Nat.lt_or_ge j k with h1 | h1
    · obtain ⟨y, h2, h3⟩ := h.ec j h1; exact ⟨y, mem_insE (.inr h2), h3⟩
    · obtain rfl : j = k := by omega
      exact ⟨e, mem_insE (.inl rfl), he⟩
  com := by rw [hc, h.com]; omega
  bk := fun th hth => by rw [hb, updF_ne (by omega)]; exact h.bk th (by omega)
theorem SInv.rinv (h : SInv xs xs.length T r x ch) (hx : ∀ a ∈ xs, 0 ≤ a ∧ a ≤ 255) : RInv xs 255 0 T r x ch where
  at' := h.at'
  eb := fun e he => by
    obtain ⟨j, h1, h2⟩ := h.eb e he
    refine ⟨j, h2, e.pri, h2.1, ?_⟩
    have := hx e.pri (List.mem_of_getElem? h2.1); omega
  ec := fun j hj => by obtain ⟨a, ha, _⟩ := hj; exact h.ec j (List.getElem?_eq_some_iff.1 ha).1
  bk := h.bk
theorem RInv.down (h : RInv xs p xs.length T r x ch) : RInv xs (p - 1) 0 T r x ch := by
  have key : ∀ j, rem xs p xs.length j ↔ rem xs (p - 1) 0 j := by
    intro j
    unfold rem
    constructor
    · rintro ⟨a, ha, hp⟩
      have := (List.getElem?_eq_some_iff.1 ha).1
      exact ⟨a, ha, by omega⟩
    · rintro ⟨a, ha, hp⟩; exact ⟨a, ha, by omega⟩
  exact ⟨h.at', fun e he => by obtain ⟨j, h1, h2⟩ := h.eb e he; exact ⟨j, h1, (key j).1 h2⟩, fun j hj => h.ec j ((key j).2 hj), h.bk⟩
theorem RInv.skip {a : Int} (h : RInv xs p i T r x ch) (ha : xs[i]? = some a) (hne : a ≠ p) : RInv xs p (i + 1) T r x ch := by
  have key : ∀ j, rem xs p i j ↔ rem xs p (i + 1) j := by
    intro j
    unfold rem
    constructor
    · rintro ⟨b, hb, hp⟩
      refine ⟨b, hb, ?_⟩
      rcases hp with hp | ⟨hp, hj⟩
      · exact .inl hp
      · right; refine ⟨hp, ?_⟩
        rcases Nat.lt_or_ge i j with h1 | h1
        · omega
        · obtain rfl : j = i := by omega
          rw [ha] at hb; injection hb with hb; exact absurd (hb.trans hp) hne
    · rintro ⟨b, hb, hp⟩; exact ⟨b, hb, by omega⟩
  exact ⟨h.at', fun e he => by obtain ⟨j, h1, h2⟩ := h.eb e he; exact ⟨j, h1, (key j).1 h2⟩, fun j hj => h.ec j ((key j).2 hj), h.bk⟩
/-- What stands first. -/
theorem RInv.head (h : RInv xs p i T r x ch) (hs : SE ch.ents) (ha : xs[i]? = some p) : ∃ e t, ch.ents = e :: t ∧ PE xs i e := by
  obtain ⟨y, hy, hp⟩ := h.ec i ⟨p, ha, .inr ⟨rfl, Nat.le_refl _⟩⟩
  cases hen : ch.ents with
  | nil => rw [hen] at hy; cases hy
  | cons e t =>
    refine ⟨e, t, rfl, ?_⟩
    rw [hen] at hs hy
    obtain ⟨j, h1, b, hb, h2⟩ := h.eb e (by rw [hen]; simp)
    rcases List.mem_cons.1 hy with rfl | hy
    · exact hp
    · have h3 := (List.pairwise_cons.1 hs).1 y hy
      have e1 : e.pri = b := by have := h1.1; rw [hb] at this; injection this with this; exact this.symm
      have e2 : y.pri = p := by have := hp.1; rw [ha] at this; injection this with this; exact this.symm
      have e3 := h1.2.1
      have e4 := hp.2.1
      unfold bfr at h3
      simp only [Bool.or_eq_true, Bool.and_eq_true, decide_eq_true_eq] at h3
      omega
theorem RInv.pop (h : RInv xs p i T r x ch) (hs : SE ch.ents) (ha : xs[i]? = some p) (hen : ch.ents = e :: t) (he : PE xs i e) (hat : T'.At 0 1 r x ch') (hen' : ch'.ents = t) {q : Option Plc} (hb : T'.blk = updF T.blk e.th q) : RInv xs p (i + 1) T' r x ch' where
  at' := hat
  eb := fun y hy => by
    rw [hen'] at hy
    obtain ⟨j, h1, b, hb, h2⟩ := h.eb y (by rw [hen]; simp [hy])
    refine ⟨j, h1, b, hb, ?_⟩
    rcases h2 with h2 | ⟨h2, h3⟩
    · exact .inl h2
    · right; refine ⟨h2, ?_⟩
      rcases Nat.lt_or_ge i j with h4 | h4
      · omega
      · obtain rfl : j = i := by omega
        rw [hen] at hs
        have h5 := (List.pairwise_cons.1 hs).1 y hy
        rw [PE.not_bfr he h1] at h5; cases h5
  ec := fun j hj => by
    have hij : j ≠ i := by
      rintro rfl
      obtain ⟨b, hb, h2⟩ := hj
      rw [ha] at hb; injection hb with hb; omega
    obtain ⟨y, hy, h1⟩ := h.ec j (by obtain ⟨b, hb, h2⟩ := hj; exact ⟨b, hb, by omega⟩)
    rw [hen] at hy
    rw [hen']
    rcases List.mem_cons.1 hy with rfl | hy
    · exact absurd (PE.uniq h1 he) hij
    · exact ⟨y, hy, h1⟩
  bk := fun th hth => by
    have := he.2.2.1
    have hi := (List.getElem?_eq_some_iff.1 ha).1
    rw [hb, updF_ne (by omega)]; exact h.bk th hth
end
section
variable {w w' w0 : World} {L L' F cs cs2 cs3 A D D' : List Chunk} {s s2 : Value} {K : VK} {R : ER} {tb n b c r sb x : Nat} {T : Tbl} {xs : List Int}
theorem sorted_law (h : TR cB w0 [] s xs) (hx : ∀ a ∈ xs, 0 ≤ a ∧ a ≤ 255) (H : Hp w0 w []) : Calls Pg 3 ⟨[s]⟩ w fun e w' => e = .returned (.bool true) ∧ Hp w0 w' [] := by
  apply F3_calls
  unfold F3
  refine pv_of (lenS_tr h) ?_
  by_cases hl : 30 < xs.length
  · repeat (first | simp only [W0, pO, Option.map_some, Option.map_none] | with_reducible (first | refine lss_a ?_ | refine lss_b ?_ | refine gtr_a ?_ | refine gtr_b ?_ | refine geq_a ?_ | refine geq_b ?_ | refine leq_a ?_ | refine leq_b ?_ | refine eql_a ?_ | refine eql_b ?_ | refine neq_a ?_ | refine neq_b ?_ | refine add_a ?_ | refine sub_a ?_ | refine ld_a ?_ | refine ldA_a ?_ | refine ldS_a ?_ | refine ldNS_a ?_ | refine rdA_s ?_ | refine rd1_s ?_ | refine drew_a fun w1 H1 => ?_ | refine st_a fun w1 H1 => ?_ | refine stA_a fun w1 H1 => ?_ | refine lenT_a ?_ | refine lenO_a ?_ | refine ixT_a ?_ | refine ixO_a ?_ | refine bld_a ?_ | refine min_a ?_ | refine max_a ?_  | refine ldT_a ?_ | refine ldC_a ?_ | refine ldX_a ?_ | refine ldM_a ?_ | refine rdT_a ?_ | refine rdC_a ?_ | refine rdX_a ?_ | refine rdM_a ?_ | refine getCh_a ?_ | refine getCh2_a ?_ | refine getCn_a ?_ | refine getCn2_a ?_ | refine getPl_a ?_ | refine getPl2_a ?_ | refine getTk_a ?_ | refine getAn2_a ?_ | refine lenE_a ?_ | refine lenR_a ?_ | refine cv8_a ?_ | refine cv64_a ?_ | fail))
    refine cal_h (awake_spec H) ?_
    rintro _ w ⟨rfl, H⟩
    repeat (first | simp only [W0, pO, Option.map_some, Option.map_none] | with_reducible (first | refine lss_a ?_ | refine lss_b ?_ | refine gtr_a ?_ | refine gtr_b ?_ | refine geq_a ?_ | refine geq_b ?_ | refine leq_a ?_ | refine leq_b ?_ | refine eql_a ?_ | refine eql_b ?_ | refine neq_a ?_ | refine neq_b ?_ | refine add_a ?_ | refine sub_a ?_ | refine ld_a ?_ | refine ldA_a ?_ | refine ldS_a ?_ | refine ldNS_a ?_ | refine rdA_s ?_ | refine rd1_s ?_ | refine drew_a fun w1 H1 => ?_ | refine st_a fun w1 H1 => ?_ | refine stA_a fun w1 H1 => ?_ | refine lenT_a ?_ | refine lenO_a ?_ | refine ixT_a ?_ | refine ixO_a ?_ | refine bld_a ?_ | refine min_a ?_ | refine max_a ?_  | refine ldT_a ?_ | refine ldC_a ?_ | refine ldX_a ?_ | refine ldM_a ?_ | refine rdT_a ?_ | refine rdC_a ?_ | refine rdX_a ?_ | refine rdM_a ?_ | refine getCh_a ?_ | refine getCh2_a ?_ | refine getCn_a ?_ | refine getCn2_a ?_ | refine getPl_a ?_ | refine getPl2_a ?_ | refine getTk_a ?_ | refine getAn2_a ?_ | refine lenE_a ?_ | refine lenR_a ?_ | refine cv8_a ?_ | refine cv64_a ?_ | fail))
    exact ⟨(by first | rfl | trivial), H⟩
  repeat (first | simp only [W0, pO, Option.map_some, Option.map_none] | with_reducible (first | refine lss_a ?_ | refine lss_b ?_ | refine gtr_a ?_ | refine gtr_b ?_ | refine geq_a ?_ | refine geq_b ?_ | refine leq_a ?_ | refine leq_b ?_ | refine eql_a ?_ | refine eql_b ?_ | refine neq_a ?_ | refine neq_b ?_ | refine add_a ?_ | refine sub_a ?_ | refine ld_a ?_ | refine ldA_a ?_ | refine ldS_a ?_ | refine ldNS_a ?_ | refine rdA_s ?_ | refine rd1_s ?_ | refine drew_a fun w1 H1 => ?_ | refine st_a fun w1 H1 => ?_ | refine stA_a fun w1 H1 => ?_ | refine lenT_a ?_ | refine lenO_a ?_ | refine ixT_a ?_ | refine ixO_a ?_ | refine bld_a ?_ | refine min_a ?_ | refine max_a ?_  | refine ldT_a ?_ | refine ldC_a ?_ | refine ldX_a ?_ | refine ldM_a ?_ | refine rdT_a ?_ | refine rdC_a ?_ | refine rdX_a ?_ | refine rdM_a ?_ | refine getCh_a ?_ | refine getCh2_a ?_ | refine getCn_a ?_ | refine getCn2_a ?_ | refine getPl_a ?_ | refine getPl2_a ?_ | refine getTk_a ?_ | refine getAn2_a ?_ | refine lenE_a ?_ | refine lenR_a ?_ | refine cv8_a ?_ | refine cv64_a ?_ | fail))
  unfold F3_j1
  refine begin_h (by decide) (by decide) H fun w tb B r sb x A hA H => ?_
  unfold F3_j14
  refine pv_of (lenS_tr h) ?_
  unfold F3_j15
  refine loop7 (F3_l3_succ _) (fun m x0 x3 x4 x6 x34 x35 x36 w => ∃ (i : Nat) (T : Tbl) (ch : Chn) (A D : List Chunk), s = x0 ∧ x3 = ptr tb 0 ∧ x4 = I 0 ∧ x6 = I 0 ∧ s = x34 ∧ x35 = I (xs.length : Int) ∧ x36 = I (i : Int) ∧ m + i = xs.length ∧
      TblAt tb T (3 + 3 * i) A ∧ Hp w0 w (A ++ D) ∧ TDat w0 D T ∧ T.Ok (3 + 3 * i) ∧ SInv xs i T r x ch) ?_ (m := xs.length)
    ⟨0, _, _, A, [], rfl, rfl, rfl, rfl, rfl, rfl, rfl, by omega, hA, H, one_dat, one_ok, one_at, rfl, (fun e he => by cases he), (fun j hj => by omega), rfl, (fun th _ => rfl)⟩
  clear H hA
  rintro m k x0 x3 x4 x6 x34 x35 x36 w ⟨i, T, ch, A, D, rfl, rfl, rfl, rfl, rfl, rfl, rfl, hmi, hA, H, hTD, hok, hS⟩ hk
  unfold F3_b3
  by_cases hi : i < xs.length
  · repeat (first | simp only [W0, pO, Option.map_some, Option.map_none] | with_reducible (first | refine lss_a ?_ | refine lss_b ?_ | refine gtr_a ?_ | refine gtr_b ?_ | refine geq_a ?_ | refine geq_b ?_ | refine leq_a ?_ | refine leq_b ?_ | refine eql_a ?_ | refine eql_b ?_ | refine neq_a ?_ | refine neq_b ?_ | refine add_a ?_ | refine sub_a ?_ | refine ld_a ?_ | refine ldA_a ?_ | refine ldS_a ?_ | refine ldNS_a ?_ | refine rdA_s ?_ | refine rd1_s ?_ | refine drew_a fun w1 H1 => ?_ | refine st_a fun w1 H1 => ?_ | refine stA_a fun w1 H1 => ?_ | refine lenT_a ?_ | refine lenO_a ?_ | refine ixT_a ?_ | refine ixO_a ?_ | refine bld_a ?_ | refine min_a ?_ | refine max_a ?_  | refine ldT_a ?_ | refine ldC_a ?_ | refine ldX_a ?_ | refine ldM_a ?_ | refine rdT_a ?_ | refine rdC_a ?_ | refine rdX_a ?_ | refine rdM_a ?_ | refine getCh_a ?_ | refine getCh2_a ?_ | refine getCn_a ?_ | refine getCn2_a ?_ | refine getPl_a ?_ | refine getPl2_a ?_ | refine getTk_a ?_ | refine getAn2_a ?_ | refine lenE_a ?_ | refine lenR_a ?_ | refine cv8_a ?_ | refine cv64_a ?_ | fail))
    unfold F3_j16
    obtain ⟨a, ha⟩ : ∃ a, xs[i]? = some a := ⟨_, List.getElem?_eq_getElem hi⟩
    have hab := hx a (List.mem_of_getElem? ha)
    refine ix1_t (C := cB) h H (by simp) ha rfl rfl ?_
    simp only [W0]
    rw [wrap64_id (by omega) (by omega), wrap8_id (by omega) (by omega)]
    refine lit1_t (C := cB) (x := (i : Int)) elB H rfl (by decide) fun w sl cl H hl1 => ?_
    have hst : T.state (i : Int) = 1 := by unfold Tbl.state; rw [hS.bk _ (Int.le_refl _)]
    refine cal_h (Send_spec (th := (i : Int)) (p := 1) (cn := 0) (pri := a) (room := 0) (data := [(i : Int)]) (F := cl ++ D) hA (by omega) hok hTD hl1.tr (by intro c hc; simp [hc]) H (by exact spl) (by intro c hc; simp [hc])) ?_
    rintro _ w ⟨nm, sw, A1, cs1, rfl, _, hA, H, hTD, hf⟩
    obtain ⟨T1, ch1, hs1, hat1, hen1, hre1, hcm1, hla1, hbk1, _⟩ := send_one (nm := nm) (th := (i : Int)) (pri := a) (room := 0) (data := [(i : Int)]) hS.at' hS.rc ⟨⟨by omega, by omega⟩, by decide, hab, by decide⟩ (by simp) hst
    have hok1 := send_ok hok (th := (i : Int)) (p := 1) (cn := 0) (pri := a) (room := 0) (data := [(i : Int)]) hf
    rw [hs1] at hA hTD hok1 ⊢
    repeat (first | simp only [W0, pO, Option.map_some, Option.map_none] | with_reducible (first | refine lss_a ?_ | refine lss_b ?_ | refine gtr_a ?_ | refine gtr_b ?_ | refine geq_a ?_ | refine geq_b ?_ | refine leq_a ?_ | refine leq_b ?_ | refine eql_a ?_ | refine eql_b ?_ | refine neq_a ?_ | refine neq_b ?_ | refine add_a ?_ | refine sub_a ?_ | refine ld_a ?_ | refine ldA_a ?_ | refine ldS_a ?_ | refine ldNS_a ?_ | refine rdA_s ?_ | refine rd1_s ?_ | refine drew_a fun w1 H1 => ?_ | refine st_a fun w1 H1 => ?_ | refine stA_a fun w1 H1 => ?_ | refine lenT_a ?_ | refine lenO_a ?_ | refine ixT_a ?_ | refine ixO_a ?_ | refine bld_a ?_ | refine min_a ?_ | refine max_a ?_  | refine ldT_a ?_ | refine ldC_a ?_ | refine ldX_a ?_ | refine ldM_a ?_ | refine rdT_a ?_ | refine rdC_a ?_ | refine rdX_a ?_ | refine rdM_a ?_ | refine getCh_a ?_ | refine getCh2_a ?_ | refine getCn_a ?_ | refine getCn2_a ?_ | refine getPl_a ?_ | refine getPl2_a ?_ | refine getTk_a ?_ | refine getAn2_a ?_ | refine lenE_a ?_ | refine lenR_a ?_ | refine cv8_a ?_ | refine cv64_a ?_ | fail))
    refine hk (m - 1) _ _ _ _ _ _ _ _ (by omega) ⟨i + 1, T1, ch1, A1, cs1 ++ (cl ++ D), rfl, rfl, rfl, rfl, rfl, rfl, by simp, by omega, hA, H, hTD.mono (by intro c hc; rcases List.mem_append.1 hc with h | h <;> simp [h]), hok1, hS.step ⟨ha, by rw [hS.com], rfl, rfl⟩ hat1 hen1 hre1 hcm1 hbk1⟩
  · repeat (first | simp only [W0, pO, Option.map_some, Option.map_none] | with_reducible (first | refine lss_a ?_ | refine lss_b ?_ | refine gtr_a ?_ | refine gtr_b ?_ | refine geq_a ?_ | refine geq_b ?_ | refine leq_a ?_ | refine leq_b ?_ | refine eql_a ?_ | refine eql_b ?_ | refine neq_a ?_ | refine neq_b ?_ | refine add_a ?_ | refine sub_a ?_ | refine ld_a ?_ | refine ldA_a ?_ | refine ldS_a ?_ | refine ldNS_a ?_ | refine rdA_s ?_ | refine rd1_s ?_ | refine drew_a fun w1 H1 => ?_ | refine st_a fun w1 H1 => ?_ | refine stA_a fun w1 H1 => ?_ | refine lenT_a ?_ | refine lenO_a ?_ | refine ixT_a ?_ | refine ixO_a ?_ | refine bld_a ?_ | refine min_a ?_ | refine max_a ?_  | refine ldT_a ?_ | refine ldC_a ?_ | refine ldX_a ?_ | refine ldM_a ?_ | refine rdT_a ?_ | refine rdC_a ?_ | refine rdX_a ?_ | refine rdM_a ?_ | refine getCh_a ?_ | refine getCh2_a ?_ | refine getCn_a ?_ | refine getCn2_a ?_ | refine getPl_a ?_ | refine getPl2_a ?_ | refine getTk_a ?_ | refine getAn2_a ?_ | refine lenE_a ?_ | refine lenR_a ?_ | refine cv8_a ?_ | refine cv64_a ?_ | fail))
    obtain rfl : i = xs.length := by omega
    unfold F3_j2 F3_j4 F3_j5
    clear hk
    have hle := (hok.le r ch hS.at'.hc).1
    rw [hS.com] at hle
    refine loop4 (F3_l2_succ _) (fun m x0 x3 x4 x12 w => ∃ (p : Int) (T : Tbl) (ch : Chn) (A D : List Chunk) (n : Nat), s = x0 ∧ x3 = ptr tb 0 ∧ x4 = I 0 ∧ x12 = I p ∧ (m : Int) = p + 1 ∧ p ≤ 255 ∧
        TblAt tb T n A ∧ Hp w0 w (A ++ D) ∧ TDat w0 D T ∧ T.Ok n ∧ RInv xs p 0 T r x ch ∧ n + 3 * ch.ents.length ≤ 1000) ?_ (m := 256)
      ⟨255, T, ch, A, D, _, rfl, rfl, rfl, rfl, by decide, by decide, hA, H, hTD, hok, hS.rinv hx, by omega⟩
    clear H hA hTD hok hS hle hi T ch A D
    rintro m k x0 x3 x4 x12 w ⟨p, T, ch, A, D, n, rfl, rfl, rfl, rfl, hmp, hp255, hA, H, hTD, hok, hR, hn⟩ hk
    unfold F3_b1
    by_cases hp : 0 ≤ p
    rotate_left
    · repeat (first | simp only [W0, pO, Option.map_some, Option.map_none] | with_reducible (first | refine lss_a ?_ | refine lss_b ?_ | refine gtr_a ?_ | refine gtr_b ?_ | refine geq_a ?_ | refine geq_b ?_ | refine leq_a ?_ | refine leq_b ?_ | refine eql_a ?_ | refine eql_b ?_ | refine neq_a ?_ | refine neq_b ?_ | refine add_a ?_ | refine sub_a ?_ | refine ld_a ?_ | refine ldA_a ?_ | refine ldS_a ?_ | refine ldNS_a ?_ | refine rdA_s ?_ | refine rd1_s ?_ | refine drew_a fun w1 H1 => ?_ | refine st_a fun w1 H1 => ?_ | refine stA_a fun w1 H1 => ?_ | refine lenT_a ?_ | refine lenO_a ?_ | refine ixT_a ?_ | refine ixO_a ?_ | refine bld_a ?_ | refine min_a ?_ | refine max_a ?_  | refine ldT_a ?_ | refine ldC_a ?_ | refine ldX_a ?_ | refine ldM_a ?_ | refine rdT_a ?_ | refine rdC_a ?_ | refine rdX_a ?_ | refine rdM_a ?_ | refine getCh_a ?_ | refine getCh2_a ?_ | refine getCn_a ?_ | refine getCn2_a ?_ | refine getPl_a ?_ | refine getPl2_a ?_ | refine getTk_a ?_ | refine getAn2_a ?_ | refine lenE_a ?_ | refine lenR_a ?_ | refine cv8_a ?_ | refine cv64_a ?_ | fail))
      unfold F3_j3
      refine cal_h (awake_spec H) ?_
      rintro _ w ⟨rfl, H⟩
      repeat (first | simp only [W0, pO, Option.map_some, Option.map_none] | with_reducible (first | refine lss_a ?_ | refine lss_b ?_ | refine gtr_a ?_ | refine gtr_b ?_ | refine geq_a ?_ | refine geq_b ?_ | refine leq_a ?_ | refine leq_b ?_ | refine eql_a ?_ | refine eql_b ?_ | refine neq_a ?_ | refine neq_b ?_ | refine add_a ?_ | refine sub_a ?_ | refine ld_a ?_ | refine ldA_a ?_ | refine ldS_a ?_ | refine ldNS_a ?_ | refine rdA_s ?_ | refine rd1_s ?_ | refine drew_a fun w1 H1 => ?_ | refine st_a fun w1 H1 => ?_ | refine stA_a fun w1 H1 => ?_ | refine lenT_a ?_ | refine lenO_a ?_ | refine ixT_a ?_ | refine ixO_a ?_ | refine bld_a ?_ | refine min_a ?_ | refine max_a ?_  | refine ldT_a ?_ | refine ldC_a ?_ | refine ldX_a ?_ | refine ldM_a ?_ | refine rdT_a ?_ | refine rdC_a ?_ | refine rdX_a ?_ | refine rdM_a ?_ | refine getCh_a ?_ | refine getCh2_a ?_ | refine getCn_a ?_ | refine getCn2_a ?_ | refine getPl_a ?_ | refine getPl2_a ?_ | refine getTk_a ?_ | refine getAn2_a ?_ | refine lenE_a ?_ | refine lenR_a ?_ | refine cv8_a ?_ | refine cv64_a ?_ | fail))
      exact ⟨(by first | rfl | trivial), Hp.tre (by assumption)⟩
    repeat (first | simp only [W0, pO, Option.map_some, Option.map_none] | with_reducible (first | refine lss_a ?_ | refine lss_b ?_ | refine gtr_a ?_ | refine gtr_b ?_ | refine geq_a ?_ | refine geq_b ?_ | refine leq_a ?_ | refine leq_b ?_ | refine eql_a ?_ | refine eql_b ?_ | refine neq_a ?_ | refine neq_b ?_ | refine add_a ?_ | refine sub_a ?_ | refine ld_a ?_ | refine ldA_a ?_ | refine ldS_a ?_ | refine ldNS_a ?_ | refine rdA_s ?_ | refine rd1_s ?_ | refine drew_a fun w1 H1 => ?_ | refine st_a fun w1 H1 => ?_ | refine stA_a fun w1 H1 => ?_ | refine lenT_a ?_ | refine lenO_a ?_ | refine ixT_a ?_ | refine ixO_a ?_ | refine bld_a ?_ | refine min_a ?_ | refine max_a ?_  | refine ldT_a ?_ | refine ldC_a ?_ | refine ldX_a ?_ | refine ldM_a ?_ | refine rdT_a ?_ | refine rdC_a ?_ | refine rdX_a ?_ | refine rdM_a ?_ | refine getCh_a ?_ | refine getCh2_a ?_ | refine getCn_a ?_ | refine getCn2_a ?_ | refine getPl_a ?_ | refine getPl2_a ?_ | refine getTk_a ?_ | refine getAn2_a ?_ | refine lenE_a ?_ | refine lenR_a ?_ | refine cv8_a ?_ | refine cv64_a ?_ | fail))
    unfold F3_j6 F3_j8
    refine pv_of (lenS_tr h) ?_
    unfold F3_j9
    refine loop7 (F3_l1_succ _ _) (fun m x0 x3 x4 x12 x60 x61 x62 w => ∃ (i : Nat) (T : Tbl) (ch : Chn) (A D : List Chunk) (n : Nat), s = x0 ∧ x3 = ptr tb 0 ∧ x4 = I 0 ∧ x12 = I p ∧ s = x60 ∧ x61 = I (xs.length : Int) ∧ x62 = I (i : Int) ∧ m + i = xs.length ∧
        TblAt tb T n A ∧ Hp w0 w (A ++ D) ∧ TDat w0 D T ∧ T.Ok n ∧ RInv xs p i T r x ch ∧ n + 3 * ch.ents.length ≤ 1000) ?_ (m := xs.length)
      ⟨0, T, ch, A, D, n, rfl, rfl, rfl, rfl, rfl, rfl, rfl, by omega, hA, H, hTD, hok, hR, hn⟩
    clear H hA hTD hok hR hn T ch A D n
    rintro m2 k2 x0 x3 x4 x12 x60 x61 x62 w ⟨i, T, ch, A, D, n, rfl, rfl, rfl, rfl, rfl, rfl, rfl, hmi, hA, H, hTD, hok, hR, hn⟩ hk2
    unfold F3_b2
    by_cases hi : i < xs.length
    rotate_left
    · repeat (first | simp only [W0, pO, Option.map_some, Option.map_none] | with_reducible (first | refine lss_a ?_ | refine lss_b ?_ | refine gtr_a ?_ | refine gtr_b ?_ | refine geq_a ?_ | refine geq_b ?_ | refine leq_a ?_ | refine leq_b ?_ | refine eql_a ?_ | refine eql_b ?_ | refine neq_a ?_ | refine neq_b ?_ | refine add_a ?_ | refine sub_a ?_ | refine ld_a ?_ | refine ldA_a ?_ | refine ldS_a ?_ | refine ldNS_a ?_ | refine rdA_s ?_ | refine rd1_s ?_ | refine drew_a fun w1 H1 => ?_ | refine st_a fun w1 H1 => ?_ | refine stA_a fun w1 H1 => ?_ | refine lenT_a ?_ | refine lenO_a ?_ | refine ixT_a ?_ | refine ixO_a ?_ | refine bld_a ?_ | refine min_a ?_ | refine max_a ?_  | refine ldT_a ?_ | refine ldC_a ?_ | refine ldX_a ?_ | refine ldM_a ?_ | refine rdT_a ?_ | refine rdC_a ?_ | refine rdX_a ?_ | refine rdM_a ?_ | refine getCh_a ?_ | refine getCh2_a ?_ | refine getCn_a ?_ | refine getCn2_a ?_ | refine getPl_a ?_ | refine getPl2_a ?_ | refine getTk_a ?_ | refine getAn2_a ?_ | refine lenE_a ?_ | refine lenR_a ?_ | refine cv8_a ?_ | refine cv64_a ?_ | fail))
      unfold F3_j7
      obtain rfl : i = xs.length := by omega
      repeat (first | simp only [W0, pO, Option.map_some, Option.map_none] | with_reducible (first | refine lss_a ?_ | refine lss_b ?_ | refine gtr_a ?_ | refine gtr_b ?_ | refine geq_a ?_ | refine geq_b ?_ | refine leq_a ?_ | refine leq_b ?_ | refine eql_a ?_ | refine eql_b ?_ | refine neq_a ?_ | refine neq_b ?_ | refine add_a ?_ | refine sub_a ?_ | refine ld_a ?_ | refine ldA_a ?_ | refine ldS_a ?_ | refine ldNS_a ?_ | refine rdA_s ?_ | refine rd1_s ?_ | refine drew_a fun w1 H1 => ?_ | refine st_a fun w1 H1 => ?_ | refine stA_a fun w1 H1 => ?_ | refine lenT_a ?_ | refine lenO_a ?_ | refine ixT_a ?_ | refine ixO_a ?_ | refine bld_a ?_ | refine min_a ?_ | refine max_a ?_  | refine ldT_a ?_ | refine ldC_a ?_ | refine ldX_a ?_ | refine ldM_a ?_ | refine rdT_a ?_ | refine rdC_a ?_ | refine rdX_a ?_ | refine rdM_a ?_ | refine getCh_a ?_ | refine getCh2_a ?_ | refine getCn_a ?_ | refine getCn2_a ?_ | refine getPl_a ?_ | refine getPl2_a ?_ | refine getTk_a ?_ | refine getAn2_a ?_ | refine lenE_a ?_ | refine lenR_a ?_ | refine cv8_a ?_ | refine cv64_a ?_ | fail))
      exact hk (m - 1) _ _ _ _ _ (by omega) ⟨p - 1, T, ch, A, D, n, rfl, rfl, rfl, rfl, by omega, by omega, hA, H, hTD, hok, hR.down, hn⟩
    repeat (first | simp only [W0, pO, Option.map_some, Option.map_none] | with_reducible (first | refine lss_a ?_ | refine lss_b ?_ | refine gtr_a ?_ | refine gtr_b ?_ | refine geq_a ?_ | refine geq_b ?_ | refine leq_a ?_ | refine leq_b ?_ | refine eql_a ?_ | refine eql_b ?_ | refine neq_a ?_ | refine neq_b ?_ | refine add_a ?_ | refine sub_a ?_ | refine ld_a ?_ | refine ldA_a ?_ | refine ldS_a ?_ | refine ldNS_a ?_ | refine rdA_s ?_ | refine rd1_s ?_ | refine drew_a fun w1 H1 => ?_ | refine st_a fun w1 H1 => ?_ | refine stA_a fun w1 H1 => ?_ | refine lenT_a ?_ | refine lenO_a ?_ | refine ixT_a ?_ | refine ixO_a ?_ | refine bld_a ?_ | refine min_a ?_ | refine max_a ?_  | refine ldT_a ?_ | refine ldC_a ?_ | refine ldX_a ?_ | refine ldM_a ?_ | refine rdT_a ?_ | refine rdC_a ?_ | refine rdX_a ?_ | refine rdM_a ?_ | refine getCh_a ?_ | refine getCh2_a ?_ | refine getCn_a ?_ | refine getCn2_a ?_ | refine getPl_a ?_ | refine getPl2_a ?_ | refine getTk_a ?_ | refine getAn2_a ?_ | refine lenE_a ?_ | refine lenR_a ?_ | refine cv8_a ?_ | refine cv64_a ?_ | fail))
    unfold F3_j10 F3_j12
    obtain ⟨a, ha⟩ : ∃ a, xs[i]? = some a := ⟨_, List.getElem?_eq_getElem hi⟩
    have hab := hx a (List.mem_of_getElem? ha)
    refine ix1_t (C := cB) h H (by simp) ha rfl rfl ?_
    simp only [W0]
    rw [wrap64_id (by omega) (by omega)]
    by_cases hap : a = p
    rotate_left
    · repeat (first | simp only [W0, pO, Option.map_some, Option.map_none] | with_reducible (first | refine lss_a ?_ | refine lss_b ?_ | refine gtr_a ?_ | refine gtr_b ?_ | refine geq_a ?_ | refine geq_b ?_ | refine leq_a ?_ | refine leq_b ?_ | refine eql_a ?_ | refine eql_b ?_ | refine neq_a ?_ | refine neq_b ?_ | refine add_a ?_ | refine sub_a ?_ | refine ld_a ?_ | refine ldA_a ?_ | refine ldS_a ?_ | refine ldNS_a ?_ | refine rdA_s ?_ | refine rd1_s ?_ | refine drew_a fun w1 H1 => ?_ | refine st_a fun w1 H1 => ?_ | refine stA_a fun w1 H1 => ?_ | refine lenT_a ?_ | refine lenO_a ?_ | refine ixT_a ?_ | refine ixO_a ?_ | refine bld_a ?_ | refine min_a ?_ | refine max_a ?_  | refine ldT_a ?_ | refine ldC_a ?_ | refine ldX_a ?_ | refine ldM_a ?_ | refine rdT_a ?_ | refine rdC_a ?_ | refine rdX_a ?_ | refine rdM_a ?_ | refine getCh_a ?_ | refine getCh2_a ?_ | refine getCn_a ?_ | refine getCn2_a ?_ | refine getPl_a ?_ | refine getPl2_a ?_ | refine getTk_a ?_ | refine getAn2_a ?_ | refine lenE_a ?_ | refine lenR_a ?_ | refine cv8_a ?_ | refine cv64_a ?_ | fail))
      unfold F3_j11
      repeat (first | simp only [W0, pO, Option.map_some, Option.map_none] | with_reducible (first | refine lss_a ?_ | refine lss_b ?_ | refine gtr_a ?_ | refine gtr_b ?_ | refine geq_a ?_ | refine geq_b ?_ | refine leq_a ?_ | refine leq_b ?_ | refine eql_a ?_ | refine eql_b ?_ | refine neq_a ?_ | refine neq_b ?_ | refine add_a ?_ | refine sub_a ?_ | refine ld_a ?_ | refine ldA_a ?_ | refine ldS_a ?_ | refine ldNS_a ?_ | refine rdA_s ?_ | refine rd1_s ?_ | refine drew_a fun w1 H1 => ?_ | refine st_a fun w1 H1 => ?_ | refine stA_a fun w1 H1 => ?_ | refine lenT_a ?_ | refine lenO_a ?_ | refine ixT_a ?_ | refine ixO_a ?_ | refine bld_a ?_ | refine min_a ?_ | refine max_a ?_  | refine ldT_a ?_ | refine ldC_a ?_ | refine ldX_a ?_ | refine ldM_a ?_ | refine rdT_a ?_ | refine rdC_a ?_ | refine rdX_a ?_ | refine rdM_a ?_ | refine getCh_a ?_ | refine getCh2_a ?_ | refine getCn_a ?_ | refine getCn2_a ?_ | refine getPl_a ?_ | refine getPl2_a ?_ | refine getTk_a ?_ | refine getAn2_a ?_ | refine lenE_a ?_ | refine lenR_a ?_ | refine cv8_a ?_ | refine cv64_a ?_ | fail))
      exact hk2 (m2 - 1) _ _ _ _ _ _ _ _ (by omega) ⟨i + 1, T, ch, A, D, n, rfl, rfl, rfl, rfl, rfl, rfl, by simp, by omega, hA, H, hTD, hok, hR.skip ha hap, hn⟩
    subst hap
    repeat (first | simp only [W0, pO, Option.map_some, Option.map_none] | with_reducible (first | refine lss_a ?_ | refine lss_b ?_ | refine gtr_a ?_ | refine gtr_b ?_ | refine geq_a ?_ | refine geq_b ?_ | refine leq_a ?_ | refine leq_b ?_ | refine eql_a ?_ | refine eql_b ?_ | refine neq_a ?_ | refine neq_b ?_ | refine add_a ?_ | refine sub_a ?_ | refine ld_a ?_ | refine ldA_a ?_ | refine ldS_a ?_ | refine ldNS_a ?_ | refine rdA_s ?_ | refine rd1_s ?_ | refine drew_a fun w1 H1 => ?_ | refine st_a fun w1 H1 => ?_ | refine stA_a fun w1 H1 => ?_ | refine lenT_a ?_ | refine lenO_a ?_ | refine ixT_a ?_ | refine ixO_a ?_ | refine bld_a ?_ | refine min_a ?_ | refine max_a ?_  | refine ldT_a ?_ | refine ldC_a ?_ | refine ldX_a ?_ | refine ldM_a ?_ | refine rdT_a ?_ | refine rdC_a ?_ | refine rdX_a ?_ | refine rdM_a ?_ | refine getCh_a ?_ | refine getCh2_a ?_ | refine getCn_a ?_ | refine getCn2_a ?_ | refine getPl_a ?_ | refine getPl2_a ?_ | refine getTk_a ?_ | refine getAn2_a ?_ | refine lenE_a ?_ | refine lenR_a ?_ | refine cv8_a ?_ | refine cv64_a ?_ | fail))
    unfold F3_j13
    have hsr := (hok.so r ch hR.at'.hc).1
    obtain ⟨e, t, hen, hpe⟩ := hR.head hsr ha
    obtain ⟨he1, he2, he3, he4⟩ := hpe
    have hst : T.state 100 = 1 := by unfold Tbl.state; rw [hR.bk _ (by omega)]
    have hpri : e.pri = a := by rw [ha] at he1; injection he1 with he1; exact he1.symm
    refine cal_h (Receive_spec (th := 100) (p := 0) (id := 0) (pri := 0) (room := 10) hA (by omega) hok hTD H Split.here (by intro c hc; exact hc)) ?_
    rintro _ w ⟨nm2, A2, cs2, rfl, hdt, hA, H, hTD, hf2⟩
    obtain ⟨T2, ch2, hs2, hat2, hen2, hre2, hcm2, hla2, hbk2, _⟩ := recv_one (nm := nm2) (th := 100) (pri := 0) (room := 10) hR.at' hen (by omega) (by decide) hst
    have hok2 := receive_ok (th := 100) (p := 0) (id := 0) (pri := 0) (room := 10) hok hf2
    rw [hs2] at hA hTD hok2 hdt ⊢
    simp only [W0] at hA hTD hok2 hdt ⊢
    refine al_m (ys := [I 0, I 0, I 0, I 0, I 0, I 0, I 0, .slice none 0 0, I 0, I 0]) H (by kernel_rfl) fun w bo H => ?_
    simp only [Mg.cells]
    repeat (first | simp only [W0, pO, Option.map_some, Option.map_none] | with_reducible (first | refine lss_a ?_ | refine lss_b ?_ | refine gtr_a ?_ | refine gtr_b ?_ | refine geq_a ?_ | refine geq_b ?_ | refine leq_a ?_ | refine leq_b ?_ | refine eql_a ?_ | refine eql_b ?_ | refine neq_a ?_ | refine neq_b ?_ | refine add_a ?_ | refine sub_a ?_ | refine ld_a ?_ | refine ldA_a ?_ | refine ldS_a ?_ | refine ldNS_a ?_ | refine rdA_s ?_ | refine rd1_s ?_ | refine drew_a fun w1 H1 => ?_ | refine st_a fun w1 H1 => ?_ | refine stA_a fun w1 H1 => ?_ | refine lenT_a ?_ | refine lenO_a ?_ | refine ixT_a ?_ | refine ixO_a ?_ | refine bld_a ?_ | refine min_a ?_ | refine max_a ?_  | refine ldT_a ?_ | refine ldC_a ?_ | refine ldX_a ?_ | refine ldM_a ?_ | refine rdT_a ?_ | refine rdC_a ?_ | refine rdX_a ?_ | refine rdM_a ?_ | refine getCh_a ?_ | refine getCh2_a ?_ | refine getCn_a ?_ | refine getCn2_a ?_ | refine getPl_a ?_ | refine getPl2_a ?_ | refine getTk_a ?_ | refine getAn2_a ?_ | refine lenE_a ?_ | refine lenR_a ?_ | refine cv8_a ?_ | refine cv64_a ?_ | fail))
    rw [wrap8_id (by omega) (by omega)]
    rw [he4] at hdt
    refine lit1_t (C := cB) (x := (i : Int)) elB (by assumption) rfl (by decide) fun w sl cl H hl1 => ?_
    refine cal_h (equalB_spec (xs := [(i : Int)]) (ys := [(i : Int)]) hdt hl1.tr H (by intro c hc; rcases List.mem_append.1 hc with h | h <;> simp [h]) (by intro c hc; simp [hc]) (by simp)) ?_
    rintro _ w ⟨rfl, H⟩
    rw [decide_eq_true rfl]
    repeat (first | simp only [W0, pO, Option.map_some, Option.map_none] | with_reducible (first | refine lss_a ?_ | refine lss_b ?_ | refine gtr_a ?_ | refine gtr_b ?_ | refine geq_a ?_ | refine geq_b ?_ | refine leq_a ?_ | refine leq_b ?_ | refine eql_a ?_ | refine eql_b ?_ | refine neq_a ?_ | refine neq_b ?_ | refine add_a ?_ | refine sub_a ?_ | refine ld_a ?_ | refine ldA_a ?_ | refine ldS_a ?_ | refine ldNS_a ?_ | refine rdA_s ?_ | refine rd1_s ?_ | refine drew_a fun w1 H1 => ?_ | refine st_a fun w1 H1 => ?_ | refine stA_a fun w1 H1 => ?_ | refine lenT_a ?_ | refine lenO_a ?_ | refine ixT_a ?_ | refine ixO_a ?_ | refine bld_a ?_ | refine min_a ?_ | refine max_a ?_  | refine ldT_a ?_ | refine ldC_a ?_ | refine ldX_a ?_ | refine ldM_a ?_ | refine rdT_a ?_ | refine rdC_a ?_ | refine rdX_a ?_ | refine rdM_a ?_ | refine getCh_a ?_ | refine getCh2_a ?_ | refine getCn_a ?_ | refine getCn2_a ?_ | refine getPl_a ?_ | refine getPl2_a ?_ | refine getTk_a ?_ | refine getAn2_a ?_ | refine lenE_a ?_ | refine lenR_a ?_ | refine cv8_a ?_ | refine cv64_a ?_ | fail))
    unfold F3_j11
    repeat (first | simp only [W0, pO, Option.map_some, Option.map_none] | with_reducible (first | refine lss_a ?_ | refine lss_b ?_ | refine gtr_a ?_ | refine gtr_b ?_ | refine geq_a ?_ | refine geq_b ?_ | refine leq_a ?_ | refine leq_b ?_ | refine eql_a ?_ | refine eql_b ?_ | refine neq_a ?_ | refine neq_b ?_ | refine add_a ?_ | refine sub_a ?_ | refine ld_a ?_ | refine ldA_a ?_ | refine ldS_a ?_ | refine ldNS_a ?_ | refine rdA_s ?_ | refine rd1_s ?_ | refine drew_a fun w1 H1 => ?_ | refine st_a fun w1 H1 => ?_ | refine stA_a fun w1 H1 => ?_ | refine lenT_a ?_ | refine lenO_a ?_ | refine ixT_a ?_ | refine ixO_a ?_ | refine bld_a ?_ | refine min_a ?_ | refine max_a ?_  | refine ldT_a ?_ | refine ldC_a ?_ | refine ldX_a ?_ | refine ldM_a ?_ | refine rdT_a ?_ | refine rdC_a ?_ | refine rdX_a ?_ | refine rdM_a ?_ | refine getCh_a ?_ | refine getCh2_a ?_ | refine getCn_a ?_ | refine getCn2_a ?_ | refine getPl_a ?_ | refine getPl2_a ?_ | refine getTk_a ?_ | refine getAn2_a ?_ | refine lenE_a ?_ | refine lenR_a ?_ | refine cv8_a ?_ | refine cv64_a ?_ | fail))
    have hlen : ch.ents.length = ch2.ents.length + 1 := by rw [hen, hen2]; rfl
    exact hk2 (m2 - 1) _ _ _ _ _ _ _ _ (by omega) ⟨i + 1, T2, ch2, A2, cl ++ (⟨bo, .t 34, [I (T.last + 1), I e.th, I e.pr, I e.sid, I e.pri, I 0, I 0, nm2.ch.val, I (e.data.length : Int), I 1]⟩ :: (cs2 ++ D)), n + 3, rfl, rfl, rfl, rfl, rfl, rfl, by simp, by omega, hA, Hp.tre (by assumption), hTD.mono (by intro c hc; rcases List.mem_append.1 hc with h | h <;> simp [h]), hok2,
      hR.pop hsr ha hen ⟨he1, he2, he3, he4⟩ hat2 hen2 hbk2, by omega⟩
end
end Go.Proofs.Ytmkcjopacmadhaa.Den
