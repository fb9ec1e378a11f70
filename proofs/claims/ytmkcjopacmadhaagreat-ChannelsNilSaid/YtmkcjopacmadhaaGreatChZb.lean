/- Channels: a table with one channel and one connection; equal bytes. Conditions: none. -/
import Derived.Test.YtmkcjopacmadhaaGreatChOk
set_option linter.unusedVariables false
set_option linter.unusedSimpArgs false
set_option maxRecDepth 8000
set_option maxHeartbeats 2000000
namespace Go.Proofs.YtmkcjopacmadhaaGreat.Den
open Go Go.RowKit
/-- The table's channel 0 (r, ch) is one of the process p, and its connection 0 of the process k (x) leads there. -/
structure Tbl.At (T : Tbl) (p k : Int) (r x : Nat) (ch : Chn) : Prop where
  hm : T.chm 0 = some r
  hc : oget r T.chs = some ch
  hp : ch.pr = p
  hn : T.cnm (k, 0) = some x
  hx : oget x T.cns = some ⟨some r, 0⟩
def Tbl.one (B : TB) (p k : Int) (r sb x : Nat) : Tbl :=
  { Tbl.new B with chm := updF (fun _ => none) 0 (some r), chs := [(r, ⟨0, p, false, [], [], updF (fun _ => none) 0 (some x), shN, shN, sb⟩)], cns := [(x, ⟨some r, 0⟩)], cnm := updF (fun _ => none) (k, 0) (some x) }
section
variable {n c r x sb : Nat} {T : Tbl} {ch : Chn} {m : Msg} {p k : Int} {B : TB}
theorem Tbl.At.owned (h : T.At p k r x ch) : T.owned p 0 = (some r, 0) := by
  unfold Tbl.owned; rw [h.hm]; simp only [h.hc, h.hp, if_true]
theorem Tbl.At.lead (h : T.At p k r x ch) : T.lead k 0 = .inr (x, ⟨some r, 0⟩, r, ch) := by
  unfold Tbl.lead; rw [h.hn]; simp only [h.hx, h.hc]
theorem Tbl.At.setCh {ch' : Chn} (h : T.At p k r x ch) (hp : ch'.pr = p) : (T.setCh r ch').At p k r x ch' :=
  ⟨h.hm, by rw [oget_setCh h.hc, if_pos rfl], hp, h.hn, h.hx⟩
theorem Tbl.At.of {T' : Tbl} (h : T.At p k r x ch) (h1 : T'.chm = T.chm) (h2 : T'.chs = T.chs) (h3 : T'.cnm = T.cnm) (h4 : T'.cns = T.cns) : T'.At p k r x ch :=
  ⟨by rw [h1]; exact h.hm, by rw [h2]; exact h.hc, h.hp, by rw [h3]; exact h.hn, by rw [h4]; exact h.hx⟩
theorem one_at : (Tbl.one B p k r sb x).At p k r x ⟨0, p, false, [], [], updF (fun _ => none) 0 (some x), shN, shN, sb⟩ :=
  ⟨by simp [Tbl.one, updF], by simp [Tbl.one, oget], rfl, by simp [Tbl.one, updF], by simp [Tbl.one, oget]⟩
theorem one_ok : (Tbl.one B p k r sb x).Ok n where
  nn := by show (0 : Int) ≤ 0 ∧ (0 : Int) ≤ n ∧ (0 : Int) ≤ 0 ∧ (0 : Int) ≤ n; omega
  ch := fun id a ha => by
    simp only [Tbl.one, updF] at ha ⊢
    split at ha
    · injection ha with ha; subst ha; exact ⟨_, if_pos rfl⟩
    · cases ha
  cn := fun q a ha => by
    simp only [Tbl.one, updF] at ha ⊢
    split at ha
    · injection ha with ha; subst ha; exact ⟨_, if_pos rfl⟩
    · cases ha
  cc := fun a cx d ha hd => by
    simp only [Tbl.one, oget] at ha ⊢
    split at ha
    · injection ha with ha; subst ha; injection hd with hd; subst hd; exact ⟨_, if_pos rfl⟩
    · cases ha
  so := fun a d ha => by
    simp only [Tbl.one, oget] at ha
    split at ha
    · injection ha with ha; subst ha; exact ⟨List.Pairwise.nil, List.Pairwise.nil⟩
    · cases ha
  en := fun a d ha e he => by
    simp only [Tbl.one, oget] at ha
    split at ha
    · injection ha with ha; subst ha; cases he
    · cases ha
  rc := fun a d ha e he => by
    simp only [Tbl.one, oget] at ha
    split at ha
    · injection ha with ha; subst ha; cases he
    · cases ha
  ms := fun a ha => by cases ha
  mi := List.Pairwise.nil
  ml := fun a m ha => by cases ha
  mw := fun a m ha => by cases ha
  ln := by show (0 : Int) ≤ 0; omega
  le := fun a d ha => by
    simp only [Tbl.one, oget] at ha
    split at ha
    · injection ha with ha; subst ha; exact ⟨Int.le_refl 0, Int.le_refl 0⟩
    · cases ha
theorem asked_at {l : Nat} (hok : T.Ok n) (hp : proc p) (hl : l ≤ 4096) (hr : r ∈ T.ml) (hm : oget r T.mss = some m) (hc : oget m.ch T.chs = some ch) (hpr : ch.pr = p) : T.asked p m.id l = (some r, 0) := by
  unfold Tbl.asked Tbl.held
  rw [if_neg (fun h => h hp), if_neg (by omega), find_eq hok hr hm rfl]
  simp only [hm, hc, hpr, if_true]
theorem send_q {th pri room cn : Int} {data : List Int} {nm : Nm} {cx : Cnn} (h1 : sendOk th p pri room) (h2 : data.length ≤ 4096) (h3 : T.state th = 1) (hl : T.lead p cn = .inr (x, cx, c, ch)) (hr : ch.recs = []) :
    T.send th p cn pri room data nm = (((T.setAns th none).come.queue c ch ⟨pri, T.com + 1, th, p, cx.sid, some x, nm.dh, data, room, 0, 0, 0⟩ nm).setBlk th (some ⟨2, some c, none⟩), [], 0) := by
  unfold Tbl.send
  rw [if_neg (fun h => h h1), if_neg (by omega), if_neg (by simpa using h3), hl]
  simp only [hr]
theorem receive_t {th pri room id : Int} {nm : Nm} {e : Ent} {es : List Ent} (h1 : sendOk th p pri room) (h3 : T.state th = 1) (ho : T.owned p id = (some c, 0)) (hc : oget c T.chs = some ch) (he : ch.ents = e :: es) :
    T.receive th p id pri room nm = (((T.setCh c { ch with ents := es, eh := nm.eh }).take c e th room nm).1, ((T.setCh c { ch with ents := es, eh := nm.eh }).take c e th room nm).2, false, 0) := by
  unfold Tbl.receive
  rw [if_neg (fun h => h h1), if_neg (by simpa using h3), ho]
  simp only [hc, he]
end
section
variable {w w' w0 : World} {L L' F cs cs2 cs3 A D D' : List Chunk} {s s2 : Value} {K : VK} {R : ER} {tb n b c r : Nat} {T : Tbl} {pri th code val p k id room : Int} {ch : Chn}
theorem begin_h {K : Value → Value → Value → Value → Value → WP} (hp : proc p) (hk : proc k) (H : Hp w0 w L) (g : ∀ w tb B r sb x A, TblAt tb (Tbl.one B p k r sb x) 3 A → Hp w0 w (A ++ L) → K (ptr tb 0) (I 0) (I 0) (I 0) (I 0) w) :
    cal Pg R 20 ⟨[]⟩ (fun v49 => cal Pg R 24 ⟨[v49, I p, .bool false]⟩ fun v50 => pv (extO 0 v50) fun v51 => pv (extO 1 v50) fun v52 => cal Pg R 25 ⟨[v49, I k, v51]⟩ fun v53 => pv (extO 0 v53) fun v54 => pv (extO 1 v53) fun v55 => K v49 v51 v52 v54 v55) w := by
  refine cal_h (New_spec H) ?_
  rintro _ w ⟨tb, B, A, rfl, hA, H⟩
  simp only [ret_k]
  refine cal_h (Create_spec hA hp (by omega) H) ?_
  rintro _ w ⟨m, r, sb, A1, rfl, ⟨hm1, hm2⟩, hr, hA, H⟩
  obtain rfl : m = 0 := by
    rcases Nat.eq_zero_or_pos m with h | h
    · exact h
    · exact absurd rfl (hm2 0 h)
  simp only [ret_k, W0]
  have hcm : updF (Tbl.new B).chm ((0 : Nat) : Int) (some r) (0 : Int) = some r := by simp [updF]
  have hcg : oget r ((Tbl.new B).chs ++ [(r, (⟨((0 : Nat) : Int), p, false, [], [], fun _ => none, shN, shN, sb⟩ : Chn))]) = some ⟨((0 : Nat) : Int), p, false, [], [], fun _ => none, shN, shN, sb⟩ := by simp [Tbl.new, oget]
  refine cal_h (Attach_spec (id := 0) hA hk (by omega) hcm hcg H) ?_
  rintro _ w ⟨q, s, x, A2, rfl, ⟨hq1, hq2⟩, ⟨hs1, hs2⟩, hx, hA, H⟩
  obtain rfl : q = 0 := by
    rcases Nat.eq_zero_or_pos q with h | h
    · exact h
    · exact absurd rfl (hq2 0 h)
  obtain rfl : s = 0 := by
    rcases Nat.eq_zero_or_pos s with h | h
    · exact h
    · exact absurd rfl (hs2 0 h)
  simp only [ret_k, W0]
  refine g w tb B r sb x A2 ?_ H
  have : Tbl.one B p k r sb x = { ({ Tbl.new B with chm := updF (Tbl.new B).chm ((0 : Nat) : Int) (some r), chs := (Tbl.new B).chs ++ [(r, (⟨((0 : Nat) : Int), p, false, [], [], fun _ => none, shN, shN, sb⟩ : Chn))] } : Tbl) with
      chs := oset r { (⟨((0 : Nat) : Int), p, false, [], [], fun _ => none, shN, shN, sb⟩ : Chn) with sids := updF (fun _ => none) ((0 : Nat) : Int) (some x) } ((Tbl.new B).chs ++ [(r, (⟨((0 : Nat) : Int), p, false, [], [], fun _ => none, shN, shN, sb⟩ : Chn))]),
      cns := (Tbl.new B).cns ++ [(x, ⟨some r, ((0 : Nat) : Int)⟩)], cnm := updF (Tbl.new B).cnm (k, ((0 : Nat) : Int)) (some x) } := by
    simp [Tbl.one, Tbl.new, oset]
  rw [this]; exact hA
theorem equalB_spec {xs ys : List Int} (h : TR cB w0 cs s xs) (h2 : TR cB w0 cs2 s2 ys) (H : Hp w0 w L) (m1 : ∀ c ∈ cs, c ∈ L) (m2 : ∀ c ∈ cs2, c ∈ L) (hl : xs.length < 2 ^ 61) :
    Calls Pg 47 ⟨[s, s2]⟩ w fun e w' => e = .returned (.bool (decide (xs = ys))) ∧ Hp w0 w' L := by
  apply F47_calls
  unfold F47
  refine pv_of (lenS_tr h) ?_
  refine pv_of (lenS_tr h2) ?_
  by_cases hlen : xs.length = ys.length
  rotate_left
  · repeat (first | simp only [W0, pO, Option.map_some, Option.map_none] | with_reducible (first | refine lss_a ?_ | refine lss_b ?_ | refine gtr_a ?_ | refine gtr_b ?_ | refine geq_a ?_ | refine geq_b ?_ | refine leq_a ?_ | refine leq_b ?_ | refine eql_a ?_ | refine eql_b ?_ | refine neq_a ?_ | refine neq_b ?_ | refine add_a ?_ | refine sub_a ?_ | refine ld_a ?_ | refine ldA_a ?_ | refine ldS_a ?_ | refine ldNS_a ?_ | refine rdA_s ?_ | refine rd1_s ?_ | refine drew_a fun w1 H1 => ?_ | refine st_a fun w1 H1 => ?_ | refine stA_a fun w1 H1 => ?_ | refine lenT_a ?_ | refine lenO_a ?_ | refine ixT_a ?_ | refine ixO_a ?_ | refine bld_a ?_ | refine min_a ?_ | refine max_a ?_  | refine ldT_a ?_ | refine ldC_a ?_ | refine ldX_a ?_ | refine ldM_a ?_ | refine rdT_a ?_ | refine rdC_a ?_ | refine rdX_a ?_ | refine rdM_a ?_ | refine getCh_a ?_ | refine getCh2_a ?_ | refine getCn_a ?_ | refine getCn2_a ?_ | refine getPl_a ?_ | refine getPl2_a ?_ | refine getTk_a ?_ | refine getAn2_a ?_ | refine lenE_a ?_ | refine lenR_a ?_ | refine cv8_a ?_ | refine cv64_a ?_ | fail))
    have : xs ≠ ys := fun e => hlen (by rw [e])
    rw [decide_eq_false this]
    exact ⟨rfl, H⟩
  repeat (first | simp only [W0, pO, Option.map_some, Option.map_none] | with_reducible (first | refine lss_a ?_ | refine lss_b ?_ | refine gtr_a ?_ | refine gtr_b ?_ | refine geq_a ?_ | refine geq_b ?_ | refine leq_a ?_ | refine leq_b ?_ | refine eql_a ?_ | refine eql_b ?_ | refine neq_a ?_ | refine neq_b ?_ | refine add_a ?_ | refine sub_a ?_ | refine ld_a ?_ | refine ldA_a ?_ | refine ldS_a ?_ | refine ldNS_a ?_ | refine rdA_s ?_ | refine rd1_s ?_ | refine drew_a fun w1 H1 => ?_ | refine st_a fun w1 H1 => ?_ | refine stA_a fun w1 H1 => ?_ | refine lenT_a ?_ | refine lenO_a ?_ | refine ixT_a ?_ | refine ixO_a ?_ | refine bld_a ?_ | refine min_a ?_ | refine max_a ?_  | refine ldT_a ?_ | refine ldC_a ?_ | refine ldX_a ?_ | refine ldM_a ?_ | refine rdT_a ?_ | refine rdC_a ?_ | refine rdX_a ?_ | refine rdM_a ?_ | refine getCh_a ?_ | refine getCh2_a ?_ | refine getCn_a ?_ | refine getCn2_a ?_ | refine getPl_a ?_ | refine getPl2_a ?_ | refine getTk_a ?_ | refine getAn2_a ?_ | refine lenE_a ?_ | refine lenR_a ?_ | refine cv8_a ?_ | refine cv64_a ?_ | fail))
  unfold F47_j1 F47_j3
  refine pv_of (lenS_tr h) ?_
  unfold F47_j4
  refine loop4 (F47_l1_succ _) (fun m x0 x1 x12 x13 w => ∃ i : Nat, x0 = s ∧ x1 = s2 ∧ x12 = I (xs.length : Int) ∧ x13 = I (i : Int) ∧ m + i = xs.length ∧ xs.take i = ys.take i ∧ Hp w0 w L) ?_ (m := xs.length) ⟨0, rfl, rfl, rfl, rfl, rfl, by simp, H⟩
  clear H
  rintro m k x0 x1 x12 x13 w ⟨i, rfl, rfl, rfl, rfl, hi, hpre, H⟩ hk
  unfold F47_b1
  by_cases hlt : i < xs.length
  · repeat (first | simp only [W0, pO, Option.map_some, Option.map_none] | with_reducible (first | refine lss_a ?_ | refine lss_b ?_ | refine gtr_a ?_ | refine gtr_b ?_ | refine geq_a ?_ | refine geq_b ?_ | refine leq_a ?_ | refine leq_b ?_ | refine eql_a ?_ | refine eql_b ?_ | refine neq_a ?_ | refine neq_b ?_ | refine add_a ?_ | refine sub_a ?_ | refine ld_a ?_ | refine ldA_a ?_ | refine ldS_a ?_ | refine ldNS_a ?_ | refine rdA_s ?_ | refine rd1_s ?_ | refine drew_a fun w1 H1 => ?_ | refine st_a fun w1 H1 => ?_ | refine stA_a fun w1 H1 => ?_ | refine lenT_a ?_ | refine lenO_a ?_ | refine ixT_a ?_ | refine ixO_a ?_ | refine bld_a ?_ | refine min_a ?_ | refine max_a ?_  | refine ldT_a ?_ | refine ldC_a ?_ | refine ldX_a ?_ | refine ldM_a ?_ | refine rdT_a ?_ | refine rdC_a ?_ | refine rdX_a ?_ | refine rdM_a ?_ | refine getCh_a ?_ | refine getCh2_a ?_ | refine getCn_a ?_ | refine getCn2_a ?_ | refine getPl_a ?_ | refine getPl2_a ?_ | refine getTk_a ?_ | refine getAn2_a ?_ | refine lenE_a ?_ | refine lenR_a ?_ | refine cv8_a ?_ | refine cv64_a ?_ | fail))
    unfold F47_j5
    obtain ⟨a, ha⟩ : ∃ a, xs[i]? = some a := ⟨_, List.getElem?_eq_getElem hlt⟩
    obtain ⟨b, hb⟩ : ∃ b, ys[i]? = some b := ⟨_, List.getElem?_eq_getElem (by omega)⟩
    refine drew_k H fun w1 H1 => ?_
    refine ix1_t (C := cB) h H1 m1 ha rfl rfl ?_
    refine ix1_t (C := cB) h2 H1 m2 hb rfl rfl ?_
    by_cases hab : a = b
    · repeat (first | simp only [W0, pO, Option.map_some, Option.map_none] | with_reducible (first | refine lss_a ?_ | refine lss_b ?_ | refine gtr_a ?_ | refine gtr_b ?_ | refine geq_a ?_ | refine geq_b ?_ | refine leq_a ?_ | refine leq_b ?_ | refine eql_a ?_ | refine eql_b ?_ | refine neq_a ?_ | refine neq_b ?_ | refine add_a ?_ | refine sub_a ?_ | refine ld_a ?_ | refine ldA_a ?_ | refine ldS_a ?_ | refine ldNS_a ?_ | refine rdA_s ?_ | refine rd1_s ?_ | refine drew_a fun w1 H1 => ?_ | refine st_a fun w1 H1 => ?_ | refine stA_a fun w1 H1 => ?_ | refine lenT_a ?_ | refine lenO_a ?_ | refine ixT_a ?_ | refine ixO_a ?_ | refine bld_a ?_ | refine min_a ?_ | refine max_a ?_  | refine ldT_a ?_ | refine ldC_a ?_ | refine ldX_a ?_ | refine ldM_a ?_ | refine rdT_a ?_ | refine rdC_a ?_ | refine rdX_a ?_ | refine rdM_a ?_ | refine getCh_a ?_ | refine getCh2_a ?_ | refine getCn_a ?_ | refine getCn2_a ?_ | refine getPl_a ?_ | refine getPl2_a ?_ | refine getTk_a ?_ | refine getAn2_a ?_ | refine lenE_a ?_ | refine lenR_a ?_ | refine cv8_a ?_ | refine cv64_a ?_ | fail))
      refine hk (m - 1) _ _ _ _ _ (by omega) ⟨i + 1, rfl, rfl, rfl, by simp, by omega, ?_, H1⟩
      rw [List.take_add_one, List.take_add_one, ha, hb, hpre, hab]
    · repeat (first | simp only [W0, pO, Option.map_some, Option.map_none] | with_reducible (first | refine lss_a ?_ | refine lss_b ?_ | refine gtr_a ?_ | refine gtr_b ?_ | refine geq_a ?_ | refine geq_b ?_ | refine leq_a ?_ | refine leq_b ?_ | refine eql_a ?_ | refine eql_b ?_ | refine neq_a ?_ | refine neq_b ?_ | refine add_a ?_ | refine sub_a ?_ | refine ld_a ?_ | refine ldA_a ?_ | refine ldS_a ?_ | refine ldNS_a ?_ | refine rdA_s ?_ | refine rd1_s ?_ | refine drew_a fun w1 H1 => ?_ | refine st_a fun w1 H1 => ?_ | refine stA_a fun w1 H1 => ?_ | refine lenT_a ?_ | refine lenO_a ?_ | refine ixT_a ?_ | refine ixO_a ?_ | refine bld_a ?_ | refine min_a ?_ | refine max_a ?_  | refine ldT_a ?_ | refine ldC_a ?_ | refine ldX_a ?_ | refine ldM_a ?_ | refine rdT_a ?_ | refine rdC_a ?_ | refine rdX_a ?_ | refine rdM_a ?_ | refine getCh_a ?_ | refine getCh2_a ?_ | refine getCn_a ?_ | refine getCn2_a ?_ | refine getPl_a ?_ | refine getPl2_a ?_ | refine getTk_a ?_ | refine getAn2_a ?_ | refine lenE_a ?_ | refine lenR_a ?_ | refine cv8_a ?_ | refine cv64_a ?_ | fail))
      have : xs ≠ ys := fun e => by rw [e, hb] at ha; injection ha with ha; exact hab ha.symm
      rw [decide_eq_false this]
      exact ⟨rfl, H1⟩
  · repeat (first | simp only [W0, pO, Option.map_some, Option.map_none] | with_reducible (first | refine lss_a ?_ | refine lss_b ?_ | refine gtr_a ?_ | refine gtr_b ?_ | refine geq_a ?_ | refine geq_b ?_ | refine leq_a ?_ | refine leq_b ?_ | refine eql_a ?_ | refine eql_b ?_ | refine neq_a ?_ | refine neq_b ?_ | refine add_a ?_ | refine sub_a ?_ | refine ld_a ?_ | refine ldA_a ?_ | refine ldS_a ?_ | refine ldNS_a ?_ | refine rdA_s ?_ | refine rd1_s ?_ | refine drew_a fun w1 H1 => ?_ | refine st_a fun w1 H1 => ?_ | refine stA_a fun w1 H1 => ?_ | refine lenT_a ?_ | refine lenO_a ?_ | refine ixT_a ?_ | refine ixO_a ?_ | refine bld_a ?_ | refine min_a ?_ | refine max_a ?_  | refine ldT_a ?_ | refine ldC_a ?_ | refine ldX_a ?_ | refine ldM_a ?_ | refine rdT_a ?_ | refine rdC_a ?_ | refine rdX_a ?_ | refine rdM_a ?_ | refine getCh_a ?_ | refine getCh2_a ?_ | refine getCn_a ?_ | refine getCn2_a ?_ | refine getPl_a ?_ | refine getPl2_a ?_ | refine getTk_a ?_ | refine getAn2_a ?_ | refine lenE_a ?_ | refine lenR_a ?_ | refine cv8_a ?_ | refine cv64_a ?_ | fail))
    unfold F47_j2
    obtain rfl : i = xs.length := by omega
    have : xs = ys := by rw [List.take_length, hlen, List.take_length] at hpre; exact hpre
    rw [decide_eq_true this]
    exact ⟨rfl, H⟩
end
end Go.Proofs.YtmkcjopacmadhaaGreat.Den
