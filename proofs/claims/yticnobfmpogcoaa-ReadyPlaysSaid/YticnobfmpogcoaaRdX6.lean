/- ReadyPlays: the walk. Conditions: none. -/
import Derived.Test.YticnobfmpogcoaaRdR5
set_option linter.unusedVariables false
set_option linter.unusedSimpArgs false
set_option maxRecDepth 8000
namespace Go.Proofs.Yticnobfmpogcoaa.Den
open Go Go.RowKit
/-- Nothing below B has changed. -/
def Fb (B : Nat) (w w' : World) : Prop := ∃ S, Ext S w w' ∧ ∀ k, k ∈ S → B ≤ k
/-- After one call on both queues. -/
def Chg (B b c : Nat) (w : World) : ER := fun e w' => e = .returned (.bool true) ∧ ∃ L', RQ w' b L' ∧ RR B b w' c L' ∧ Fb B w w'
section
variable {B b c : Nat} {w w' w'' w1 w2 w3 : World} {L L' : List Ent} {R : ER} {K : VK}
theorem Fb.of {S : List Nat} (h : Ext S w w') (hS : ∀ k, k ∈ S → B ≤ k) : Fb B w w' := ⟨S, h, hS⟩
theorem Fb.trans (h : Fb B w w') (h' : Fb B w' w'') : Fb B w w'' := by
  obtain ⟨S, h1, h2⟩ := h
  obtain ⟨S', h3, h4⟩ := h'
  refine ⟨S ++ S', h1.then h3 (fun k hk _ => by simp [hk]) (fun k hk _ => by simp [hk]), fun k hk => ?_⟩
  rcases List.mem_append.1 hk with hk | hk
  · exact h2 k hk
  · exact h4 k hk
theorem Fr.fb (h : Fr B b w w') : Fb B w w' := by obtain ⟨S, h1, h2⟩ := h; exact ⟨S, h1, fun k hk => (h2 k hk).1⟩
theorem fb_own {w0 : World} (h : Ext [] w0 w) (hf : Fb w0.heap.size w w') : Ext [] w0 w' := by
  obtain ⟨S, h1, h2⟩ := hf
  exact h.then h1 (fun k hk _ => by cases hk) (fun k hk hl => by have := h2 k hk; omega)
/-- Both have made their step. -/
theorem chg_end (hb : B ≤ b) (he : Ext [] w w1) (he2 : Ext [b] w1 w2) (hq : RQ w2 b L') (hr : RR B b w3 c L') (hf : Fr B b w2 w3) : Chg B b c w (.returned (.bool true)) w3 :=
  ⟨rfl, L', hq.fr hf, hr, (Fb.of he (by simp)).trans ((Fb.of he2 (fun k hk => by simp at hk; omega)).trans hf.fb)⟩
theorem chg_two {vb : Nat} {x : ActR} (hv : Blk w1 vb 27 x.cells) (hne : vb ≠ b) (he2 : Ext [b] w1 w2) : Blk w2 vb 27 x.cells := hv.ext he2 (by simpa using hne)
theorem change_any (hb : B ≤ b) (hq0 : RQ w b L) (hr0 : RR B b w c L) (x : ActR) : Calls Pg 20 ⟨[ptr b 0, ptr c 0, x.val]⟩ w (Chg B b c w) := by
  apply orpimentlaw02_change_calls
  unfold orpimentlaw02_change
  refine bx_blk fun w1 hb1 he hs => ?_
  have hb' : Blk w1 w.heap.size 27 x.cells := hb1
  have hbd : Blk w1.drew w.heap.size 27 x.cells := hb1
  have hed : Ext [] w w1.drew := he.trans (Ext.drew _ _)
  have hq : RQ w1 b L := hq0.ext he (by simp)
  have hr : RR B b w1 c L := hr0.ext he (by simp)
  have hqd : RQ w1.drew b L := hq0.ext hed (by simp)
  have hrd : RR B b w1.drew c L := hr0.ext hed (by simp)
  have hg := hq.good
  have hlen := hg.len
  have hne : w.heap.size ≠ b := by have := hq0.lt; omega
  unfold orpimentlaw02_change_j2
  simp only [faO_mk, pv_some]
  refine ld1_blk hb' rfl ?_
  rw [bin_rem (by decide), pv_some]
  unfold orpimentlaw02_change_j3
  have hrb : ∀ {w w' : World}, RR B b w c L → Ext [b] w w' → RR B b w' c L := fun h he => h.ext he (fun k hk => .inl (by simpa using hk))
  have hj4 : ∀ d : Bool, ∀ n : Int, orpimentlaw02_change_j4 (Chg B b c w) (ptr b 0) (ptr c 0) (.pointer (some ⟨w.heap.size, 0, none⟩)) (.int .u8 n) (.bool d) w1 := by
    intro d n
    unfold orpimentlaw02_change_j4
    cases d with
    | true =>
      rw [cnd_true]
      simp only [faO_mk, pv_some]
      unfold drewV mem
      refine ld1_blk hbd rfl ?_
      refine ld1_blk hbd rfl ?_
      refine ld1_blk hbd rfl ?_
      refine ld1_blk hbd rfl ?_
      refine cal_of (Add_spec hqd x.t x.p x.m x.f (by omega)) ?_
      rintro e w2 ⟨rfl, hq2, he2⟩
      have hv2 := chg_two hbd hne he2
      simp only [ret_k]
      refine ld1S_blk1 hv2 hbd rfl ?_
      refine ld1S_blk1 hv2 hbd rfl ?_
      refine ld1S_blk1 hv2 hbd rfl ?_
      refine ld1S_blk1 hv2 hbd rfl ?_
      refine cal_of (rAdd (hrb hrd he2) hg x.t x.p x.m x.f) ?_
      rintro e w3 ⟨rfl, hr3, hf3⟩
      simp only [ret_k, bin_eql, pv_some, decide_true]
      exact chg_end hb hed he2 hq2 hr3 hf3
    | false =>
      rw [cnd_false, bin_eql, pv_some]
      refine cnd_decide (fun _ => ?_) (fun _ => ?_)
      · simp only [faO_mk, pv_some]
        unfold drewV mem
        refine ld1_blk hbd rfl ?_
        refine cal_of (Remove_spec hqd x.t (by omega)) ?_
        rintro e w2 ⟨rfl, hq2, he2⟩
        have hv2 := chg_two hbd hne he2
        simp only [ret_k]
        refine ld1S_blk1 hv2 hbd rfl ?_
        refine cal_of (rRemove (hrb hrd he2) hg x.t) ?_
        rintro e w3 ⟨rfl, hr3, hf3⟩
        simp only [ret_k, bin_eql, pv_some, decide_true]
        exact chg_end hb hed he2 hq2 hr3 hf3
      rw [bin_eql, pv_some]
      refine cnd_decide (fun _ => ?_) (fun _ => ?_)
      · simp only [faO_mk, pv_some]
        unfold drewV mem
        refine ld1_blk hbd rfl ?_
        refine ld1_blk hbd rfl ?_
        refine ld1_blk hbd rfl ?_
        refine cal_of (SetPriority_spec hqd x.t x.p x.f) ?_
        rintro e w2 ⟨rfl, hq2, he2⟩
        have hv2 := chg_two hbd hne he2
        simp only [ret_k]
        refine ld1S_blk1 hv2 hbd rfl ?_
        refine ld1S_blk1 hv2 hbd rfl ?_
        refine ld1S_blk1 hv2 hbd rfl ?_
        refine cal_of (rSetP (hrb hrd he2) hg x.t x.p x.f) ?_
        rintro e w3 ⟨rfl, hr3, hf3⟩
        simp only [ret_k, bin_eql, pv_some, decide_true]
        exact chg_end hb hed he2 hq2 hr3 hf3
      rw [bin_eql, pv_some]
      refine cnd_decide (fun _ => ?_) (fun _ => ?_)
      · simp only [faO_mk, pv_some]
        unfold drewV mem
        refine ld1_blk hbd rfl ?_
        refine ld1_blk hbd rfl ?_
        refine cal_of (SetMask_spec hqd x.t x.m) ?_
        rintro e w2 ⟨rfl, hq2, he2⟩
        have hv2 := chg_two hbd hne he2
        simp only [ret_k]
        refine ld1S_blk1 hv2 hbd rfl ?_
        refine ld1S_blk1 hv2 hbd rfl ?_
        refine cal_of (rSetM (hrb hrd he2) hg x.t x.m) ?_
        rintro e w3 ⟨rfl, hr3, hf3⟩
        simp only [ret_k, bin_eql, pv_some, decide_true]
        exact chg_end hb hed he2 hq2 hr3 hf3
      rw [bin_eql, pv_some]
      refine cnd_decide (fun _ => ?_) (fun _ => ?_)
      · simp only [faO_mk, pv_some]
        unfold drewV mem
        refine ld1_blk hbd rfl ?_
        refine cal_of (Rotate_spec hqd x.p) ?_
        rintro e w2 ⟨rfl, hq2, he2⟩
        have hv2 := chg_two hbd hne he2
        simp only [ret_k]
        refine ld1S_blk1 hv2 hbd rfl ?_
        refine cal_of (rRotate (hrb hrd he2) hg x.p) ?_
        rintro e w3 ⟨rfl, hr3, hf3⟩
        simp only [ret_k, bin_eql, pv_some, decide_true]
        exact chg_end hb hed he2 hq2 hr3 hf3
      rw [bin_eql, pv_some]
      refine cnd_decide (fun _ => ?_) (fun _ => ?_)
      · simp only [faO_mk, pv_some]
        refine ld1_blk hb' rfl ?_
        refine cal_of (Take_spec hq x.n (by omega)) ?_
        rintro e w2 ⟨rfl, hq2, he2⟩
        have hv2 := chg_two hb' hne he2
        simp only [ret_k, ext0, ext1, pv_some]
        refine ld1_blk hv2 rfl ?_
        refine cal_of (rTake (hrb hr he2) hg x.n) ?_
        rintro e w3 ⟨rfl, hr3, hf3⟩
        simp only [ret_k, ext0, ext1, pv_some]
        refine pair_end _ _ _ _ rfl rfl ?_
        exact chg_end hb he he2 hq2 hr3 hf3
      rw [bin_eql, pv_some]
      refine cnd_decide (fun _ => ?_) (fun _ => ?_)
      · simp only [faO_mk, pv_some]
        refine ld1_blk hb' rfl ?_
        refine cal_rets (Best_spec hq x.n) ?_
        simp only [ext0, ext1, pv_some]
        refine ld1_blk hb' rfl ?_
        refine cal_rets (rBest hr hg x.n) ?_
        simp only [ext0, ext1, pv_some]
        refine pair_end _ _ _ _ rfl rfl ?_
        exact chg_end hb he (Ext.refl _ _) hq hr Fr.refl
      unfold orpimentlaw02_change_j1
      simp only [faO_mk, pv_some]
      refine ld1_blk hb' rfl ?_
      refine cal_rets (Prio_spec hq x.t) ?_
      simp only [ext0, ext1, pv_some]
      refine ld1_blk hb' rfl ?_
      refine cal_rets (rPrio hr hg x.t) ?_
      simp only [ext0, ext1, pv_some]
      refine pair_end _ _ _ _ rfl rfl ?_
      exact chg_end hb he (Ext.refl _ _) hq hr Fr.refl
  rw [bin_eql, pv_some]
  by_cases h0 : x.d.tmod 9 = 0
  · rw [decide_eq_true h0, cnd_true]; exact hj4 _ _
  · rw [decide_eq_false h0, cnd_false, bin_eql, pv_some]; exact hj4 _ _
theorem plays_l {w0 : World} {x0 : Value} {xs : List ActR} (ha0 : Acts w0 x0 xs) (hn : xs.length ≤ 60) (hb : w0.heap.size ≤ b) : ∀ (k i : Nat) (w : World) (L : List Ent), i + k = xs.length + 1 → i ≤ xs.length →
    RQ w b L → RR w0.heap.size b w c L → Ext [] w0 w → orpimentlaw02_ReadyPlays_l5 (Fin w0) k x0 (ptr b 0) (ptr c 0) (I (i : Int)) w := by
  intro k
  induction k with
  | zero => intro i w L hk hi; omega
  | succ k ih =>
    intro i w L hk hi h hr he
    have ha := ha0.ext he
    rw [orpimentlaw02_ReadyPlays_l5_succ]
    unfold orpimentlaw02_ReadyPlays_b4
    rw [ha.len, pv_some, bin_lss, pv_some]
    refine cnd_decide (fun hc => ?_) (fun hc => ?_)
    · obtain ⟨x, hx⟩ : ∃ x, xs[i]? = some x := ⟨_, List.getElem?_eq_getElem (by omega)⟩
      unfold drewV mem
      have hed : Ext [] w w.drew := Ext.drew _ _
      obtain ⟨a, hix, hcell⟩ := acts_at (ha.ext hed) hx
      rw [hix, pv_some]
      refine ldN6_act hcell ?_
      refine cal_of (change_any hb (h.ext hed (by simp)) (hr.ext hed (by simp)) x) ?_
      rintro e w1 ⟨rfl, L', hq1, hr1, hf1⟩
      have e1 := fb_own (he.trans hed) hf1
      have hg := hq1.good
      have hlen := hg.len
      simp only [ret_k, not_bool, Bool.not_true, pv_some, gd_yes']
      refine cal_of (Order_src hq1) ?_
      rintro e w2 ⟨s2, rfl, hs2, he2⟩
      simp only [ret_k]
      refine cal_of (rOrder (hr1.ext he2 (by simp)) hg) ?_
      rintro e w3 ⟨s3, rfl, hs3, he3⟩
      simp only [ret_k]
      refine cal_of (Equal_spec (hs2.ext he3) hs3 (by omega)) ?_
      rintro e w4 ⟨rfl, he4⟩
      have he14 := (he2.trans he3).trans he4
      have hq4 := hq1.ext he14 (by simp)
      have hr4 := hr1.ext he14 (by simp)
      simp only [ret_k, not_bool, decide_true, Bool.not_true, pv_some, pick_false, gd_yes']
      refine cal_rets (Len_spec hq4) ?_
      obtain ⟨g1, g2, g3, s, ob, g4, g5, g6⟩ := hr4
      simp only [nilO_ptr, faO_mk, pv_some]
      refine ld1S_blk1 g4 g4 rfl ?_
      rw [sl_len g5]
      simp only [pv_some, bin_neq, ne_eq, not_true_eq_false, decide_false, pick_false, gd_yes']
      refine cal_rets (Greatest_spec hq4) ?_
      refine cal_rets (rGreatest (hr1.ext he14 (by simp))) ?_
      simp only [pv_some, bin_neq, ne_eq, not_true_eq_false, decide_false, pick_false, gd_yes', cnd_false, bin_add]
      rw [wrap64_id (by omega) (by omega)]
      exact ih (i + 1) w4 L' (by omega) (by omega) hq4 (hr1.ext he14 (by simp)) (e1.trans he14)
    · unfold orpimentlaw02_ReadyPlays_j1
      exact awake_fin he
theorem ReadyPlays_any {w0 : World} {x0 : Value} {xs : List ActR} (ha : Acts w0 x0 xs) : Calls Pg 6 ⟨[x0]⟩ w0 (Fin w0) := by
  apply orpimentlaw02_ReadyPlays_calls
  unfold orpimentlaw02_ReadyPlays
  rw [ha.len, pv_some, bin_gtr, pv_some]
  refine cnd_decide (fun hc => awake_fin (Ext.refl _ _)) (fun hc => ?_)
  refine cal_of New_spec ?_
  rintro e w1 ⟨b, rfl, hq, he, hb⟩
  simp only [ret_k]
  have e1 : bldO [.slice none 0 0] [] = some (.agg ⟨[.slice none 0 0]⟩) := rfl
  rw [e1, pv_some]
  refine bx_blk fun w2 hb2 he2 hs2 => ?_
  have hbl := hq.lt
  have hsz := he.size
  have hr : RR w0.heap.size b w2 w1.heap.size [] := ⟨hsz, by omega, by omega, _, none, hb2, SL.nil, fun o ho => (nomatch ho)⟩
  unfold orpimentlaw02_ReadyPlays_j2 orpimentlaw02_ReadyPlays_j3
  exact ⟨xs.length + 1, plays_l ha (by omega) hb (xs.length + 1) 0 w2 [] (by omega) (by omega) (hq.ext he2 (by simp)) hr (he.trans he2)⟩
end
end Go.Proofs.Yticnobfmpogcoaa.Den
