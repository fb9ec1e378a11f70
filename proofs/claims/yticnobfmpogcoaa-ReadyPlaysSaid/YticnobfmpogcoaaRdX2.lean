/- ReadyTakes: the walk. Conditions: none. -/
import Derived.Test.YticnobfmpogcoaaRdX1
import Derived.Test.YticnobfmpogcoaaRow
set_option linter.unusedVariables false
set_option linter.unusedSimpArgs false
set_option maxRecDepth 8000
namespace Go.Proofs.Yticnobfmpogcoaa.Den
open Go Go.RowKit
def All255 (L : List Ent) : Prop := ∀ e ∈ L, e.m = 255
theorem all_nil : All255 [] := fun e he => by cases he
theorem all_add {L : List Ent} (h : All255 L) (t p : Int) (f : Bool) : All255 (aAdd L t p 255 f).2 := by
  unfold aAdd; split
  · split
    · exact h
    · intro e he
      rcases mem_insert.1 he with rfl | he
      · rfl
      · exact h e he
  · exact h
theorem bitE_255 {e : Ent} (he : e.m = 255) {c : Nat} (hc : c < 8) : bitE c e = true := by
  unfold bitE
  rw [he]
  have : c = 0 ∨ c = 1 ∨ c = 2 ∨ c = 3 ∨ c = 4 ∨ c = 5 ∨ c = 6 ∨ c = 7 := by omega
  rcases this with rfl | rfl | rfl | rfl | rfl | rfl | rfl | rfl <;> decide
theorem erase_head {x : Ent} {l : List Ent} (h : Good (x :: l)) : eraseL x.t (x :: l) = l := by
  have hn := h.nodup
  simp only [List.map_cons, List.nodup_cons, List.mem_map, not_exists, not_and] at hn
  unfold eraseL
  rw [List.filter_cons_of_neg (by simp), List.filter_eq_self]
  intro e he
  have := hn.1 e he
  simpa using this
theorem take_cons {x : Ent} {l : List Ent} (h : Good (x :: l)) (h5 : All255 (x :: l)) {c : Int} (h0 : 0 ≤ c) (h8 : c < 8) : aTake (x :: l) c = (((x.t : Int), 0), l) := by
  have hb : bitE c.toNat x = true := bitE_255 (h5 x (by simp)) (by omega)
  simp only [aTake, h0, h8, and_self, if_true, List.find?_cons, hb, erase_head h]
theorem take_nil {c : Int} (h0 : 0 ≤ c) (h8 : c < 8) : aTake [] c = ((0, 22), []) := by simp [aTake, h0, h8]
theorem best_cons {x : Ent} {l : List Ent} (h5 : All255 (x :: l)) {c : Int} (h0 : 0 ≤ c) (h8 : c < 8) : aBest (x :: l) c = ((x.t : Int), 0) := by
  have hb : bitE c.toNat x = true := bitE_255 (h5 x (by simp)) (by omega)
  simp only [aBest, h0, h8, and_self, if_true, List.find?_cons, hb]
theorem has_mem {L : List Ent} (hg : Good L) {x : Ent} (h : x ∈ L) : hasE L (x.t : Int) true = 0 := by
  have h1 : isT (x.t : Int) = true := by simp only [isT, decide_eq_true_eq]; have := (hg.ok x h).1; omega
  have h2 : inL L (x.t : Int) = true := inL_iff.2 ⟨x, h, rfl⟩
  simp [hasE, h1, h2]
/-- What Priority answers. -/
def aPrio (L : List Ent) (x : Int) : Int × Int :=
  if hasE L x true = 0 then (match L.find? (fun e => (e.t : Int) == x) with | some e => ((e.p : Int), 0) | none => (0, 0)) else (0, hasE L x true)
theorem findx {L : List Ent} (hg : Good L) {x : Ent} (hx : x ∈ L) : L.find? (fun e => (e.t : Int) == (x.t : Int)) = some x := by
  cases hf : L.find? (fun e => (e.t : Int) == (x.t : Int)) with
  | none => have := List.find?_eq_none.1 hf x hx; simp at this
  | some y =>
    have h1 := List.mem_of_find?_eq_some hf
    have h2 : (y.t : Int) = x.t := by simpa using List.find?_some hf
    rw [ent_inj hg.nodup h1 hx (by omega)]
theorem prio_mem {L : List Ent} (hg : Good L) {x : Ent} (hx : x ∈ L) : aPrio L (x.t : Int) = ((x.p : Int), 0) := by
  simp only [aPrio, has_mem hg hx, if_true, findx hg hx]
section
variable {w : World} {R Q : ER} {b : Nat} {L : List Ent}
theorem Prio_spec (h : RQ w b L) (x : Int) : Calls Pg 14 ⟨[ptr b 0, I x]⟩ w fun e w' => e = .returned (.tuple ⟨[I (aPrio L x).1, I (aPrio L x).2]⟩) ∧ w' = w := by
  refine (Priority_spec h x).mono ?_
  rintro e w' ⟨⟨p, h1, h2, h3⟩, h4⟩
  refine ⟨?_, h4⟩
  rw [h1]
  by_cases h0 : hasE L x true = 0
  · obtain ⟨y, hy, rfl, rfl⟩ := h3 h0
    rw [prio_mem h.good hy, h0]
  · rw [h2 h0]; simp [aPrio, h0]
theorem rem8 {x : Int} : bin .rem (.int .u8 x) (.int .u8 8) = some (.int .u8 (x.tmod 8)) := bin_rem (by decide)
theorem cv8 {x : Int} (h0 : 0 ≤ x) (h1 : x < 256) : cvI .i64 (.int .u8 x) = some (I x) := by
  simp only [cvI]; rw [wrap64_id (by omega) (by omega)]
theorem mod8 {x : Int} (h0 : 0 ≤ x) : 0 ≤ x.tmod 8 ∧ x.tmod 8 < 8 := by rw [Int.tmod_eq_emod_of_nonneg h0]; omega
theorem awake_fin {w0 : World} (he : Ext [] w0 w) : cal Pg (Fin w0) 8 ⟨[]⟩ (fun v => Fin w0 (.returned v)) w := by
  refine cal_of awake_spec ?_
  rintro e w' ⟨rfl, h⟩
  exact ⟨rfl, he.trans h⟩
variable {w0 : World} {pr : Int}
theorem takes_end (h0 : 0 ≤ pr) (h1 : pr < 256) (h : RQ w b []) (he : Ext [] w0 w) (hb : w0.heap.size ≤ b) : orpimentlaw02_ReadyTakes_j2 (Fin w0) (.int .u8 pr) (ptr b 0) w := by
  unfold orpimentlaw02_ReadyTakes_j2
  obtain ⟨m0, m1⟩ := mod8 h0
  rw [rem8, pv_some, cv8 m0 (by omega), pv_some]
  refine cal_of (Take_spec h _ (by simp)) ?_
  rw [take_nil m0 m1]
  rintro e w1 ⟨rfl, hq, he1⟩
  simp only [ret_k, ext0, ext1, pv_some, bin_eql, decide_true, gd_yes]
  refine cal_of (Len_spec hq) ?_
  rintro e w' ⟨rfl, hw⟩
  obtain rfl := hw.symm
  simp only [ret_k, List.length_nil, Int.ofNat_zero, pv_some, bin_eql, decide_true, gd_yes, pick_true]
  refine cal_of (Greatest_spec hq) ?_
  rintro e w' ⟨rfl, hw⟩
  obtain rfl := hw.symm
  simp only [ret_k, topP, pv_some, bin_eql, decide_true, gd_yes, pick_true]
  refine cal_of awake_spec ?_
  rintro e w' ⟨rfl, h9⟩
  exact ⟨rfl, (own2 he he1 hb).trans h9⟩
theorem takes_out (h0 : 0 ≤ pr) (h1 : pr < 256) {L0 : List Ent} (hg : Good L0) (h5 : All255 L0) {s : Value} {ob : Option Nat} (hob : ∀ o, ob = some o → o ≠ b) (hb : w0.heap.size ≤ b) : ∀ (k i : Nat) (w : World), i + k = L0.length + 1 → i ≤ L0.length →
    RQ w b (L0.drop i) → SL w 3 1 s L0.length (thr L0) ob → Ext [] w0 w → orpimentlaw02_ReadyTakes_l6 (Fin w0) k (.int .u8 pr) (ptr b 0) s (I (i : Int)) w := by
  intro k
  induction k with
  | zero => intro i w hk hi h hs he; omega
  | succ k ih =>
    intro i w hk hi h hs he
    rw [orpimentlaw02_ReadyTakes_l6_succ]
    unfold orpimentlaw02_ReadyTakes_b5
    have hsrc : ∀ {w}, SL w 3 1 s L0.length (thr L0) ob → Src w 1 s L0.length (ints (L0.map fun e => (e.t : Int))) := fun h => by rw [← thr_ints]; exact h.toSrc
    obtain ⟨m0, m1⟩ := mod8 h0
    have hlen := hg.len
    rw [src_len (hsrc hs), pv_some, bin_lss, pv_some]
    refine cnd_decide (fun hc => ?_) (fun hc => ?_)
    · have hin : i < L0.length := by omega
      obtain ⟨x, hx⟩ : ∃ x, L0[i]? = some x := ⟨_, List.getElem?_eq_getElem hin⟩
      have dx : L0.drop i = x :: L0.drop (i + 1) := by rw [List.drop_eq_getElem_cons hin]; congr 1; rw [List.getElem?_eq_getElem hin] at hx; injection hx
      rw [dx] at h
      have hgd := h.good
      have h5d : All255 (x :: L0.drop (i + 1)) := fun e he => h5 e (by rw [← dx] at he; exact List.mem_of_mem_drop he)
      have hxi : (L0.map fun e => (e.t : Int))[i]? = some (x.t : Int) := by simp [hx]
      refine src_at (hsrc hs) hin hxi ?_
      refine cal_of (Prio_spec h (x.t : Int)) ?_
      rw [prio_mem hgd (by simp)]
      rintro e w' ⟨rfl, hw⟩
      obtain rfl := hw.symm
      simp only [ret_k, ext0, ext1, pv_some]
      rw [rem8, pv_some, cv8 m0 (by omega), pv_some]
      refine cal_of (Take_spec h _ (by have := hgd.len; omega)) ?_
      rw [take_cons hgd h5d m0 m1]
      rintro e w1 ⟨rfl, hq, he1⟩
      have hs1 := hs.ext he1 (fun o ho => by simpa using hob o ho)
      simp only [ret_k, ext0, ext1, pv_some, bin_neq, ne_eq, not_true_eq_false, decide_false, gd_yes', pick_false]
      refine src_at (hsrc hs1) hin hxi ?_
      simp only [pv_some, bin_neq, ne_eq, not_true_eq_false, decide_false, gd_yes', pick_false, bin_add, src_len (hsrc hs1), bin_lss]
      rw [wrap64_id (by omega) (by omega)]
      have hout : ∀ w2, w2 = w1 → orpimentlaw02_ReadyTakes_l6 (Fin w0) k (.int .u8 pr) (ptr b 0) s (I (((i + 1 : Nat) : Int))) w2 := by
        rintro w2 rfl
        exact ih (i + 1) w2 (by omega) (by omega) hq hs1 (own2 he he1 hb)
      by_cases hl : i + 1 < L0.length
      · rw [show decide ((i : Int) + 1 < (L0.length : Int)) = true from decide_eq_true (by omega)]
        simp only [gd_yes, pv_some]
        refine cal_of (Greatest_spec hq) ?_
        rintro e w' ⟨rfl, hw⟩
        obtain rfl := hw.symm
        simp only [ret_k, pv_some, bin_gtr, gd_yes, pick_true]
        have htop : ¬ ((x.p : Int) < topP (L0.drop (i + 1))) := by
          have hp := hgd.sorted
          cases hd : L0.drop (i + 1) with
          | nil => simp only [topP]; omega
          | cons y l =>
            rw [hd] at hp
            have := (List.pairwise_cons.1 hp).1 y (by simp)
            simp only [topP]; omega
        rw [decide_eq_false htop]
        simp only [pick_false, pv_some, cnd_false]
        exact hout _ rfl
      · rw [show decide ((i : Int) + 1 < (L0.length : Int)) = false from decide_eq_false (by omega)]
        simp only [gd_no, pv_some, pick_false, cnd_false]
        exact hout _ rfl
    · have : i = L0.length := by omega
      subst this
      rw [List.drop_length] at h
      exact takes_end h0 h1 h he hb
theorem takes_in {x0 : Value} {xs : List ActR} (ha0 : Acts w0 x0 xs) (h0 : 0 ≤ pr) (h1 : pr < 256) (hn : xs.length ≤ 60) (hb : w0.heap.size ≤ b) : ∀ (k i : Nat) (w : World) (L : List Ent), i + k = xs.length + 1 → i ≤ xs.length →
    RQ w b L → All255 L → Ext [] w0 w → orpimentlaw02_ReadyTakes_l10 (Fin w0) k x0 (.int .u8 pr) (ptr b 0) (I (i : Int)) w := by
  intro k
  induction k with
  | zero => intro i w L hk hi h h5 he; omega
  | succ k ih =>
    intro i w L hk hi h h5 he
    have ha := ha0.ext he
    rw [orpimentlaw02_ReadyTakes_l10_succ]
    unfold orpimentlaw02_ReadyTakes_b9
    rw [ha.len, pv_some, bin_lss, pv_some]
    have hgl := h.good.len
    refine cnd_decide (fun hc => ?_) (fun hc => ?_)
    · obtain ⟨x, hx⟩ : ∃ x, xs[i]? = some x := ⟨_, List.getElem?_eq_getElem (by omega)⟩
      show _
      unfold drewV
      obtain ⟨a, hix, hcell⟩ := acts_at (ha.ext (Ext.drew [] w)) hx
      simp only [hix, pv_some, faO_add]
      refine ld1_cell (hcell 1 (by omega)) ?_
      refine ld1_cell (hcell 2 (by omega)) ?_
      refine ld1_cell (hcell 5 (by omega)) ?_
      unfold mem
      refine cal_of (Add_spec (h.ext (Ext.drew [] w) (by simp)) x.t x.p 255 x.f (by omega)) ?_
      rintro e w1 ⟨rfl, hq, he1⟩
      simp only [ret_k, bin_add, pv_some]
      rw [wrap64_id (by omega) (by omega)]
      have he2 := own2 (he.trans (Ext.drew [] w)) he1 hb
      exact ih (i + 1) w1 _ (by omega) (by omega) hq (all_add h5 x.t x.p x.f) he2
    · unfold orpimentlaw02_ReadyTakes_j1
      refine cal_of (Order_spec h) ?_
      rintro e w1 ⟨s, ob, rfl, hs, he1, hob⟩
      simp only [ret_k]
      unfold orpimentlaw02_ReadyTakes_j3 orpimentlaw02_ReadyTakes_j4
      exact ⟨L.length + 1, takes_out h0 h1 h.good h5 (fun o ho e => by have := hob o ho; have := h.lt; omega) hb (L.length + 1) 0 w1 (by omega) (by omega) (by simpa using h.ext he1 (by simp)) hs (he.trans he1)⟩
theorem ReadyTakes_spec {x0 : Value} {xs : List ActR} (ha : Acts w0 x0 xs) (h0 : 0 ≤ pr) (h1 : pr < 256) : Calls Pg 4 ⟨[x0, .int .u8 pr]⟩ w0 (Fin w0) := by
  apply orpimentlaw02_ReadyTakes_calls
  unfold orpimentlaw02_ReadyTakes
  rw [ha.len, pv_some, bin_gtr, pv_some]
  refine cnd_decide (fun hc => awake_fin (Ext.refl _ _)) (fun hc => ?_)
  refine cal_of New_spec ?_
  rintro e w1 ⟨b, rfl, hq, he, hb⟩
  simp only [ret_k]
  unfold orpimentlaw02_ReadyTakes_j7 orpimentlaw02_ReadyTakes_j8
  exact ⟨xs.length + 1, takes_in ha h0 h1 (by omega) hb (xs.length + 1) 0 w1 [] (by omega) (by omega) hq all_nil he⟩
end
end Go.Proofs.Yticnobfmpogcoaa.Den
