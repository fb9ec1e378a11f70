/- ReadyNil: the walk. Conditions: none. -/
import Derived.Test.YticnobfmpogcoaaRdX2
set_option linter.unusedVariables false
set_option linter.unusedSimpArgs false
set_option maxRecDepth 8000
namespace Go.Proofs.Yticnobfmpogcoaa.Den
open Go Go.RowKit
/-- The numbers of a call, as a value. -/
def ActR.val (x : ActR) : Value := .agg x.cells.toArray
section
variable {w w1 w2 : World} {b o : Nat} {t : TypeId} {l : List Value} {v : Value} {K : VK} {R : ER}
theorem ld1S_blk1 (h : Blk w b t l) (h1 : Blk w1 b t l) (hv : l[o]? = some v) (k : K v w) : ld1S [w1] (.pointer (some ⟨b, o, none⟩)) K w := by
  simp only [ld1S, h.cell, hv, stab, h1.cell, true_and]; exact k
theorem ld1S_blk2 (h : Blk w b t l) (h1 : Blk w1 b t l) (h2 : Blk w2 b t l) (hv : l[o]? = some v) (k : K v w) : ld1S [w1, w2] (.pointer (some ⟨b, o, none⟩)) K w := by
  simp only [ld1S, h.cell, hv, stab, h1.cell, h2.cell, true_and]; exact k
abbrev nilp : Value := .pointer none
abbrev Rets (v : Value) (w : World) : ER := fun e w' => e = .returned v ∧ w' = w
theorem nil_add (a b c d : Value) : Calls Pg 10 ⟨[nilp, a, b, c, d]⟩ w (Rets (I 35) w) := by
  apply ready_Queue_Add_calls; unfold ready_Queue_Add; simp only [eqNil_none, pv_some, cnd_true]; exact ⟨rfl, rfl⟩
theorem nil_has (a b : Value) : Calls Pg 28 ⟨[nilp, a, b]⟩ w (Rets (I 35) w) := by
  apply ready_Queue_has_calls; unfold ready_Queue_has; simp only [eqNil_none, pv_some, cnd_true]; exact ⟨rfl, rfl⟩
theorem nil_len : Calls Pg 18 ⟨[nilp]⟩ w (Rets (I 0) w) := by
  apply ready_Queue_Len_calls; unfold ready_Queue_Len; simp only [eqNil_none, pv_some, cnd_true]; exact ⟨rfl, rfl⟩
theorem nil_greatest : Calls Pg 17 ⟨[nilp]⟩ w (Rets (I (-1)) w) := by
  apply ready_Queue_Greatest_calls; unfold ready_Queue_Greatest; simp only [eqNil_none, pv_some, cnd_true]; exact ⟨rfl, rfl⟩
theorem nil_order : Calls Pg 11 ⟨[nilp]⟩ w (Rets (.slice none 0 0) w) := by
  apply ready_Queue_Order_calls; unfold ready_Queue_Order; simp only [eqNil_none, pv_some, cnd_true]; exact ⟨rfl, rfl⟩
theorem nil_rotate (a : Value) : Calls Pg 12 ⟨[nilp, a]⟩ w (Rets (I 35) w) := by
  apply ready_Queue_Rotate_calls; unfold ready_Queue_Rotate; simp only [eqNil_none, pv_some, cnd_true]; exact ⟨rfl, rfl⟩
theorem nil_best (a : Value) : Calls Pg 19 ⟨[nilp, a]⟩ w (Rets (.tuple ⟨[I 0, I 35]⟩) w) := by
  apply ready_Queue_Best_calls; unfold ready_Queue_Best; simp only [eqNil_none, pv_some, cnd_true]; exact ⟨rfl, rfl⟩
theorem cal_rets {k : FuncId} {args : Array Value} {v : Value} (h : Calls Pg k args w (Rets v w)) (g : K v w) : cal Pg R k args K w := by
  refine cal_of h ?_
  rintro e w' ⟨rfl, hw⟩
  obtain rfl := hw.symm
  exact g
theorem nil_take (a : Value) : Calls Pg 16 ⟨[nilp, a]⟩ w (Rets (.tuple ⟨[I 0, I 35]⟩) w) := by
  apply ready_Queue_Take_calls; unfold ready_Queue_Take
  refine cal_rets (nil_best a) ?_
  simp only [ext0, ext1, pv_some, bin_neq, show decide ((35 : Int) ≠ 0) = true from rfl, cnd_true]; exact ⟨rfl, rfl⟩
theorem nil_priority (a : Value) : Calls Pg 14 ⟨[nilp, a]⟩ w (Rets (.tuple ⟨[I 0, I 35]⟩) w) := by
  apply ready_Queue_Priority_calls; unfold ready_Queue_Priority
  refine cal_rets (nil_has a _) ?_
  simp only [pv_some, bin_neq, show decide ((35 : Int) ≠ 0) = true from rfl, cnd_true]; exact ⟨rfl, rfl⟩
theorem nil_remove (a : Value) : Calls Pg 15 ⟨[nilp, a]⟩ w (Rets (I 35) w) := by
  apply ready_Queue_Remove_calls; unfold ready_Queue_Remove
  refine cal_rets (nil_has a _) ?_
  simp only [pv_some, bin_neq, show decide ((35 : Int) ≠ 0) = true from rfl, cnd_true]; exact ⟨rfl, rfl⟩
theorem nil_setp (a : Value) (p : Int) (c : Value) : Calls Pg 32 ⟨[nilp, a, I p, c]⟩ w (Rets (I 35) w) := by
  apply ready_Queue_SetPriority_calls; unfold ready_Queue_SetPriority
  refine cal_rets (isPriority_spec p) ?_
  refine cal_rets (nil_has a _) ?_
  simp only [pv_some, bin_neq, show decide ((35 : Int) ≠ 0) = true from rfl, cnd_true]; exact ⟨rfl, rfl⟩
theorem nil_setm (a : Value) (p : Int) : Calls Pg 34 ⟨[nilp, a, I p]⟩ w (Rets (I 35) w) := by
  apply ready_Queue_SetMask_calls; unfold ready_Queue_SetMask
  refine cal_rets (isMask_spec p) ?_
  refine cal_rets (nil_has a _) ?_
  simp only [pv_some, bin_neq, show decide ((35 : Int) ≠ 0) = true from rfl, cnd_true]; exact ⟨rfl, rfl⟩
theorem niR_add (a b c d : Value) : Calls Pg 30 ⟨[nilp, a, b, c, d]⟩ w (Rets (I 35) w) := by
  apply orpimentref02_Queue_Add_calls; unfold orpimentref02_Queue_Add; simp only [eqNil_none, pv_some, cnd_true]; exact ⟨rfl, rfl⟩
theorem niR_remove (a : Value) : Calls Pg 31 ⟨[nilp, a]⟩ w (Rets (I 35) w) := by
  apply orpimentref02_Queue_Remove_calls; unfold orpimentref02_Queue_Remove; simp only [eqNil_none, pv_some, cnd_true]; exact ⟨rfl, rfl⟩
theorem niR_setp (a b c : Value) : Calls Pg 33 ⟨[nilp, a, b, c]⟩ w (Rets (I 35) w) := by
  apply orpimentref02_Queue_SetPriority_calls; unfold orpimentref02_Queue_SetPriority; simp only [eqNil_none, pv_some, cnd_true]; exact ⟨rfl, rfl⟩
theorem niR_setm (a b : Value) : Calls Pg 35 ⟨[nilp, a, b]⟩ w (Rets (I 35) w) := by
  apply orpimentref02_Queue_SetMask_calls; unfold orpimentref02_Queue_SetMask; simp only [eqNil_none, pv_some, cnd_true]; exact ⟨rfl, rfl⟩
theorem niR_rotate (a : Value) : Calls Pg 36 ⟨[nilp, a]⟩ w (Rets (I 35) w) := by
  apply orpimentref02_Queue_Rotate_calls; unfold orpimentref02_Queue_Rotate; simp only [eqNil_none, pv_some, cnd_true]; exact ⟨rfl, rfl⟩
theorem niR_sel (a : Value) : Calls Pg 48 ⟨[nilp, a]⟩ w (Rets (.tuple ⟨[I 0, I 35]⟩) w) := by
  apply orpimentref02_Queue_best_calls; unfold orpimentref02_Queue_best; simp only [eqNil_none, pv_some, cnd_true]; exact ⟨rfl, rfl⟩
theorem niR_take (a : Value) : Calls Pg 37 ⟨[nilp, a]⟩ w (Rets (.tuple ⟨[I 0, I 35]⟩) w) := by
  apply orpimentref02_Queue_Take_calls; unfold orpimentref02_Queue_Take
  refine cal_rets (niR_sel a) ?_
  simp only [ext0, ext1, pv_some, bin_neq, show decide ((35 : Int) ≠ 0) = true from rfl, cnd_true]; exact ⟨rfl, rfl⟩
theorem niR_best (a : Value) : Calls Pg 38 ⟨[nilp, a]⟩ w (Rets (.tuple ⟨[I 0, I 35]⟩) w) := by
  apply orpimentref02_Queue_Best_calls; unfold orpimentref02_Queue_Best
  refine cal_rets (niR_sel a) ?_
  simp only [ext0, ext1, pv_some, bin_neq, show decide ((35 : Int) ≠ 0) = true from rfl, cnd_true]; exact ⟨rfl, rfl⟩
theorem niR_priority (a : Value) : Calls Pg 39 ⟨[nilp, a]⟩ w (Rets (.tuple ⟨[I 0, I 35]⟩) w) := by
  apply orpimentref02_Queue_Priority_calls; unfold orpimentref02_Queue_Priority; simp only [eqNil_none, pv_some, cnd_true]; exact ⟨rfl, rfl⟩
/-- Two pairs are compared. -/
theorem pair_end (a e c f : Int) (h1 : a = c) (h2 : e = f) (g : R (.returned (.bool true)) w) : (pv (bin .eql (I a) (I c)) fun v11 =>
  gd v11 true (pv (some (I e))) fun v12 =>
  gd v11 true (pv (some (I f))) fun v13 =>
  gd v11 true (pv (bin .eql v12 v13)) fun v14 =>
  pv (pickO v11 v14 (.bool false)) fun v15 =>
  R (.returned v15)) w := by
  subst h1; subst h2
  simp only [bin_eql, pv_some, decide_true, gd_yes, pick_true]; exact g
theorem change_nil (x : ActR) : Calls Pg 20 ⟨[nilp, nilp, x.val]⟩ w (Fin w) := by
  apply orpimentlaw02_change_calls
  unfold orpimentlaw02_change
  refine bx_blk fun w1 hb he hs => ?_
  have hb' : Blk w1 w.heap.size 27 x.cells := hb
  have hbd : Blk w1.drew w.heap.size 27 x.cells := hb
  have hed : Ext [] w w1.drew := he.trans (Ext.drew _ _)
  unfold orpimentlaw02_change_j2
  simp only [faO_mk, pv_some]
  refine ld1_blk hb' rfl ?_
  rw [bin_rem (by decide), pv_some]
  unfold orpimentlaw02_change_j3
  have hj4 : ∀ c : Bool, ∀ d : Int, (c = false → d ≠ 0 → d ≠ 1 → True) → orpimentlaw02_change_j4 (Fin w) nilp nilp (.pointer (some ⟨w.heap.size, 0, none⟩)) (.int .u8 d) (.bool c) w1 := by
    intro c d _
    unfold orpimentlaw02_change_j4
    cases c with
    | true =>
      rw [cnd_true]
      simp only [faO_mk, pv_some]
      unfold drewV mem
      refine ld1_blk hbd rfl ?_
      refine ld1_blk hbd rfl ?_
      refine ld1_blk hbd rfl ?_
      refine ld1_blk hbd rfl ?_
      refine cal_rets (nil_add _ _ _ _) ?_
      refine ld1S_blk1 hbd hbd rfl ?_
      refine ld1S_blk1 hbd hbd rfl ?_
      refine ld1S_blk1 hbd hbd rfl ?_
      refine ld1S_blk1 hbd hbd rfl ?_
      refine cal_rets (niR_add _ _ _ _) ?_
      simp only [bin_eql, pv_some, decide_true]
      exact ⟨by trivial, hed⟩
    | false =>
      rw [cnd_false, bin_eql, pv_some]
      refine cnd_decide (fun _ => ?_) (fun _ => ?_)
      · simp only [faO_mk, pv_some]
        unfold drewV mem
        refine ld1_blk hbd rfl ?_
        refine cal_rets (nil_remove _) ?_
        refine ld1S_blk1 hbd hbd rfl ?_
        refine cal_rets (niR_remove _) ?_
        simp only [bin_eql, pv_some, decide_true]
        exact ⟨by trivial, hed⟩
      rw [bin_eql, pv_some]
      refine cnd_decide (fun _ => ?_) (fun _ => ?_)
      · simp only [faO_mk, pv_some]
        unfold drewV mem
        refine ld1_blk hbd rfl ?_
        refine ld1_blk hbd rfl ?_
        refine ld1_blk hbd rfl ?_
        refine cal_rets (nil_setp _ _ _) ?_
        refine ld1S_blk1 hbd hbd rfl ?_
        refine ld1S_blk1 hbd hbd rfl ?_
        refine ld1S_blk1 hbd hbd rfl ?_
        refine cal_rets (niR_setp _ _ _) ?_
        simp only [bin_eql, pv_some, decide_true]
        exact ⟨by trivial, hed⟩
      rw [bin_eql, pv_some]
      refine cnd_decide (fun _ => ?_) (fun _ => ?_)
      · simp only [faO_mk, pv_some]
        unfold drewV mem
        refine ld1_blk hbd rfl ?_
        refine ld1_blk hbd rfl ?_
        refine cal_rets (nil_setm _ _) ?_
        refine ld1S_blk1 hbd hbd rfl ?_
        refine ld1S_blk1 hbd hbd rfl ?_
        refine cal_rets (niR_setm _ _) ?_
        simp only [bin_eql, pv_some, decide_true]
        exact ⟨by trivial, hed⟩
      rw [bin_eql, pv_some]
      refine cnd_decide (fun _ => ?_) (fun _ => ?_)
      · simp only [faO_mk, pv_some]
        unfold drewV mem
        refine ld1_blk hbd rfl ?_
        refine cal_rets (nil_rotate _) ?_
        refine ld1S_blk1 hbd hbd rfl ?_
        refine cal_rets (niR_rotate _) ?_
        simp only [bin_eql, pv_some, decide_true]
        exact ⟨by trivial, hed⟩
      rw [bin_eql, pv_some]
      refine cnd_decide (fun _ => ?_) (fun _ => ?_)
      · simp only [faO_mk, pv_some]
        refine ld1_blk hb' rfl ?_
        refine cal_rets (nil_take _) ?_
        simp only [ext0, ext1, pv_some]
        refine ld1_blk hb' rfl ?_
        refine cal_rets (niR_take _) ?_
        simp only [ext0, ext1, pv_some]
        refine pair_end _ _ _ _ rfl rfl ?_
        exact ⟨rfl, he⟩
      rw [bin_eql, pv_some]
      refine cnd_decide (fun _ => ?_) (fun _ => ?_)
      · simp only [faO_mk, pv_some]
        refine ld1_blk hb' rfl ?_
        refine cal_rets (nil_best _) ?_
        simp only [ext0, ext1, pv_some]
        refine ld1_blk hb' rfl ?_
        refine cal_rets (niR_best _) ?_
        simp only [ext0, ext1, pv_some]
        refine pair_end _ _ _ _ rfl rfl ?_
        exact ⟨rfl, he⟩
      unfold orpimentlaw02_change_j1
      simp only [faO_mk, pv_some]
      refine ld1_blk hb' rfl ?_
      refine cal_rets (nil_priority _) ?_
      simp only [ext0, ext1, pv_some]
      refine ld1_blk hb' rfl ?_
      refine cal_rets (niR_priority _) ?_
      simp only [ext0, ext1, pv_some]
      refine pair_end _ _ _ _ rfl rfl ?_
      exact ⟨rfl, he⟩
  rw [bin_eql, pv_some]
  by_cases h0 : x.d.tmod 9 = 0
  · rw [decide_eq_true h0, cnd_true]; exact hj4 _ _ (fun _ _ _ => trivial)
  · rw [decide_eq_false h0, cnd_false, bin_eql, pv_some]; exact hj4 _ _ (fun _ _ _ => trivial)
theorem ReadyNil_any (x : ActR) : Calls Pg 7 ⟨[x.val]⟩ w (Fin w) := by
  apply orpimentlaw02_ReadyNil_calls
  unfold orpimentlaw02_ReadyNil
  refine bx_blk fun w1 hb he hs => ?_
  refine ldN_blk (n := 6) (o := 0) hb (by simp [ActR.val, Value.cells, ActR.cells]) ?_
  rw [show (Value.agg (List.take 6 (List.drop 0 x.val.cells.toList)).toArray) = x.val from rfl]
  refine cal_of (change_nil x) ?_
  rintro e w2 ⟨rfl, he2⟩
  simp only [ret_k, gd_yes, pv_some]
  refine cal_rets nil_order ?_
  simp only [lenS_mk, pv_some, bin_eql, Int.ofNat_zero, show decide ((0 : Int) = 0) = true from rfl, pick_true, gd_yes]
  refine cal_rets nil_len ?_
  simp only [pv_some, bin_eql, show decide ((0 : Int) = 0) = true from rfl, pick_true, gd_yes]
  refine cal_rets nil_greatest ?_
  simp only [pv_some, bin_eql, show decide ((-1 : Int) = -1) = true from rfl, pick_true, gd_yes]
  refine cal_of awake_spec ?_
  rintro e w3 ⟨rfl, he3⟩
  simp only [ret_k, pick_true, pv_some]
  exact ⟨rfl, (he.trans he2).trans he3⟩
end
end Go.Proofs.Yticnobfmpogcoaa.Den
