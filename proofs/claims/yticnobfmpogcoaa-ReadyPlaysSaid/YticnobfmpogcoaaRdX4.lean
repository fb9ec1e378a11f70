/- ReadyRotates: the plain laws and the walk. Conditions: none. -/
import Derived.Test.YticnobfmpogcoaaRdX3
set_option linter.unusedVariables false
set_option linter.unusedSimpArgs false
set_option maxRecDepth 8000
namespace Go.Proofs.Yticnobfmpogcoaa.Den
open Go Go.RowKit
theorem sorted_split {p : Nat} : ∀ {L : List Ent}, Sorted L → ∃ A B C, L = A ++ (B ++ C) ∧ (∀ e ∈ A, p < e.p) ∧ (∀ e ∈ B, e.p = p) ∧ (∀ e ∈ C, e.p < p)
  | [], _ => ⟨[], [], [], rfl, by simp, by simp, by simp⟩
  | y :: l, h => by
    have h1 := List.pairwise_cons.1 h
    obtain ⟨A, B, C, rfl, hA, hB, hC⟩ := sorted_split (p := p) h1.2
    have hy := h1.1
    rcases Nat.lt_trichotomy p y.p with hlt | heq | hgt
    · exact ⟨y :: A, B, C, rfl, List.forall_mem_cons.2 ⟨hlt, hA⟩, hB, hC⟩
    · have hA0 : A = [] := by
        cases A with
        | nil => rfl
        | cons a A => have := hA a (by simp); have := hy a (by simp); omega
      subst hA0
      exact ⟨[], y :: B, C, rfl, by simp, List.forall_mem_cons.2 ⟨heq.symm, hB⟩, hC⟩
    · have hA0 : A = [] := by
        cases A with
        | nil => rfl
        | cons a A => have := hA a (by simp); have := hy a (by simp); omega
      subst hA0
      have hB0 : B = [] := by
        cases B with
        | nil => rfl
        | cons a B => have := hB a (by simp); have := hy a (by simp); omega
      subst hB0
      exact ⟨[], [], y :: C, rfl, by simp, by simp, List.forall_mem_cons.2 ⟨hgt, hC⟩⟩
theorem insert_mid (x : Ent) (f : Bool) {D : List Ent} (hD : ∀ e ∈ D, e.p < x.p ∨ (f = true ∧ e.p = x.p)) : ∀ {A : List Ent}, (∀ e ∈ A, ¬ (e.p < x.p ∨ (f = true ∧ e.p = x.p))) → insertL x f (A ++ D) = A ++ x :: D
  | [], _ => by
    cases D with
    | nil => rfl
    | cons d D => simp only [List.nil_append, insertL]; rw [if_pos (hD d (by simp))]
  | a :: A, hA => by
    simp only [List.cons_append, insertL]
    rw [if_neg (hA a (by simp)), insert_mid x f hD (fun e he => hA e (by simp [he]))]
theorem erase_mid {x : Ent} {A D : List Ent} (h : ((A ++ x :: D).map (·.t)).Nodup) : eraseL x.t (A ++ x :: D) = A ++ D := by
  simp only [List.map_append, List.map_cons, List.nodup_append, List.nodup_cons, List.mem_map, not_exists, not_and, List.mem_cons] at h
  obtain ⟨_, ⟨h2, _⟩, h3⟩ := h
  unfold eraseL
  rw [List.filter_append, List.filter_cons_of_neg (by simp)]
  rw [List.filter_eq_self.2, List.filter_eq_self.2]
  · intro e he; have := h2 e he; simpa using this
  · intro e he
    have := h3 e.t ⟨e, he, rfl⟩ x.t (.inl rfl)
    simpa using this
theorem rot_mid {p : Nat} {x : Ent} {A B C : List Ent} (h : ((A ++ ((x :: B) ++ C)).map (·.t)).Nodup) (hA : ∀ e ∈ A, p < e.p) (hx : x.p = p) (hB : ∀ e ∈ B, e.p = p) (hC : ∀ e ∈ C, e.p < p) :
    rotL (A ++ ((x :: B) ++ C)) p = A ++ ((B ++ [x]) ++ C) := by
  have hf : (A ++ ((x :: B) ++ C)).find? (fun e => e.p == p) = some x := by
    rw [List.find?_append, List.find?_eq_none.2 (by intro e he; have := hA e he; simp; omega)]
    simp [hx]
  unfold rotL
  rw [hf]
  simp only [List.cons_append] at h ⊢
  rw [erase_mid h, ← List.append_assoc, insert_mid x false (D := C)]
  · simp
  · intro e he; exact .inl (by rw [hx]; exact hC e he)
  · intro e he
    rcases List.mem_append.1 he with he | he
    · have := hA e he; simp; omega
    · have := hB e he; simp; omega
theorem ring_mid {p : Nat} {A B C : List Ent} (hA : ∀ e ∈ A, p < e.p) (hB : ∀ e ∈ B, e.p = p) (hC : ∀ e ∈ C, e.p < p) : ring (A ++ (B ++ C)) p = B.map (·.t) := by
  unfold ring
  rw [List.filter_append, List.filter_append, List.filter_eq_nil_iff.2, List.filter_eq_self.2, List.filter_eq_nil_iff.2]
  · simp
  · intro e he; have := hC e he; simp; omega
  · intro e he; have := hB e he; simp [this]
  · intro e he; have := hA e he; simp; omega
/-- A thread is removed and added again. -/
theorem readd {A D : List Ent} {x : Ent} {f : Bool} (hg : Good (A ++ x :: D)) (h5 : x.m = 255) (hA : ∀ e ∈ A, ¬ (e.p < x.p ∨ (f = true ∧ e.p = x.p))) (hD : ∀ e ∈ D, e.p < x.p ∨ (f = true ∧ e.p = x.p)) :
    aRemove (A ++ x :: D) (x.t : Int) = (0, A ++ D) ∧ aAdd (A ++ D) (x.t : Int) (x.p : Int) 255 f = (0, A ++ x :: D) := by
  have hok := hg.ok x (by simp)
  constructor
  · unfold aRemove
    rw [has_mem hg (by simp), if_pos rfl, Int.toNat_natCast, erase_mid hg.nodup]
  · have h1 : isT (x.t : Int) = true := by simp only [isT, decide_eq_true_eq]; have := hok.1; omega
    have h2 : isT (x.p : Int) = true := by simp only [isT, decide_eq_true_eq]; have := hok.2.1; omega
    have h3 : inL (A ++ D) (x.t : Int) = false := by
      cases hi : inL (A ++ D) (x.t : Int) with
      | false => rfl
      | true =>
        obtain ⟨e, he, het⟩ := inL_iff.1 hi
        rw [← erase_mid hg.nodup] at he
        exact absurd het (mem_erase.1 he).2
    unfold aAdd
    rw [h1, h2, h3]
    simp only [show isM 255 = true from by decide, Bool.and_self, if_true, Bool.false_eq_true, if_false, Int.toNat_natCast]
    have e2 : (255 : Int).toNat = 255 := rfl
    have e3 : (⟨x.t, x.p, 255⟩ : Ent) = x := by rw [← h5]
    rw [e2, e3, insert_mid x f hD hA]
section
variable {w w0 : World} {b : Nat} {R : ER} {pr : Nat}
theorem rot_fin (he : Ext [] w0 w) : orpimentlaw02_ReadyRotates_j3 (Fin w0) w := by
  unfold orpimentlaw02_ReadyRotates_j3
  exact awake_fin he
/-- Order and Equal: the queue's threads are these. -/
theorem order_eq {L : List Ent} {s : Value} {n : Nat} {xs : List Int} {K : VK} (h : RQ w b L) (hs : Src w 1 s n (ints xs)) (hn : n < 2 ^ 60) (hx : xs = L.map fun e => (e.t : Int)) (k : ∀ w', Ext [] w w' → K (.bool true) w') :
    cal Pg R 11 ⟨[ptr b 0]⟩ (fun v1 => cal Pg R 13 ⟨[v1, s]⟩ K) w := by
  refine cal_of (Order_src h) ?_
  rintro e w1 ⟨s1, rfl, hs1, he1⟩
  simp only [ret_k]
  refine cal_of (Equal_spec hs1 (hs.ext he1) (by have := h.good.len; omega)) ?_
  rintro e w2 ⟨rfl, he2⟩
  simp only [ret_k, hx, decide_true]
  exact k w2 (he1.trans he2)
theorem rem_gd {L L' : List Ent} {t : Int} {K : VK} (h : RQ w b L) (hr : aRemove L t = (0, L')) (k : ∀ w', RQ w' b L' → Ext [b] w w' → K (I 0) w') : cal Pg R 15 ⟨[ptr b 0, I t]⟩ K w := by
  refine cal_of (Remove_spec h t (by have := h.good.len; omega)) ?_
  rw [hr]
  rintro e w1 ⟨rfl, hq, he⟩
  exact k w1 hq he
theorem add_gd {L L' : List Ent} {t p m : Int} {f : Bool} {K : VK} (h : RQ w b L) (hr : aAdd L t p m f = (0, L')) (k : ∀ w', RQ w' b L' → Ext [b] w w' → K (I 0) w') : cal Pg R 10 ⟨[ptr b 0, I t, I p, I m, .bool f]⟩ K w := by
  refine cal_of (Add_spec h t p m f (by have := h.good.len; omega)) ?_
  rw [hr]
  rintro e w1 ⟨rfl, hq, he⟩
  exact k w1 hq he
theorem prio_gd {L : List Ent} {x : Ent} {K : VK} (h : RQ w b L) (hx : x ∈ L) (k : K (.tuple ⟨[I (x.p : Int), I 0]⟩) w) : cal Pg R 14 ⟨[ptr b 0, I (x.t : Int)]⟩ K w := by
  refine cal_of (Prio_spec h (x.t : Int)) ?_
  rw [prio_mem h.good hx]
  rintro e w1 ⟨rfl, hw⟩
  obtain rfl := hw.symm
  exact k
theorem ends_first {x : Ent} {l : List Ent} (hg : Good (x :: l)) : ∀ e ∈ l, e.p < x.p ∨ (true = true ∧ e.p = x.p) := by
  intro e he
  have := (List.pairwise_cons.1 hg.sorted).1 e he
  by_cases h : e.p < x.p
  · exact .inl h
  · exact .inr ⟨rfl, by omega⟩
theorem ends_last {x : Ent} {D : List Ent} (hg : Good (D ++ [x])) : ∀ e ∈ D, ¬ (e.p < x.p ∨ (false = true ∧ e.p = x.p)) := by
  intro e he
  have := (List.pairwise_append.1 hg.sorted).2.2 e he x (by simp)
  simp; omega
theorem rot_end {L : List Ent} {s : Value} {ob : Option Nat} (h1 : pr < 256) (h : RQ w b L) (h5 : All255 L) (hs : SL w 3 1 s L.length (thr L) ob) (hob : ∀ o, ob = some o → o ≠ b) (hb : w0.heap.size ≤ b) (he : Ext [] w0 w) :
    orpimentlaw02_ReadyRotates_j2 (Fin w0) (.int .u8 pr) (ptr b 0) (I ((ring L pr).length : Int)) s w := by
  unfold orpimentlaw02_ReadyRotates_j2
  have hsrc : ∀ {w}, SL w 3 1 s L.length (thr L) ob → Src w 1 s L.length (ints (L.map fun e => (e.t : Int))) := fun h => by rw [← thr_ints]; exact h.toSrc
  have hg := h.good
  have hlen := hg.len
  refine order_eq h (hsrc hs) (by omega) rfl fun w1 he1 => ?_
  have hq1 := h.ext he1 (by simp)
  have hs1 := hs.ext he1 (by simp)
  have he' := he.trans he1
  simp only [not_bool, Bool.not_true, pv_some, gd_yes', bin_eql]
  suffices hrest : ∀ w2, RQ w2 b L → SL w2 3 1 s L.length (thr L) ob → Ext [] w0 w2 → (pv (lenS s) fun v15 => pv (bin .gtr v15 (.int .i64 0)) fun v16 => cnd v16 (
   drewV (
   pv (ixS 1 s (.int .i64 0)) fun v17 =>
   ld1 v17 fun v18 =>
   pv (lenS s) fun v19 =>
   pv (bin .sub v19 (.int .i64 1)) fun v20 =>
   pv (ixS 1 s v20) fun v21 =>
   ld1 v21 fun v22 =>
   cal Pg (Fin w0) 14 ⟨[ptr b 0, v18]⟩ fun v23 =>
   pv (extO 0 v23) fun v24 =>
   pv (extO 1 v23) fun v25 =>
   cal Pg (Fin w0) 15 ⟨[ptr b 0, v18]⟩ fun v26 =>
   pv (bin .neq v26 (.int .i64 0)) fun v27 =>
   gd v27 false (pv (some (ptr b 0))) fun v28 =>
   gd v27 false (pv (some v18)) fun v29 =>
   gd v27 false (pv (some v24)) fun v30 =>
   gd v27 false (cal Pg (Fin w0) 10 ⟨[v28, v29, v30, (.int .i64 255), (.bool true)]⟩) fun v31 =>
   gd v27 false (pv (bin .neq v31 (.int .i64 0))) fun v32 =>
   pv (pickO v27 (.bool true) v32) fun v33 =>
   gd v33 false (pv (some (ptr b 0))) fun v34 =>
   gd v33 false (cal Pg (Fin w0) 11 ⟨[v34]⟩) fun v35 =>
   gd v33 false (pv (some s)) fun v36 =>
   gd v33 false (cal Pg (Fin w0) 13 ⟨[v35, v36]⟩) fun v37 =>
   gd v33 false (pv (unO .not v37)) fun v38 =>
   pv (pickO v33 (.bool true) v38) fun v39 =>
   cnd v39 (
    (Fin w0) (.returned (.bool false))) (
    cal Pg (Fin w0) 14 ⟨[ptr b 0, v22]⟩ fun v40 =>
   pv (extO 0 v40) fun v41 =>
   pv (extO 1 v40) fun v42 =>
   cal Pg (Fin w0) 15 ⟨[ptr b 0, v22]⟩ fun v43 =>
   pv (bin .neq v43 (.int .i64 0)) fun v44 =>
   gd v44 false (pv (some (ptr b 0))) fun v45 =>
   gd v44 false (pv (some v22)) fun v46 =>
   gd v44 false (pv (some v41)) fun v47 =>
   gd v44 false (cal Pg (Fin w0) 10 ⟨[v45, v46, v47, (.int .i64 255), (.bool false)]⟩) fun v48 =>
   gd v44 false (pv (bin .neq v48 (.int .i64 0))) fun v49 =>
   pv (pickO v44 (.bool true) v49) fun v50 =>
   gd v50 false (pv (some (ptr b 0))) fun v51 =>
   gd v50 false (cal Pg (Fin w0) 11 ⟨[v51]⟩) fun v52 =>
   gd v50 false (pv (some s)) fun v53 =>
   gd v50 false (cal Pg (Fin w0) 13 ⟨[v52, v53]⟩) fun v54 =>
   gd v50 false (pv (unO .not v54)) fun v55 =>
   pv (pickO v50 (.bool true) v55) fun v56 =>
   cnd v56 (
    (Fin w0) (.returned (.bool false))) (
    orpimentlaw02_ReadyRotates_j3 (Fin w0))))) (
   orpimentlaw02_ReadyRotates_j3 (Fin w0))) w2 by
    by_cases hr : ring L pr = []
    · rw [show decide (((ring L pr).length : Int) = 0) = true from decide_eq_true (by simp [hr])]
      simp only [pv_some, gd_yes]
      rw [cv8 (by omega) (by omega)]
      simp only [pv_some]
      refine cal_of (Rotate_spec hq1 pr) ?_
      have hT : isT (pr : Int) = true := by simp only [isT, decide_eq_true_eq]; omega
      have hr2 : aRotate L (pr : Int) = (22, L) := by simp [aRotate, hT, hr]
      rw [hr2]
      rintro e w2 ⟨rfl, hq2, he2⟩
      simp only [ret_k, bin_neq, pv_some, ne_eq, not_true_eq_false, decide_false, gd_yes', pick_true, pick_false, cnd_false]
      exact hrest w2 hq2 (hs1.ext he2 (fun o ho => by simpa using hob o ho)) (own2 he' he2 hb)
    · rw [show decide (((ring L pr).length : Int) = 0) = false from decide_eq_false (by have := List.length_pos_iff.2 hr; omega)]
      simp only [pv_some, gd_no, pick_false, gd_yes', cnd_false]
      exact hrest w1 hq1 hs1 he'
  intro w2 hq2 hs2 he2
  rw [src_len (hsrc hs2), pv_some, bin_gtr, pv_some]
  refine cnd_decide (fun hc => ?_) (fun hc => rot_fin he2)
  cases hL : L with
  | nil => subst hL; simp at hc
  | cons x l =>
    subst hL
    obtain ⟨D, y, hDy⟩ : ∃ D y, x :: l = D ++ [y] := ⟨_, _, (List.dropLast_concat_getLast (l := x :: l) (by simp)).symm⟩
    have hDl : D.length = l.length := by have := congrArg List.length hDy; simpa using this.symm
    obtain ⟨f1, f2⟩ := readd (A := []) (D := l) (x := x) (f := true) hg (h5 x (by simp)) (by simp) (ends_first hg)
    simp only [List.nil_append] at f1 f2
    have hgD : Good (D ++ [y]) := by rw [← hDy]; exact hg
    obtain ⟨g1, g2⟩ := readd (A := D) (D := []) (x := y) (f := false) hgD (h5 y (by rw [hDy]; simp)) (ends_last hgD) (by simp)
    rw [← hDy] at g1 g2
    simp only [List.append_nil] at g1 g2
    unfold drewV
    have hq3 := hq2.ext (Ext.drew [] w2) (by simp)
    have hs3 := hs2.ext (Ext.drew [] w2) (by simp)
    have he3 := he2.trans (Ext.drew [] w2)
    refine src_at (i := 0) (v := (x.t : Int)) (hsrc hs3) (by simp) (by simp) ?_
    simp only [List.length_cons] at hlen
    rw [pv_some, bin_sub, pv_some, wrap64_id (by simp only [List.length_cons]; omega) (by simp only [List.length_cons]; omega), show (((x :: l).length : Nat) : Int) - 1 = ((l.length : Nat) : Int) from by simp]
    refine src_at (i := l.length) (v := (y.t : Int)) (hsrc hs3) (by simp) (by rw [hDy]; simp [← hDl]) ?_
    have hne : ∀ {w w' : World}, SL w 3 1 s (x :: l).length (thr (x :: l)) ob → Ext [b] w w' → SL w' 3 1 s (x :: l).length (thr (x :: l)) ob := fun h he => h.ext he (fun o ho => by simpa using hob o ho)
    refine prio_gd hq3 (by simp) ?_
    simp only [ext0, ext1, pv_some]
    refine rem_gd hq3 f1 fun w4 hq4 he4 => ?_
    simp only [bin_neq, pv_some, ne_eq, not_true_eq_false, decide_false, gd_yes']
    refine add_gd hq4 f2 fun w5 hq5 he5 => ?_
    simp only [bin_neq, pv_some, ne_eq, not_true_eq_false, decide_false, gd_yes', pick_false]
    have hs5 := hne (hne hs3 he4) he5
    have e5 := own2 (own2 he3 he4 hb) he5 hb
    refine order_eq hq5 (hsrc hs5) (by simp; omega) rfl fun w6 he6 => ?_
    simp only [not_bool, Bool.not_true, pv_some, pick_false, cnd_false]
    have hq6 := hq5.ext he6 (by simp)
    have hs6 := hs5.ext he6 (by simp)
    have e6 := e5.trans he6
    refine prio_gd hq6 (by rw [hDy]; simp) ?_
    simp only [ext0, ext1, pv_some]
    refine rem_gd hq6 g1 fun w7 hq7 he7 => ?_
    simp only [bin_neq, pv_some, ne_eq, not_true_eq_false, decide_false, gd_yes']
    refine add_gd hq7 g2 fun w8 hq8 he8 => ?_
    simp only [bin_neq, pv_some, ne_eq, not_true_eq_false, decide_false, gd_yes', pick_false]
    have hs8 := hne (hne hs6 he7) he8
    have e8 := own2 (own2 e6 he7 hb) he8 hb
    refine order_eq hq8 (hsrc hs8) (by simp; omega) rfl fun w9 he9 => ?_
    simp only [not_bool, Bool.not_true, pv_some, pick_false, cnd_false]
    exact rot_fin (e8.trans he9)
theorem rot_loop {A B C : List Ent} {s : Value} {ob : Option Nat} (h1 : pr < 256) (hA : ∀ e ∈ A, pr < e.p) (hB : ∀ e ∈ B, e.p = pr) (hC : ∀ e ∈ C, e.p < pr) (h5 : All255 (A ++ (B ++ C))) (hob : ∀ o, ob = some o → o ≠ b) (hb : w0.heap.size ≤ b) : ∀ (k i : Nat) (w : World), i + k = B.length + 1 → i ≤ B.length →
    RQ w b (A ++ ((B.drop i ++ B.take i) ++ C)) → SL w 3 1 s (A ++ (B ++ C)).length (thr (A ++ (B ++ C))) ob → Ext [] w0 w → orpimentlaw02_ReadyRotates_l7 (Fin w0) k (.int .u8 pr) (ptr b 0) (I (B.length : Int)) s (I (i : Int)) w := by
  intro k
  induction k with
  | zero => intro i w hk hi; omega
  | succ k ih =>
    intro i w hk hi h hs he
    rw [orpimentlaw02_ReadyRotates_l7_succ]
    unfold orpimentlaw02_ReadyRotates_b6
    rw [bin_lss, pv_some]
    refine cnd_decide (fun hc => ?_) (fun hc => ?_)
    · have hin : i < B.length := by omega
      have hd : B.drop i = B[i]'hin :: B.drop (i + 1) := List.drop_eq_getElem_cons hin
      have ht : B.take (i + 1) = B.take i ++ [B[i]'hin] := by rw [List.take_add_one, List.getElem?_eq_getElem hin]; rfl
      have hg := h.good
      rw [cv8 (by omega) (by omega), pv_some]
      refine cal_of (Rotate_spec h pr) ?_
      have hT : isT (pr : Int) = true := by simp only [isT, decide_eq_true_eq]; omega
      have hBi : ∀ e ∈ B.drop i ++ B.take i, e.p = pr := fun e he => by
        rcases List.mem_append.1 he with he | he
        · exact hB e (List.mem_of_mem_drop he)
        · exact hB e (List.mem_of_mem_take he)
      have hr0 : ring (A ++ ((B.drop i ++ B.take i) ++ C)) pr ≠ [] := by
        rw [ring_mid hA hBi hC, hd]; exact fun h => by cases h
      have hrot : rotL (A ++ ((B.drop i ++ B.take i) ++ C)) pr = A ++ ((B.drop (i + 1) ++ B.take (i + 1)) ++ C) := by
        rw [hd, List.cons_append] at hg hBi ⊢
        rw [rot_mid hg.nodup hA (hBi _ (by simp)) (fun e he => hBi e (List.mem_cons_of_mem _ he)) hC, ht]
        simp
      have hr2 : aRotate (A ++ ((B.drop i ++ B.take i) ++ C)) (pr : Int) = (0, A ++ ((B.drop (i + 1) ++ B.take (i + 1)) ++ C)) := by
        simp only [aRotate, hT, if_true, Int.toNat_natCast, hr0, if_false, hrot]
      rw [hr2]
      rintro e w1 ⟨rfl, hq, he1⟩
      simp only [ret_k, bin_neq, pv_some, ne_eq, not_true_eq_false, decide_false, cnd_false, bin_add]
      have hlen := hg.len
      simp only [List.length_append, List.length_drop, List.length_take] at hlen
      rw [wrap64_id (by omega) (by omega)]
      exact ih (i + 1) w1 (by omega) (by omega) hq (hs.ext he1 (fun o ho => by simpa using hob o ho)) (own2 he he1 hb)
    · have : i = B.length := by omega
      subst this
      rw [List.drop_length, List.take_length, List.nil_append] at h
      have := rot_end h1 h h5 hs hob hb he
      rw [ring_mid hA hB hC, List.length_map] at this
      exact this
theorem rot_in {x0 : Value} {xs : List ActR} (ha0 : Acts w0 x0 xs) (h1 : pr < 256) (hn : xs.length ≤ 60) (hb : w0.heap.size ≤ b) : ∀ (k i : Nat) (w : World) (L : List Ent), i + k = xs.length + 1 → i ≤ xs.length →
    RQ w b L → All255 L → Ext [] w0 w → orpimentlaw02_ReadyRotates_l12 (Fin w0) k x0 (.int .u8 pr) (ptr b 0) (I ((ring L pr).length : Int)) (I (i : Int)) w := by
  intro k
  induction k with
  | zero => intro i w L hk hi; omega
  | succ k ih =>
    intro i w L hk hi h h5 he
    have ha := ha0.ext he
    rw [orpimentlaw02_ReadyRotates_l12_succ]
    unfold orpimentlaw02_ReadyRotates_b10
    rw [ha.len, pv_some, bin_lss, pv_some]
    have hgl := h.good.len
    refine cnd_decide (fun hc => ?_) (fun hc => ?_)
    · obtain ⟨x, hx⟩ : ∃ x, xs[i]? = some x := ⟨_, List.getElem?_eq_getElem (by omega)⟩
      obtain ⟨a, hix, hcell⟩ := acts_at ha hx
      rw [hix, pv_some]
      refine ldN6_act hcell ?_
      refine act_var fun w1 hv he1 => ?_
      have hvb : w.heap.size ≠ b := by have := h.lt; omega
      have h' := h.ext he1 (by simp)
      have he' := he.trans he1
      simp only [faO_mk, pv_some]
      refine ld1_blk hv rfl ?_
      refine ld1_blk hv rfl ?_
      refine ld1_blk hv rfl ?_
      refine cal_of (Add_spec h' x.t x.p 255 x.f (by omega)) ?_
      rintro e w2 ⟨rfl, hq, he2⟩
      simp only [ret_k, bin_eql, pv_some]
      have e2 := own2 he' he2 hb
      have h52 := all_add h5 x.t x.p x.f
      have hlen2 : ((ring (aAdd L x.t x.p 255 x.f).2 pr).length : Int) = if (aAdd L x.t x.p 255 x.f).1 = 0 ∧ x.p = pr then ((ring L pr).length : Int) + 1 else (ring L pr).length := by
        by_cases hp : x.p = pr
        · rw [hp]
          unfold aAdd
          have hT : isT (pr : Int) = true := by simp only [isT, decide_eq_true_eq]; omega
          cases ht : isT x.t with
          | false => simp [ht]
          | true =>
            simp only [ht, hT, show isM 255 = true from by decide, Bool.and_self, if_true]
            split
            · simp
            · have := ring_insert_same ⟨x.t.toNat, ((pr : Int)).toNat, (255 : Int).toNat⟩ x.f L h.good.sorted
              simp only [Int.toNat_natCast] at this
              simp only [and_self, if_true, Int.toNat_natCast, this]
              split <;> simp
        · have := add_ne (L := L) x.t x.p x.f (pr := pr) hp
          have h2 := congrArg List.length this
          simp only [ringI, List.length_map] at h2
          rw [h2, if_neg (by simp [hp])]
      have hrl : (ring L pr).length ≤ L.length := by unfold ring; rw [List.length_map]; exact List.length_filter_le _ _
      have hv2 := hv.ext he2 (by simpa using hvb)
      by_cases h0 : (aAdd L x.t x.p 255 x.f).1 = 0
      · rw [decide_eq_true h0]
        simp only [gd_yes, pv_some]
        refine ld1_blk hv2 rfl ?_
        rw [cv8 (by omega) (by omega)]
        simp only [pv_some, bin_eql, pick_true]
        refine cnd_decide (fun hp => ?_) (fun hp => ?_)
        · rw [bin_add, pv_some, wrap64_id (by omega) (by omega)]
          unfold orpimentlaw02_ReadyRotates_j11
          rw [bin_add, pv_some, wrap64_id (by omega) (by omega)]
          rw [if_pos ⟨h0, hp⟩] at hlen2
          rw [← hlen2]
          exact ih (i + 1) w2 _ (by omega) (by omega) hq h52 e2
        · unfold orpimentlaw02_ReadyRotates_j11
          rw [bin_add, pv_some, wrap64_id (by omega) (by omega)]
          rw [if_neg (fun h => hp h.2)] at hlen2
          rw [← hlen2]
          exact ih (i + 1) w2 _ (by omega) (by omega) hq h52 e2
      · rw [decide_eq_false h0]
        simp only [gd_no, pick_false, pv_some, cnd_false]
        unfold orpimentlaw02_ReadyRotates_j11
        rw [bin_add, pv_some, wrap64_id (by omega) (by omega)]
        rw [if_neg (fun h => h0 h.1)] at hlen2
        rw [← hlen2]
        exact ih (i + 1) w2 _ (by omega) (by omega) hq h52 e2
    · unfold orpimentlaw02_ReadyRotates_j1
      refine cal_of (Order_spec h) ?_
      rintro e w1 ⟨s, ob, rfl, hs, he1, hob⟩
      simp only [ret_k]
      unfold orpimentlaw02_ReadyRotates_j4 orpimentlaw02_ReadyRotates_j5
      have hbl := h.lt
      obtain ⟨A, B, C, rfl, hA, hB, hC⟩ := sorted_split (p := pr) h.good.sorted
      rw [ring_mid hA hB hC, List.length_map]
      refine ⟨B.length + 1, rot_loop h1 hA hB hC h5 (fun o ho e => by have := hob o ho; omega) hb (B.length + 1) 0 w1 (by omega) (by omega) (by simpa using h.ext he1 (by simp)) hs (he.trans he1)⟩
theorem ReadyRotates_any {x0 : Value} {xs : List ActR} {pr : Int} (ha : Acts w0 x0 xs) (h0 : 0 ≤ pr) (h1 : pr < 256) : Calls Pg 3 ⟨[x0, .int .u8 pr]⟩ w0 (Fin w0) := by
  obtain ⟨n, rfl⟩ := Int.eq_ofNat_of_zero_le h0
  apply orpimentlaw02_ReadyRotates_calls
  unfold orpimentlaw02_ReadyRotates
  rw [ha.len, pv_some, bin_gtr, pv_some]
  refine cnd_decide (fun hc => awake_fin (Ext.refl _ _)) (fun hc => ?_)
  refine cal_of New_spec ?_
  rintro e w1 ⟨b, rfl, hq, he, hb⟩
  simp only [ret_k]
  unfold orpimentlaw02_ReadyRotates_j8 orpimentlaw02_ReadyRotates_j9
  exact ⟨xs.length + 1, rot_in (L := []) ha (by omega) (by omega) hb (xs.length + 1) 0 w1 (by omega) (by omega) hq all_nil he⟩
end
end Go.Proofs.Yticnobfmpogcoaa.Den
