/- The reference's queue: insert, delete and best. Conditions: none. -/
import Derived.Test.YticnobfmpogcoaaRdR1
set_option linter.unusedVariables false
set_option linter.unusedSimpArgs false
set_option maxRecDepth 8000
namespace Go.Proofs.Yticnobfmpogcoaa.Den
open Go Go.RowKit
/-- A slice of no elements, written out. -/
theorem build0_k {T el sz bts : Nat} {z : List Value} {w : World} {R : ER} {K : VK} (hT : ElT T el sz bts z)
    (k : ∀ w', Blk w' w.heap.size el [] → Ext [] w w' → w'.heap.size = w.heap.size + 1 → K (.slice (some ⟨w.heap.size, 0, none⟩) 0 0) w') :
    valV Pg R (Instr.buildSlice T 0 ⟨[]⟩) K w := by
  obtain ⟨i, zv, hi, hi1, hi2, hi3, hi4⟩ := hT.parts
  have hsz : szO Pg el = some sz := by simp [szO, hi, hi1]
  have hu := fun w => run_underlying' (P := Pg) (w := w) hT.under
  have hss := fun w => run_sizeOf' (P := Pg) (w := w) hsz
  have hrun : (Instr.buildSlice T 0 ⟨[]⟩).run Pg w = .ok (.slice (some ⟨w.heap.size, 0, none⟩) 0 0) (w.alloc (.cells #[] el)) := by
    unfold Instr.buildSlice
    rw [Sem.run_bind, hu]
    simp only [Result.andThen, Sem.run_bind, hss]
    rw [if_neg (by omega)]
    simp [Sem.run_bind, Sem.run_pure, Result.andThen, Instr.fill, newRow, newObj, Sem.run]
    rw [show (Array.range 0 : Array Nat) = #[] from by apply Array.ext'; simp]
    simp
  unfold valV
  rw [hrun]
  exact k _ (Blk.new w el #[]) (Ext.alloc _ _ _) (by simp)
section
variable {B b c : Nat} {w w' w'' w1 : World} {L : List Ent} {R : ER} {K : VK} {x : Ent}
def Ent.val (e : Ent) : Value := .agg e.vals.toArray
/-- One entry is appended to a slice of entries of the call's own. -/
theorem ent_app {w0 : World} {s : Value} {out : List Ent} {oo : Option Nat} {e : Ent} {ty : Nat} {cs : Array Bool} (h : SL w 63 3 s out.length (cellsL out) oo) (ho : Own w0 oo) (hlen : out.length ≤ 1000) (he : w0.heap.size ≤ w.heap.size)
    (k : ∀ s' w' oo', SL w' 63 3 s' (out ++ [e]).length (cellsL (out ++ [e])) oo' → Own w0 oo' → Ext oo.toList w w' → K s' w') :
    valV Pg R (Instr.buildSlice 39 1 ⟨[(0, e.val)]⟩) (fun v1 => blt Pg R .append ⟨[39, 39]⟩ ty cs ⟨[s, v1]⟩ K) w := by
  refine app1_k elEnt h rfl (fun c hc => ?_) (by omega) (by omega) (by omega) fun s' w' ob' g1 g2 g3 => ?_
  · simp only [Ent.val, Value.cells, Ent.vals, List.mem_cons, List.not_mem_nil, or_false] at hc
    rcases hc with rfl | rfl | rfl <;> rfl
  · refine k s' w' ob' ?_ (Own.step ho he g3) g2
    have e1 : cellsL out ++ e.val.cells.toList = cellsL (out ++ [e]) := by rw [cellsL_append, cellsL_cons, cellsL_nil]; simp [Ent.val, Value.cells]
    rw [e1] at g1; simpa using g1
theorem own_ext {w0 : World} {oo : Option Nat} (h : Ext [] w0 w) (ho : Own w0 oo) (h' : Ext oo.toList w w') : Ext [] w0 w' :=
  h.then h' (fun k hk _ => by cases hk) (fun k hk hl => by have := ho k (by simpa using hk); omega)
/-- An entry's cells, in a variable. -/
theorem ent_var (k : ∀ w', Blk w' w.heap.size 63 x.vals → Ext [] w w' → K (.pointer (some ⟨w.heap.size, 0, none⟩)) w') :
    al Pg 63 (fun v1 => stN 3 v1 x.val fun _ => K v1) w := by
  refine al_blk (z := .agg ⟨[I 0, I 0, I 0]⟩) (by kernel_rfl) fun w1 hb he hs => ?_
  refine stN_blk hb rfl (by simp [Value.cells]) ?_ fun w2 hb2 he2 => ?_
  · intro c hc
    simp only [Ent.vals, List.mem_cons, List.not_mem_nil, or_false] at hc
    rcases hc with rfl | rfl | rfl <;> rfl
  · refine k w2 ?_ (he.then he2 (fun k hk _ => by cases hk) (fun k hk hl => by simp at hk; omega))
    have e : lay (Value.cells (.agg ⟨[I 0, I 0, I 0]⟩)).toList 0 x.vals = x.vals := by simp [lay, Value.cells, Ent.vals]
    rw [e] at hb2; exact hb2
theorem ldE {bb : Nat} (h : Blk w bb 63 x.vals) (k : K x.val w) : ldN 3 (.pointer (some ⟨bb, 0, none⟩)) K w := ldN_blk (n := 3) (o := 0) h (by simp [Ent.vals]) k
theorem ins_true {y : Ent} {f : Bool} (h : y.p < x.p ∨ (f = true ∧ y.p = x.p)) (l : List Ent) : insertL x f (y :: l) = x :: y :: l := by simp only [insertL]; rw [if_pos h]
theorem ins_false {y : Ent} {f : Bool} (h : ¬ (y.p < x.p ∨ (f = true ∧ y.p = x.p))) (l : List Ent) : insertL x f (y :: l) = y :: insertL x f l := by simp only [insertL]; rw [if_neg h]
theorem insert_len (x : Ent) (f : Bool) (L : List Ent) : (insertL x f L).length = L.length + 1 := by rw [(insert_perm x f L).length_eq]; rfl
/-- The end of insert. -/
theorem insert_end {s6 : Value} {oo : Option Nat} {L' : List Ent} {w0 : World} (hrr : RR B b w0 c L) (he0 : Ext [] w0 w) (hs : SL w 63 3 s6 L'.length (cellsL L') oo) (ho : Own w0 oo) (hB : B ≤ w0.heap.size) (k : ∀ w', RR B b w' c L' → Fr B b w0 w' → R (.returned (.tuple ⟨[]⟩)) w') :
    orpimentref02_Queue_insert_j2 R (ptr c 0) s6 w := by
  obtain ⟨h1, h2, h3, s, ob, h4, h5, h6⟩ := hrr
  have hcl := h4.lt
  unfold orpimentref02_Queue_insert_j2
  simp only [nilO_ptr, faO_mk, pv_some]
  have hsc : scalar s6 = true := by
    cases oo with
    | none => obtain ⟨rfl, _⟩ := hs; rfl
    | some o => obtain ⟨_, _, rfl, _⟩ := hs; rfl
  refine st1_blk (h4.ext he0 (by simp)) (by simp) hsc fun w' hb' he' => ?_
  have hne : ∀ o, oo = some o → o ≠ c := fun o hoo e => by have := ho o hoo; omega
  refine k w' ⟨h1, h2, Nat.lt_of_lt_of_le h3 (Nat.le_trans he0.size he'.size), s6, oo, by simpa using hb', hs.ext he' (fun o hoo => by simpa using hne o hoo), fun o hoo => ⟨by have := ho o hoo; omega, by have := ho o hoo; omega, hne o hoo⟩⟩ ?_
  exact ⟨[c], he0.then he' (fun k hk _ => by cases hk) (fun k hk _ => hk), fun k hk => by simp at hk; subst hk; exact ⟨h1, h2⟩⟩
theorem insert_l {w0 : World} {f : Bool} {xb : Nat} (hL : L.length ≤ 300) (hrr : RR B b w0 c L) (hx : Blk w0 xb 63 x.vals) (hB : B ≤ w0.heap.size) (kk : ∀ w', RR B b w' c (insertL x f L) → Fr B b w0 w' → R (.returned (.tuple ⟨[]⟩)) w') :
    ∀ (k i : Nat) (w : World) (out : List Ent) (done : Bool) (s6 : Value) (oo : Option Nat), i + k = L.length + 1 → i ≤ L.length → Ext [] w0 w → SL w 63 3 s6 out.length (cellsL out) oo → Own w0 oo → out.length ≤ i + 1 →
      out ++ (if done then L.drop i else insertL x f (L.drop i)) = insertL x f L → orpimentref02_Queue_insert_l9 R k (ptr c 0) (.bool f) (ptr xb 0) s6 (.bool done) (I (i : Int)) w := by
  have hrr0 := hrr
  obtain ⟨h1, h2, h3, s, ob, h4, h5, h6⟩ := hrr
  intro k
  induction k with
  | zero => intro i w out done s6 oo hk hi; omega
  | succ k ih =>
    intro i w out done s6 oo hk hi he hs ho hol hinv
    rw [orpimentref02_Queue_insert_l9_succ]
    unfold orpimentref02_Queue_insert_b5
    simp only [nilO_ptr, faO_mk, pv_some]
    refine ld1_blk (h4.ext he (by simp)) rfl ?_
    rw [sl_len h5, pv_some, bin_lss, pv_some]
    refine cnd_decide (fun hc => ?_) (fun hc => ?_)
    · obtain ⟨y, hy⟩ : ∃ y, L[i]? = some y := ⟨_, List.getElem?_eq_getElem (by omega)⟩
      have hd : L.drop i = y :: L.drop (i + 1) := by rw [List.drop_eq_getElem_cons (by omega)]; congr 1; rw [List.getElem?_eq_getElem (by omega)] at hy; injection hy
      obtain ⟨o, l, hoo, hix, hb, hg, hle, htk⟩ := ent_at h5 rfl hy
      unfold orpimentref02_Queue_insert_j7
      simp only [nilO_ptr, faO_mk, pv_some]
      refine ld1_blk (h4.ext he (by simp)) rfl ?_
      rw [hix, pv_some]
      refine ldN_blk (hb.ext he (by simp)) hle ?_
      rw [htk]
      refine ent_var (x := y) fun w2 hv he2 => ?_
      have he' := he.trans he2
      have hs2 := hs.ext he2 (by simp)
      have hx2 := hx.ext he' (by simp)
      have step : ∀ (w3 : World) (out' : List Ent) (done' : Bool) (s' : Value) (oo' : Option Nat), Ext [] w0 w3 → Blk w3 w.heap.size 63 y.vals → SL w3 63 3 s' out'.length (cellsL out') oo' → Own w0 oo' → out'.length ≤ i + 1 →
          (out' ++ [y]) ++ (if done' then L.drop (i + 1) else insertL x f (L.drop (i + 1))) = insertL x f L →
          orpimentref02_Queue_insert_j8 R (orpimentref02_Queue_insert_l9 R k) (ptr c 0) (.bool f) (ptr xb 0) s' (.bool done') (I (i : Int)) (.pointer (some ⟨w.heap.size, 0, none⟩)) w3 := by
        intro w3 out' done' s' oo' e3 hv3 hs3 ho3 hl3 hi3
        unfold orpimentref02_Queue_insert_j8
        refine ldE hv3 ?_
        refine ent_app hs3 ho3 (by omega) e3.size fun s4 w4 oo4 hs4 ho4 he4 => ?_
        unfold orpimentref02_Queue_insert_j6
        rw [bin_add, pv_some, wrap64_id (by omega) (by omega)]
        refine ih (i + 1) w4 (out' ++ [y]) done' s4 oo4 (by omega) (by omega) (own_ext e3 ho3 he4) hs4 ho4 (by simp; omega) hi3
      cases done with
      | true =>
        simp only [if_true] at hinv
        simp only [not_bool, Bool.not_true, pv_some, gd_no, pick_false, cnd_false]
        refine step w2 out true s6 oo he' hv hs2 ho ?_ ?_
        · have := congrArg List.length hinv
          rw [List.length_append, insert_len, List.length_drop] at this; omega
        · rw [if_pos rfl, List.append_assoc, List.singleton_append, ← hd]; exact hinv
      | false =>
        simp only [Bool.false_eq_true, if_false] at hinv
        have hol' : out.length ≤ i := by
          have := congrArg List.length hinv
          rw [List.length_append, insert_len, insert_len, List.length_drop] at this; omega
        simp only [not_bool, Bool.not_false, pv_some, gd_yes, faO_mk]
        refine ld1_blk hv rfl ?_
        refine ld1_blk hx2 rfl ?_
        simp only [bin_lss, pv_some]
        have yes : (y.p < x.p ∨ (f = true ∧ y.p = x.p)) → (ldN 3 (ptr xb 0) fun v34 =>
   valV Pg R (Instr.buildSlice 39 1 ⟨[(0, v34)]⟩) fun v35 =>
   blt Pg R .append ⟨[39, 39]⟩ 39 ⟨[false, false]⟩ ⟨[s6, v35]⟩ fun v36 =>
   orpimentref02_Queue_insert_j8 R (orpimentref02_Queue_insert_l9 R k) (ptr c 0) (.bool f) (ptr xb 0) v36 (.bool true) (I (i : Int)) (.pointer (some ⟨w.heap.size, 0, none⟩))) w2 := by
          intro hcond
          refine ldE hx2 ?_
          refine ent_app hs2 ho (by omega) he'.size fun s4 w4 oo4 hs4 ho4 he4 => ?_
          have e4 := own_ext he' ho he4
          have hv4 : Blk w4 w.heap.size 63 y.vals := hv.ext he4 (fun hm => by
            have hsl := hs
            cases oo with
            | none => simp at hm
            | some o' => simp at hm; have := hs.lt; omega)
          refine step w4 (out ++ [x]) true s4 oo4 e4 hv4 hs4 ho4 (by simp; omega) ?_
          rw [if_pos rfl, List.append_assoc, List.append_assoc, List.singleton_append, List.singleton_append, ← hd]
          rw [hd, ins_true hcond, ← hd] at hinv
          exact hinv
        have no : ¬ (y.p < x.p ∨ (f = true ∧ y.p = x.p)) → orpimentref02_Queue_insert_j8 R (orpimentref02_Queue_insert_l9 R k) (ptr c 0) (.bool f) (ptr xb 0) s6 (.bool false) (I (i : Int)) (.pointer (some ⟨w.heap.size, 0, none⟩)) w2 := by
          intro hcond
          refine step w2 out false s6 oo he' hv hs2 ho (by omega) ?_
          rw [hd, ins_false hcond] at hinv
          simp only [Bool.false_eq_true, if_false, List.append_assoc, List.singleton_append]
          exact hinv
        by_cases hlt : y.p < x.p
        · rw [decide_eq_true (by omega : (y.p : Int) < (x.p : Int))]
          simp only [pv_some, gd_no', pick_true, cnd_true]
          exact yes (.inl hlt)
        · rw [decide_eq_false (by omega : ¬ (y.p : Int) < (x.p : Int))]
          simp only [pv_some, gd_yes']
          cases f with
          | false =>
            simp only [gd_no, pv_some, pick_false, pick_true, cnd_false]
            exact no (by simp [hlt])
          | true =>
            simp only [gd_yes, pv_some]
            refine ld1_blk hv rfl ?_
            refine ld1_blk hx2 rfl ?_
            simp only [bin_eql, pv_some, pick_true, pick_false]
            refine cnd_decide (fun he => yes (.inr ⟨rfl, by omega⟩)) (fun he => no (by simp; omega))
    · have : i = L.length := by omega
      subst this
      unfold orpimentref02_Queue_insert_j1
      rw [not_bool, pv_some]
      rw [List.drop_length] at hinv
      cases done with
      | true =>
        simp only [Bool.not_true, cnd_false]
        simp only [if_true, List.append_nil] at hinv
        subst hinv
        exact insert_end hrr0 he hs ho hB kk
      | false =>
        simp only [Bool.not_false, cnd_true]
        simp only [Bool.false_eq_true, if_false, show insertL x f [] = [x] from rfl] at hinv
        refine ldE (hx.ext he (by simp)) ?_
        refine ent_app hs ho (by omega) he.size fun s4 w4 oo4 hs4 ho4 he4 => ?_
        rw [hinv] at hs4
        exact insert_end hrr0 (own_ext he ho he4) hs4 ho4 hB kk
theorem rInsert (h : RR B b w c L) (hL : L.length ≤ 300) (f : Bool) : Calls Pg 45 ⟨[ptr c 0, x.val, .bool f]⟩ w fun e w' => e = .returned (.tuple ⟨[]⟩) ∧ RR B b w' c (insertL x f L) ∧ Fr B b w w' := by
  apply orpimentref02_Queue_insert_calls
  unfold orpimentref02_Queue_insert
  refine bx_blk fun w1 hb he hs => ?_
  unfold orpimentref02_Queue_insert_j3 orpimentref02_Queue_insert_j4
  have hB : B ≤ w1.heap.size := by obtain ⟨h1, _, _, s, ob, h4, _⟩ := h; have := h4.lt; have := he.size; omega
  refine ⟨L.length + 1, insert_l hL (h.ext he (by simp)) hb hB (fun w' g1 g2 => ⟨rfl, g1, (Fr.of he).trans g2⟩) (L.length + 1) 0 w1 [] false _ none (by omega) (by omega) (Ext.refl _ _) SL.nil (fun b hb => (nomatch hb)) (by simp) (by simp)⟩
end
end Go.Proofs.Yticnobfmpogcoaa.Den
