/- That a call does what the denotation of its body asks. Conditions: none. -/
import Derived.Test.YticnobfmpogcoaaDenSound4
set_option linter.unusedVariables false
set_option linter.unusedSimpArgs false
namespace Go.Proofs.Yticnobfmpogcoaa.Den
open Go
section
variable {P : Program} {R : ER} {ops : Array Oper}

/-! ### what stands ahead -/
theorem befs_app : ∀ (l : List Oper) (acc : List Nat), ∃ t, befs l acc = acc ++ t ∧ t.length = l.length
  | [], acc => ⟨[], by simp [befs]⟩
  | o :: l, acc => by
    obtain ⟨t, h1, h2⟩ := befs_app l (acc ++ [befStep acc o])
    exact ⟨befStep acc o :: t, by simp [befs, h1], by simp [h2]⟩
theorem foldl_bit (acc : List Nat) (i : Nat) : ∀ (es : List Edge) (s : Nat), (es.foldl (fun s e => bif Region.binds .any e then s ||| 2 ^ e.on ||| acc.getD e.on 0 else s) s).testBit i = true →
    s.testBit i = true ∨ ∃ e ∈ es, Region.binds .any e = true ∧ (e.on = i ∨ (acc.getD e.on 0).testBit i = true)
  | [], s, h => .inl h
  | e :: es, s, h => by
    rcases foldl_bit acc i es _ h with h1 | ⟨e', he', hb, h1⟩
    · dsimp only at h1
      cases hb : Region.binds .any e with
      | false => rw [hb] at h1; exact .inl h1
      | true =>
        rw [hb] at h1
        simp only [cond_true, Nat.testBit_or, Bool.or_eq_true] at h1
        rcases h1 with (h1 | h1) | h1
        · exact .inl h1
        · rw [Nat.testBit_two_pow] at h1
          exact .inr ⟨e, List.mem_cons_self .., hb, .inl (by simpa using h1)⟩
        · exact .inr ⟨e, List.mem_cons_self .., hb, .inr h1⟩
    · exact .inr ⟨e', List.mem_cons_of_mem _ he', hb, h1⟩
theorem befs_at : ∀ (l : List Oper) (acc : List Nat) (j : Nat) (o : Oper), l[j]? = some o → ∃ pre t, befs l acc = pre ++ befStep pre o :: t ∧ pre.length = acc.length + j
  | o' :: l, acc, 0, o, h => by
    simp only [List.getElem?_cons_zero, Option.some.injEq] at h; subst h
    obtain ⟨t, h1, _⟩ := befs_app l (acc ++ [befStep acc o'])
    exact ⟨acc, t, by simp [befs, h1], rfl⟩
  | o' :: l, acc, j + 1, o, h => by
    simp only [List.getElem?_cons_succ] at h
    obtain ⟨pre, t, h1, h2⟩ := befs_at l (acc ++ [befStep acc o']) j o h
    exact ⟨pre, t, by simp [befs, h1], by simp at h2; omega⟩
  | [], _, _, _, h => by simp at h
theorem ordd_spec {i j : Nat} {o : Oper} (hj : ops[j]? = some o) (hback : ∀ e ∈ o.after, Region.binds .any e = true → e.on < j)
    (h : ordd (befs ops.toList []) i j = true) : ∃ e ∈ o.after, Region.binds .any e = true ∧ (e.on = i ∨ ordd (befs ops.toList []) i e.on = true) := by
  obtain ⟨pre, t, h1, h2⟩ := befs_at ops.toList [] j o (by simpa using hj)
  simp only [List.length_nil, Nat.zero_add] at h2
  unfold ordd at h
  have hg : (befs ops.toList []).getD j 0 = befStep pre o := by
    rw [h1, List.getD_eq_getElem?_getD, List.getElem?_append_right (by omega)]
    simp [h2]
  rw [hg] at h
  rcases foldl_bit pre i o.after.toList 0 h with h0 | ⟨e, he, hb, h3⟩
  · simp at h0
  · refine ⟨e, by simpa using he, hb, ?_⟩
    rcases h3 with h3 | h3
    · exact .inl h3
    · refine .inr ?_
      unfold ordd
      have hlt := hback e (by simpa using he) hb
      have : (befs ops.toList []).getD e.on 0 = pre.getD e.on 0 := by
        rw [h1, List.getD_eq_getElem?_getD, List.getElem?_append_left (by omega), List.getD_eq_getElem?_getD]
      rw [this]; exact h3
/-- What is listed holds with each operation all that stands ahead of it. -/
def Closed (ops : Array Oper) (listed : Array Bool) : Prop := ∀ (k : Nat) (o : Oper), ops[k]? = some o → listed.getD k false = true → ∀ e ∈ o.after, Region.binds .any e = true → listed.getD e.on false = true
theorem ahead_listed (hback : ∀ (j : Nat) (o : Oper), ops[j]? = some o → ∀ e ∈ o.after, Region.binds .any e = true → e.on < j) {listed : Array Bool} (hc : Closed ops listed) {i : Nat} :
    ∀ (j : Nat) (o : Oper), ops[j]? = some o → (∀ e ∈ o.after, Region.binds .any e = true → listed.getD e.on false = true) → ordd (befs ops.toList []) i j = true → listed.getD i false = true := by
  intro j
  induction j using Nat.strongRecOn with
  | _ j ih =>
    intro o ho hall h
    obtain ⟨e, he, hb, h1⟩ := ordd_spec ho (hback j o ho) h
    rcases h1 with h1 | h1
    · subst h1; exact hall e he hb
    · have hl := hall e he hb
      cases ho' : ops[e.on]? with
      | none =>
        exfalso
        have := hback j o ho e he hb
        have hj := (Array.getElem?_eq_some_iff.1 ho).1
        simp at ho'; omega
      | some o' => exact ih e.on (hback j o ho e he hb) o' ho' (fun e' he' hb' => hc e.on o' ho' hl e' he' hb') h1
/-! ### any order -/
def dAny (P : Program) (R : ER) (ops : Array Oper) (K : Env → WP) : Nat → Array Bool → Hist → Env → WP
  | 0, listed, _, e => fun w => Region.ready .any ops listed = [] ∧ K e w
  | n + 1, listed, h, e => fun w => (Region.ready .any ops listed = [] → K e w) ∧
      ∀ i ∈ Region.ready .any ops listed, ∀ o, ops[i]? = some o → dOp P R ops (befs ops.toList []) i o (fun h' e' => dAny P R ops K n (listed.setIfInBounds i true) h' e') h e w
def pairOk (P : Program) (ops : Array Oper) (L : List Nat) (i j : Nat) : Bool := match ops[i]?, ops[j]? with
  | some oi, some oj => ordd L i j || (oi.apart ops oj && (isPure P oi || isPure P oj || isLoad oj))
  | _, _ => true
def edgesBack (ops : Array Oper) (j : Nat) : Bool := match ops[j]? with
  | some o => o.after.toList.all fun e => !Region.binds .any e || decide (e.on < j)
  | none => true
def calmL (P : Program) (ops : Array Oper) (L : List Nat) : Bool :=
  Region.noSelect ops && (List.range ops.size).all fun j => edgesBack ops j && (List.range j).all fun i => pairOk P ops L i j
/-- May the region be read in the order of its text? -/
def calm (P : Program) (ops : Array Oper) : Bool := calmL P ops (befs ops.toList [])
theorem Closed_set {listed : Array Bool} (hc : Closed ops listed) {j : Nat} {oj : Oper} (hj : ops[j]? = some oj) (hall : ∀ e ∈ oj.after, Region.binds .any e = true → listed.getD e.on false = true) :
    Closed ops (listed.setIfInBounds j true) := by
  intro k o ho hl e he hb
  by_cases hkj : k = j
  · subst hkj; rw [hj] at ho; injection ho with ho; subst ho; exact getD_set_true (hall e he hb)
  · rw [getD_set_ne false (Ne.symm hkj)] at hl; exact getD_set_true (hc k o ho hl e he hb)
theorem dAny_first (hns : Region.noSelect ops = true) (hback : ∀ (j : Nat) (o : Oper), ops[j]? = some o → ∀ e ∈ o.after, Region.binds .any e = true → e.on < j) {K : Env → WP} {i : Nat} {oi : Oper} (hi : ops[i]? = some oi) : ∀ (fuel : Nat) (listed : Array Bool) (h : Hist) (e : Env) (w : World),
    (∀ j, j ≠ i → listed.getD j true = false → j < ops.size → i < j ∧ pairOk P ops (befs ops.toList []) i j = true) →
    Closed ops listed → i ∈ Region.ready .any ops listed →
    dOp P noR ops (befs ops.toList []) i oi (fun h' e' => dAny P noR ops K fuel (listed.setIfInBounds i true) h' e') h e w → dAny P noR ops K (fuel + 1) listed h e w := by
  intro fuel
  induction fuel with
  | zero =>
    intro listed h e w _ hcl hr H
    refine ⟨fun q => (by rw [q] at hr; cases hr), fun j hj oj hoj => ?_⟩
    by_cases hji : j = i
    · subst hji; rw [hi] at hoj; injection hoj with hoj; subst hoj; exact H
    · have hm := ready_mono hj hji
      -- no order is left after i, but j is ready there
      exfalso
      have hno : ∀ h' e' w', dAny P noR ops K 0 (listed.setIfInBounds i true) h' e' w' → False := fun h' e' w' q => by
        have q1 := q.1; rw [q1] at hm; cases hm
      have H' := dOp_mono (K' := fun _ _ _ => False) (fun h' e' w' q => hno h' e' w' q) H
      exact dOp_false H'
  | succ fuel ih =>
    intro listed h e w hfree hcl hr H
    refine ⟨fun q => (by rw [q] at hr; cases hr), fun j hj oj hoj => ?_⟩
    by_cases hji : j = i
    · subst hji; rw [hi] at hoj; injection hoj with hoj; subst hoj; exact H
    · have hm := ready_mono hj hji
      obtain ⟨hjun, oj', hoj', hall⟩ := mem_ready.1 hj
      rw [hoj] at hoj'; injection hoj' with hoj'; subst hoj'
      have hjlt : j < ops.size := (Array.getElem?_eq_some_iff.1 hoj).1
      have hd : ordd (befs ops.toList []) i j = false := by
        cases hdd : ordd (befs ops.toList []) i j with
        | false => rfl
        | true =>
          exfalso
          have h1 := ahead_listed hback hcl j oj hoj hall hdd
          have h0 := (mem_ready.1 hr).1
          rcases Nat.lt_or_ge i listed.size with h' | h'
          · simp [h'] at h0 h1; rw [h0] at h1; cases h1
          · simp [Array.getElem?_eq_none h'] at h1
      obtain ⟨hlt, hp⟩ := hfree j hji hjun hjlt
      simp only [pairOk, hi, hoj, hd, Bool.false_or, Bool.and_eq_true, Bool.or_eq_true] at hp
      have H1 := dOp_mono (K' := fun h1 e1 => dOp P noR ops (befs ops.toList []) j oj (fun h' e' => dAny P noR ops K fuel ((listed.setIfInBounds i true).setIfInBounds j true) h' e') h1 e1)
        (fun h' e' w' q => q.2 j hm oj hoj) H
      have H2 := dOp_swap hp.1 (fun cs b => Region.noSelect_spec hns i oi cs b hi) (fun cs b => Region.noSelect_spec hns j oj cs b hoj) hd (by rcases hp.2 with (q | q) | q <;> simp [q]) H1
      refine dOp_mono (fun h' e' w' q => ?_) H2
      refine ih (listed.setIfInBounds j true) h' e' w' ?_ ?_ (ready_mono hr (Ne.symm hji)) ?_
      · intro k hki hun hk
        refine hfree k hki ?_ hk
        by_cases hjk : j = k
        · subst hjk; exact hjun
        · rw [getD_set_ne true hjk] at hun; exact hun
      · exact Closed_set hcl hoj hall
      · rw [Array.setIfInBounds_comm _ _ hji]; exact q
theorem closed_prefix (hback : ∀ (j : Nat) (o : Oper), ops[j]? = some o → ∀ e ∈ o.after, Region.binds .any e = true → e.on < j) {listed : Array Bool} {k : Nat}
    (hlist : ∀ j, j < ops.size → listed[j]? = some (decide (j < k))) : Closed ops listed := by
  intro j o ho hl e he hb
  have hj := (Array.getElem?_eq_some_iff.1 ho).1
  have hlt := hback j o ho e he hb
  have h1 := hlist j hj
  have h2 := hlist e.on (by omega)
  simp only [Array.getD_eq_getD_getElem?, h1, Option.getD_some, decide_eq_true_eq] at hl
  simp only [Array.getD_eq_getD_getElem?, h2, Option.getD_some, decide_eq_true_eq]; omega
theorem denD_any (hns : Region.noSelect ops = true) (hback : ∀ (j : Nat) (o : Oper), ops[j]? = some o → ∀ e ∈ o.after, Region.binds .any e = true → e.on < j) {K : Env → WP} : ∀ (l : List Oper) (k : Nat) (listed : Array Bool) (h : Hist) (e : Env) (w : World),
    (∀ j, l[j]? = ops[k + j]?) → k + l.length = ops.size → listed.size = ops.size →
    (∀ j, j < ops.size → listed[j]? = some (decide (j < k))) →
    (∀ j, j < ops.size → edgesBack ops j = true ∧ ∀ i, i < j → pairOk P ops (befs ops.toList []) i j = true) →
    denD P noR ops (befs ops.toList []) k l h e K w → dAny P noR ops K l.length listed h e w
  | [], k, listed, h, e, w, hl, hk, hsz, hlist, hc, hh => by
    refine ⟨?_, hh⟩
    cases hr : Region.ready .any ops listed with
    | nil => rfl
    | cons j r =>
      have hj : j ∈ Region.ready .any ops listed := by rw [hr]; exact List.mem_cons_self ..
      obtain ⟨hun, oj, hoj, _⟩ := mem_ready.1 hj
      have hlt := (Array.getElem?_eq_some_iff.1 hoj).1
      have := hlist j hlt
      simp at hk
      simp only [Array.getD_eq_getD_getElem?, this, Option.getD_some] at hun
      simp at hun; omega
  | o :: l, k, listed, h, e, w, hl, hk, hsz, hlist, hc, hh => by
    have h0 : ops[k]? = some o := by simpa using (hl 0).symm
    have hklt : k < ops.size := (Array.getElem?_eq_some_iff.1 h0).1
    simp only [denD] at hh
    refine dAny_first hns hback h0 l.length listed h e w ?_ ?_ ?_ ?_
    · intro j hjk hun hj
      have := hlist j hj
      simp only [Array.getD_eq_getD_getElem?, this, Option.getD_some] at hun
      simp at hun
      exact ⟨by omega, (hc j hj).2 k (by omega)⟩
    · exact closed_prefix hback hlist
    · refine mem_ready.2 ⟨?_, o, h0, fun ed he hb => ?_⟩
      · have := hlist k hklt
        simp only [Array.getD_eq_getD_getElem?, this, Option.getD_some]; simp
      · have hb' := (hc k hklt).1
        simp only [edgesBack, h0, List.all_eq_true] at hb'
        have := hb' ed (by simpa using he)
        simp only [hb, Bool.not_true, Bool.false_or, decide_eq_true_eq] at this
        have h2 := hlist ed.on (by omega)
        simp only [Array.getD_eq_getD_getElem?, h2, Option.getD_some]; simpa using this
    · refine dOp_mono (fun h' e' w' q => ?_) hh
      refine denD_any hns hback l (k + 1) _ h' e' w' ?_ ?_ (by simpa using hsz) ?_ hc q
      · intro j; have := hl (j + 1); simpa [Nat.add_assoc, Nat.add_comm 1 j] using this
      · simp at hk; omega
      · intro j hj
        rw [Array.getElem?_setIfInBounds]
        split
        · rename_i hkj; subst hkj; simp [hsz, hj]
        · rename_i hkj; rw [hlist j hj]; congr 1; simp; omega
theorem calm_any (hc : calm P ops = true) {K : Env → WP} {e : Env} {w : World} (hh : denD P noR ops (befs ops.toList []) 0 ops.toList [] e K w) :
    dAny P noR ops K ops.size (Array.replicate ops.size false) [] e w := by
  simp only [calm, calmL, Bool.and_eq_true, List.all_eq_true, List.mem_range] at hc
  have hback : ∀ (j : Nat) (o : Oper), ops[j]? = some o → ∀ e ∈ o.after, Region.binds .any e = true → e.on < j := by
    intro j o ho e he hb
    have := (hc.2 j (Array.getElem?_eq_some_iff.1 ho).1).1
    simp only [edgesBack, ho, List.all_eq_true] at this
    have := this e (by simpa using he)
    simpa [hb] using this
  have := denD_any hc.1 hback ops.toList 0 (Array.replicate ops.size false) [] e w (by simp) (by simp) (by simp) (by intro j hj; simp [hj]) (fun j hj => ⟨(hc.2 j hj).1, (hc.2 j hj).2⟩) hh
  simpa using this
end
end Go.Proofs.Yticnobfmpogcoaa.Den
