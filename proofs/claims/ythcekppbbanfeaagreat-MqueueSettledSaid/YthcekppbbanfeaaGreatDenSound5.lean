/- That a call does what the denotation of its body asks. Conditions: none. -/
import Derived.Test.YthcekppbbanfeaaGreatDenSound4
set_option linter.unusedVariables false
set_option linter.unusedSimpArgs false
namespace Go.Proofs.YthcekppbbanfeaaGreat.Den
open Go
section
variable {P : Program} {R : ER} {ops : Array Oper}

/-! ### what stands ahead -/
theorem befs_app : ∀ (l : List Oper) (acc : List Nat), ∃ t, befs l acc = acc ++ t ∧ t.length = l.length
  | [], acc => ⟨[], by simp [befs]⟩
  | o :: l, acc => by
    obtain ⟨t, h1, h2⟩ := befs_app l (acc ++ [befStep acc o])
    exact ⟨befStep acc o :: t, by simp [befs, h1], by simp [h2]⟩
theorem foldl_bit (acc : List Nat) (i : Nat) : ∀ (es : List Edge) (s : Nat), (es.foldl (fun s e => bif Region.binds .any e then s ||| 2 ^ e.on ||| acc.getD e.on 0 else s) s).testBit i = true →
    s.testBit i = true ∨ ∃ e ∈ es, Region.binds .any e = true ∧ (e.on = i ∨ (acc.getD e.on 0).testBit i = true)
  | [], s, h => .inl h
  | e :: es, s, h => by
    rcases foldl_bit acc i es _ h with h1 | ⟨e', he', hb, h1⟩
    · dsimp only at h1
      cases hb : Region.binds .any e with
      | false => rw [hb] at h1; exact .inl h1
      | true =>
        rw [hb] at h1
        simp only [cond_true, Nat.testBit_or, Bool.or_eq_true] at h1
        rcases h1 with (h1 | h1) | h1
        · exact .inl h1
        · rw [Nat.testBit_two_pow] at h1
          exact .inr ⟨e, List.mem_cons_self .., hb, .inl (by simpa using h1)⟩
        · exact .inr ⟨e, List.mem_cons_self .., hb, .inr h1⟩
    · exact .inr ⟨e', List.mem_cons_of_mem _ he', hb, h1⟩
theorem befs_at : ∀ (l : List Oper) (acc : List Nat) (j : Nat) (o : Oper), l[j]? = some o → ∃ pre t, befs l acc = pre ++ befStep pre o :: t ∧ pre.length = acc.length + j
  | o' :: l, acc, 0, o, h => by
    simp only [List.getElem?_cons_zero, Option.some.injEq] at h; subst h
    obtain ⟨t, h1, _⟩ := befs_app l (acc ++ [befStep acc o'])
    exact ⟨acc, t, by simp [befs, h1], rfl⟩
  | o' :: l, acc, j + 1, o, h => by
    simp only [List.getElem?_cons_succ] at h
    obtain ⟨pre, t, h1, h2⟩ := befs_at l (acc ++ [befStep acc o']) j o h
    exact ⟨pre, t, by simp [befs, h1], by simp at h2; omega⟩
  | [], _, _, _, h => by simp at h
theorem ordd_spec {i j : Nat} {o : Oper} (hj : ops[j]? = some o) (hback : ∀ e ∈ o.after, Region.binds .any e = true → e.on < j)
    (h : ordd (befs ops.toList []) i j = true) : ∃ e ∈ o.after, Region.binds .any e = true ∧ (e.on = i ∨ ordd (befs ops.toList []) i e.on = true) := by
  obtain ⟨pre, t, h1, h2⟩ := befs_at ops.toList [] j o (by simpa using hj)
  simp only [List.length_nil, Nat.zero_add] at h2
  unfold ordd at h
  have hg : (befs ops.toList []).getD j 0 = befStep pre o := by
    rw [h1, List.getD_eq_getElem?_getD, List.getElem?_append_right (by omega)]
    simp [h2]
  rw [hg] at h
  rcases foldl_bit pre i o.after.toList 0 h with h0 | ⟨e, he, hb, h3⟩
  · simp at h0
  · refine ⟨e, by simpa using he, hb, ?_⟩
    rcases h3 with h3 | h3
    · exact .inl h3
    · refine .inr ?_
      unfold ordd
      have hlt := hback e (by simpa using he) hb
      have : (befs ops.toList []).getD e.on 0 = pre.getD e.on 0 := by
        rw [h1, List.getD_eq_getElem?_getD, List.getElem?_append_left (by omega), List.getD_eq_getElem?_getD]
      rw [this]; exact h3
/-- What is listed holds with each operation all that stands ahead of it. -/
def Closed (ops : Array Oper) (listed : Array Bool) : Prop := ∀ (k : Nat) (o : Oper), ops[k]? = some o → listed.getD k false = true → ∀ e ∈ o.after, Region.binds .any e = true → listed.getD e.on false = true
theorem ahead_listed (hback : ∀ (j : Nat) (o : Oper), ops[j]? = some o → ∀ e ∈ o.after, Region.binds .any e = true → e.on < j) {listed : Array Bool} (hc : Closed ops listed) {i : Nat} :
    ∀ (j : Nat) (o : Oper), ops[j]? = some o → (∀ e ∈ o.after, Region.binds .any e = true → listed.getD e.on false = true) → ordd (befs ops.toList []) i j = true → listed.getD i false = true := by
  intro j
  induction j using Nat.strongRecOn with
  | _ j ih =>
    intro o ho hall h
    obtain ⟨e, he, hb, h1⟩ := ordd_spec ho (hback j o ho) h
    rcases h1 with h1 | h1
    · subst h1; exact hall e he hb
    · have hl := hall e he hb
      cases ho' : ops[e.on]? with
      | none =>
        exfalso
        have := hback j o ho e he hb
        have hj := (Array.getElem?_eq_some_iff.1 ho).1
        simp at ho'; omega
      | some o' => exact ih e.on (hback j o ho e he hb) o' ho' (fun e' he' hb' => hc e.on o' ho' hl e' he' hb') h1
/-! ### any order -/
def dAny (P : Program) (R : ER) (ops : Array Oper) (K : Env → WP) : Nat → Array Bool → Hist → Env → WP
  | 0, listed, _, e => fun w => Region.ready .any ops listed = [] ∧ K e w
  | n + 1, listed, h, e => fun w => (Region.ready .any ops listed = [] → K e w) ∧
      ∀ i ∈ Region.ready .any ops listed, ∀ o, ops[i]? = some o → dOp P R ops (befs ops.toList []) i o (fun h' e' => dAny P R ops K n (listed.setIfInBounds i true) h' e') h e w
theorem dAny_hist (K : Env → WP) : ∀ (n : Nat) (listed : Array Bool) (h h' : Hist) (e : Env) (w : World), (∀ x, x ∈ h' ↔ x ∈ h) → dAny P R ops K n listed h e w → dAny P R ops K n listed h' e w
  | 0, _, _, _, _, _, _, q => q
  | n + 1, listed, h, h', e, w, hh, q => ⟨q.1, fun i hi o ho => dOp_hist hh (fun x e w q => dAny_hist K n _ _ _ e w (by intro y; simp only [List.mem_cons, hh]) q) (fun e w q => dAny_hist K n _ _ _ e w hh q) (q.2 i hi o ho)⟩
theorem Closed_set {listed : Array Bool} (hc : Closed ops listed) {j : Nat} {oj : Oper} (hj : ops[j]? = some oj) (hall : ∀ e ∈ oj.after, Region.binds .any e = true → listed.getD e.on false = true) :
    Closed ops (listed.setIfInBounds j true) := by
  intro k o ho hl e he hb
  by_cases hkj : k = j
  · subst hkj; rw [hj] at ho; injection ho with ho; subst ho; exact getD_set_true (hall e he hb)
  · rw [getD_set_ne false (Ne.symm hkj)] at hl; exact getD_set_true (hc k o ho hl e he hb)
theorem not_ahead (hback : ∀ (j : Nat) (o : Oper), ops[j]? = some o → ∀ e ∈ o.after, Region.binds .any e = true → e.on < j) {listed : Array Bool} (hcl : Closed ops listed) {i j : Nat} (hj : j ∈ Region.ready .any ops listed) (hun : listed.getD i true = false) :
    ordd (befs ops.toList []) i j = false := by
  cases hdd : ordd (befs ops.toList []) i j with
  | false => rfl
  | true =>
    exfalso
    obtain ⟨_, oj, hoj, hall⟩ := mem_ready.1 hj
    have h1 := ahead_listed hback hcl j oj hoj hall hdd
    rcases Nat.lt_or_ge i listed.size with h' | h'
    · simp [h'] at hun h1; rw [hun] at h1; cases h1
    · simp [Array.getElem?_eq_none h'] at h1
theorem dAny_first (hns : Region.noSelect ops = true) (hback : ∀ (j : Nat) (o : Oper), ops[j]? = some o → ∀ e ∈ o.after, Region.binds .any e = true → e.on < j) {K : Env → WP} {i : Nat} {oi : Oper} (hi : ops[i]? = some oi) : ∀ (fuel : Nat) (listed : Array Bool) (h : Hist) (e : Env) (w : World),
    (∀ j, j ≠ i → listed.getD j true = false → j < ops.size → pairOk P ops (befs ops.toList []) i j = true) →
    Closed ops listed → i ∈ Region.ready .any ops listed →
    dOp P noR ops (befs ops.toList []) i oi (fun h' e' => dAny P noR ops K fuel (listed.setIfInBounds i true) h' e') h e w → dAny P noR ops K (fuel + 1) listed h e w := by
  intro fuel
  induction fuel with
  | zero =>
    intro listed h e w _ hcl hr H
    refine ⟨fun q => (by rw [q] at hr; cases hr), fun j hj oj hoj => ?_⟩
    by_cases hji : j = i
    · subst hji; rw [hi] at hoj; injection hoj with hoj; subst hoj; exact H
    · have hm := ready_mono hj hji
      -- no order is left after i, but j is ready there
      exfalso
      have hno : ∀ h' e' w', dAny P noR ops K 0 (listed.setIfInBounds i true) h' e' w' → False := fun h' e' w' q => by
        have q1 := q.1; rw [q1] at hm; cases hm
      have H' := dOp_mono (K' := fun _ _ _ => False) (fun h' e' w' q => hno h' e' w' q) H
      exact dOp_false H'
  | succ fuel ih =>
    intro listed h e w hfree hcl hr H
    refine ⟨fun q => (by rw [q] at hr; cases hr), fun j hj oj hoj => ?_⟩
    by_cases hji : j = i
    · subst hji; rw [hi] at hoj; injection hoj with hoj; subst hoj; exact H
    · have hm := ready_mono hj hji
      obtain ⟨hjun, oj', hoj', hall⟩ := mem_ready.1 hj
      rw [hoj] at hoj'; injection hoj' with hoj'; subst hoj'
      have hjlt : j < ops.size := (Array.getElem?_eq_some_iff.1 hoj).1
      have hd := not_ahead hback hcl hj (mem_ready.1 hr).1
      have hd' := not_ahead hback hcl hr hjun
      have hp := hfree j hji hjun hjlt
      simp only [pairOk, hi, hoj, hd, Bool.false_or, Bool.and_eq_true, Bool.or_eq_true] at hp
      have H1 := dOp_mono (K' := fun h1 e1 => dOp P noR ops (befs ops.toList []) j oj (fun h' e' => dAny P noR ops K fuel ((listed.setIfInBounds i true).setIfInBounds j true) h' e') h1 e1)
        (fun h' e' w' q => q.2 j hm oj hoj) H
      have H2 := dOp_swap hp.1 (fun cs b => Region.noSelect_spec hns i oi cs b hi) (fun cs b => Region.noSelect_spec hns j oj cs b hoj) hd hd' (by rcases hp.2 with ((q | q) | q) | q <;> simp [q])
        (fun x y h e w q => dAny_hist K _ _ _ _ e w (by intro z; simp only [List.mem_cons]; constructor <;> (rintro (q | q | q) <;> simp [q])) q) H1
      refine dOp_mono (fun h' e' w' q => ?_) H2
      refine ih (listed.setIfInBounds j true) h' e' w' ?_ ?_ (ready_mono hr (Ne.symm hji)) ?_
      · intro k hki hun hk
        refine hfree k hki ?_ hk
        by_cases hjk : j = k
        · subst hjk; exact hjun
        · rw [getD_set_ne true hjk] at hun; exact hun
      · exact Closed_set hcl hoj hall
      · rw [Array.setIfInBounds_comm _ _ hji]; exact q
theorem closed_prefix (hback : ∀ (j : Nat) (o : Oper), ops[j]? = some o → ∀ e ∈ o.after, Region.binds .any e = true → e.on < j) {listed : Array Bool} {k : Nat}
    (hlist : ∀ j, j < ops.size → listed[j]? = some (decide (j < k))) : Closed ops listed := by
  intro j o ho hl e he hb
  have hj := (Array.getElem?_eq_some_iff.1 ho).1
  have hlt := hback j o ho e he hb
  have h1 := hlist j hj
  have h2 := hlist e.on (by omega)
  simp only [Array.getD_eq_getD_getElem?, h1, Option.getD_some, decide_eq_true_eq] at hl
  simp only [Array.getD_eq_getD_getElem?, h2, Option.getD_some, decide_eq_true_eq]; omega
theorem denD_any (hns : Region.noSelect ops = true) (hback : ∀ (j : Nat) (o : Oper), ops[j]? = some o → ∀ e ∈ o.after, Region.binds .any e = true → e.on < j) {K : Env → WP} : ∀ (l : List Oper) (k : Nat) (listed : Array Bool) (h : Hist) (e : Env) (w : World),
    (∀ j, l[j]? = ops[k + j]?) → k + l.length = ops.size → listed.size = ops.size →
    (∀ j, j < ops.size → listed[j]? = some (decide (j < k))) →
    (∀ j, j < ops.size → ∀ i, i < j → pairOk P ops (befs ops.toList []) i j = true) →
    denD P noR ops (befs ops.toList []) k l h e K w → dAny P noR ops K l.length listed h e w
  | [], k, listed, h, e, w, hl, hk, hsz, hlist, hc, hh => by
    refine ⟨?_, hh⟩
    cases hr : Region.ready .any ops listed with
    | nil => rfl
    | cons j r =>
      have hj : j ∈ Region.ready .any ops listed := by rw [hr]; exact List.mem_cons_self ..
      obtain ⟨hun, oj, hoj, _⟩ := mem_ready.1 hj
      have hlt := (Array.getElem?_eq_some_iff.1 hoj).1
      have := hlist j hlt
      simp at hk
      simp only [Array.getD_eq_getD_getElem?, this, Option.getD_some] at hun
      simp at hun; omega
  | o :: l, k, listed, h, e, w, hl, hk, hsz, hlist, hc, hh => by
    have h0 : ops[k]? = some o := by simpa using (hl 0).symm
    have hklt : k < ops.size := (Array.getElem?_eq_some_iff.1 h0).1
    simp only [denD] at hh
    refine dAny_first hns hback h0 l.length listed h e w ?_ ?_ ?_ ?_
    · intro j hjk hun hj
      have := hlist j hj
      simp only [Array.getD_eq_getD_getElem?, this, Option.getD_some] at hun
      simp at hun
      exact hc j hj k (by omega)
    · exact closed_prefix hback hlist
    · refine mem_ready.2 ⟨?_, o, h0, fun ed he hb => ?_⟩
      · have := hlist k hklt
        simp only [Array.getD_eq_getD_getElem?, this, Option.getD_some]; simp
      · have := hback k o h0 ed he hb
        have h2 := hlist ed.on (by omega)
        simp only [Array.getD_eq_getD_getElem?, h2, Option.getD_some]; simpa using this
    · refine dOp_mono (fun h' e' w' q => ?_) hh
      refine denD_any hns hback l (k + 1) _ h' e' w' ?_ ?_ (by simpa using hsz) ?_ hc q
      · intro j; have := hl (j + 1); simpa [Nat.add_assoc, Nat.add_comm 1 j] using this
      · simp at hk; omega
      · intro j hj
        rw [Array.getElem?_setIfInBounds]
        split
        · rename_i hkj; subst hkj; simp [hsz, hj]
        · rename_i hkj; rw [hlist j hj]; congr 1; simp; omega
/-- The region's closed facts. -/
def regOk (ops : Array Oper) : Bool := Region.noSelect ops && (List.range ops.size).all fun j => edgesBack ops j
theorem regOk_back (h : regOk ops = true) : ∀ (j : Nat) (o : Oper), ops[j]? = some o → ∀ e ∈ o.after, Region.binds .any e = true → e.on < j := by
  simp only [regOk, Bool.and_eq_true, List.all_eq_true, List.mem_range] at h
  intro j o ho e he hb
  have := h.2 j (Array.getElem?_eq_some_iff.1 ho).1
  simp only [edgesBack, ho, List.all_eq_true] at this
  have := this e (by simpa using he)
  simpa [hb] using this
theorem calm_any (hr : regOk ops = true) (hc : calm P ops = true) {K : Env → WP} {e : Env} {w : World} (hh : denD P noR ops (befs ops.toList []) 0 ops.toList [] e K w) :
    dAny P noR ops K ops.size (Array.replicate ops.size false) [] e w := by
  have hback := regOk_back hr
  simp only [calm, calmL, List.all_eq_true, List.mem_range] at hc
  simp only [regOk, Bool.and_eq_true] at hr
  have := denD_any hr.1 hback ops.toList 0 (Array.replicate ops.size false) [] e w (by simp) (by simp) (by simp) (by intro j hj; simp [hj]) (fun j hj => hc j hj) hh
  simpa using this
/-! ### each way -/
def cnt (ops : Array Oper) (listed : Array Bool) : Nat := ((List.range ops.size).filter fun j => !listed.getD j true).length
theorem filter_lt {p q : Nat → Bool} {i : Nat} (hp : p i = true) (hq : q i = false) (himp : ∀ j, q j = true → p j = true) : ∀ {l : List Nat}, i ∈ l → (l.filter q).length < (l.filter p).length
  | x :: l, h => by
    have hle : ∀ l : List Nat, (l.filter q).length ≤ (l.filter p).length := by
      intro l
      induction l with
      | nil => simp
      | cons y l ih =>
        simp only [List.filter_cons]
        cases hqy : q y with
        | false => cases p y <;> simp <;> omega
        | true => simp [himp y hqy]; omega
    simp only [List.filter_cons]
    rcases List.mem_cons.1 h with rfl | h
    · simp [hp, hq]; have := hle l; omega
    · have ih := filter_lt hp hq himp h
      cases hqx : q x with
      | false => cases p x <;> simp <;> omega
      | true => simp [himp x hqx]; exact ih
theorem cnt_set {listed : Array Bool} {i : Nat} (hi : i < ops.size) (hun : listed.getD i true = false) (hsz : listed.size = ops.size) : cnt ops (listed.setIfInBounds i true) < cnt ops listed := by
  have hset : (listed.setIfInBounds i true).getD i true = true := by simp [hsz, hi]
  refine filter_lt (i := i) (by simp only [hun]; rfl) (by rw [hset]; rfl) (fun j hj => ?_) (List.mem_range.2 hi)
  · by_cases hij : i = j
    · subst hij
      rw [hset] at hj; cases hj
    · rwa [getD_set_ne true hij] at hj
theorem allW_mem : ∀ {l : List WP} {x : WP} {w : World}, allW l w → x ∈ l → x w
  | [y], x, w, h, hx => by simp at hx; subst hx; exact h
  | y :: z :: r, x, w, h, hx => by
    rcases List.mem_cons.1 hx with rfl | hx
    · exact h.1
    · exact allW_mem h.2 hx
theorem denT_any (hns : Region.noSelect ops = true) (hback : ∀ (j : Nat) (o : Oper), ops[j]? = some o → ∀ e ∈ o.after, Region.binds .any e = true → e.on < j) {K : Env → WP} : ∀ (n : Nat) (listed : Array Bool) (h : Hist) (e : Env) (w : World),
    Closed ops listed → cnt ops listed ≤ n → listed.size = ops.size → denT P noR ops (befs ops.toList []) K n listed h e w → dAny P noR ops K n listed h e w := by
  intro n
  induction n with
  | zero =>
    intro listed h e w hcl hcnt hsz hh
    refine ⟨?_, hh⟩
    cases hr : Region.ready .any ops listed with
    | nil => rfl
    | cons j r =>
      exfalso
      have hj : j ∈ Region.ready .any ops listed := by rw [hr]; exact List.mem_cons_self ..
      obtain ⟨hun, oj, hoj, _⟩ := mem_ready.1 hj
      have := cnt_set (Array.getElem?_eq_some_iff.1 hoj).1 hun hsz
      omega
  | succ n ih =>
    intro listed h e w hcl hcnt hsz hh
    simp only [denT] at hh
    have go : ∀ i o, i ∈ Region.ready .any ops listed → ops[i]? = some o → dOp P noR ops (befs ops.toList []) i o (fun h' e' => denT P noR ops (befs ops.toList []) K n (listed.setIfInBounds i true) h' e') h e w →
        dOp P noR ops (befs ops.toList []) i o (fun h' e' => dAny P noR ops K n (listed.setIfInBounds i true) h' e') h e w := by
      intro i o hi ho q
      obtain ⟨hun, o', ho', hall⟩ := mem_ready.1 hi
      rw [ho] at ho'; injection ho' with ho'; subst ho'
      refine dOp_mono (fun h' e' w' q => ih _ h' e' w' (Closed_set hcl ho hall) ?_ (by simpa using hsz) q) q
      have := cnt_set (Array.getElem?_eq_some_iff.1 ho).1 hun hsz
      omega
    cases hr : Region.ready .any ops listed with
    | nil =>
      rw [hr] at hh
      exact ⟨fun _ => hh, fun i hi => by rw [hr] at hi; cases hi⟩
    | cons r rs =>
      rw [hr] at hh
      dsimp only at hh
      cases hf : (r :: rs).find? (comOk P ops (befs ops.toList []) listed) with
      | some i =>
        rw [hf] at hh
        dsimp only at hh
        have hi : i ∈ Region.ready .any ops listed := by rw [hr]; exact List.mem_of_find?_eq_some hf
        have hc := List.find?_some hf
        cases ho : ops[i]? with
        | none => rw [ho] at hh; exact hh.elim
        | some o =>
          rw [ho] at hh
          refine dAny_first hns hback ho n listed h e w ?_ hcl hi (go i o hi ho hh)
          intro j hji hun hj
          simp only [comOk, List.all_eq_true, List.mem_range] at hc
          have := hc j hj
          rw [hun, Bool.or_false, Bool.or_eq_true] at this
          rcases this with this | this
          · exact absurd (Nat.eq_of_beq_eq_true this).symm hji
          · exact this
      | none =>
        rw [hf] at hh
        refine ⟨fun q => (by rw [hr] at q; cases q), fun i hi o ho => ?_⟩
        refine go i o hi ho ?_
        have := allW_mem hh (List.mem_map.2 ⟨i, by rw [← hr]; exact hi, rfl⟩)
        rw [ho] at this; exact this
theorem tree_any (hr : regOk ops = true) {K : Env → WP} {e : Env} {w : World} (hh : denT P noR ops (befs ops.toList []) K ops.size (Array.replicate ops.size false) [] e w) :
    dAny P noR ops K ops.size (Array.replicate ops.size false) [] e w := by
  have hback := regOk_back hr
  simp only [regOk, Bool.and_eq_true] at hr
  refine denT_any hr.1 hback ops.size _ [] e w ?_ ?_ (by simp) hh
  · intro k o ho hl
    have hk := (Array.getElem?_eq_some_iff.1 ho).1
    simp [hk] at hl
  · unfold cnt
    exact Nat.le_trans (List.length_filter_le _ _) (by simp)
end
end Go.Proofs.YthcekppbbanfeaaGreat.Den
