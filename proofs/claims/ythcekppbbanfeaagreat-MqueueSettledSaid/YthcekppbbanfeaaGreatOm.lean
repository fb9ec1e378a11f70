/- Maps in memory: looking up, storing, deleting, clearing, ranging, in chunks. Conditions: none. -/
import Derived.Test.YthcekppbbanfeaaGreatOt
import Derived.Maps.RangeRun
set_option linter.unusedVariables false
set_option linter.unusedSimpArgs false
set_option maxRecDepth 8000
namespace Go.Proofs.YthcekppbbanfeaaGreat.Den
open Go Go.RowKit
/-- A map type, its keys and elements as Lean data. -/
structure MapK {κ ν : Type} [DecidableEq κ] (T kt et : TypeId) (d : TypeDesc) (key : κ → Value) (val : ν → Value) (z : ν) : Prop where
  under : Pg.underlying T = some (.map kt et)
  kd : Pg.underlying kt = some d
  zero : (Pg.info? et).bind (·.zero) = some (val z)
  eq : ∀ x y w, (Op.equal kt (key x) (key y)).run Pg w = .ok (decide (x = y)) w
  chk : ∀ b x w, (Instr.checkKey b 10000 kt (key x)).run Pg w = .ok () w
  now : (∀ x y, Instr.sameNow d (key x) (key y) = some (decide (x = y))) ∨ (∀ x y, Instr.sameNow d (key x) (key y) = none)
  bits : ∀ x, Instr.sameBits 10000 (key x) (key x) = true
section
variable {κ ν : Type} [DecidableEq κ] {T kt et : TypeId} {d : TypeDesc} {key : κ → Value} {val : ν → Value} {z : ν} {w w' w0 : World} {L L' F : List Chunk} {b clock : Nat} {K : VK} {R : ER}
def men (key : κ → Value) (val : ν → Value) (e : κ × ν × Nat) : MapEntry := { key := key e.1, val := val e.2.1, born := e.2.2 }
def mobj (key : κ → Value) (val : ν → Value) (ents : List (κ × ν × Nat)) (clock : Nat) : Obj := .map ⟨ents.map (men key val)⟩ clock
def mfind (x : κ) : List (κ × ν × Nat) → Nat → Option (Nat × ν)
  | [], _ => none
  | e :: es, i => if x = e.1 then some (i, e.2.1) else mfind x es (i + 1)
/-- What is stored at a key. -/
def mget (x : κ) (ents : List (κ × ν × Nat)) : Option ν := (mfind x ents 0).map (·.2)
def mput (x : κ) (v : ν) (ents : List (κ × ν × Nat)) (clock : Nat) : List (κ × ν × Nat) := match mfind x ents 0 with
  | some (i, _) => ents.modify i fun e => (x, v, e.2.2)
  | none => ents ++ [(x, v, clock)]
def mclk (x : κ) (ents : List (κ × ν × Nat)) (clock : Nat) : Nat := match mfind x ents 0 with
  | some _ => clock
  | none => clock + 1
def mdel (x : κ) (ents : List (κ × ν × Nat)) : List (κ × ν × Nat) := match mfind x ents 0 with
  | some (i, _) => ents.eraseIdx i
  | none => ents
def putB (w : World) (r : Nat) (o : Obj) : World := { w with heap := w.heap.setIfInBounds r o }
theorem run_getO {P : Program} {r : Nat} {es : Array MapEntry} {c : Nat} (h : w.heap[r]? = some (.map es c)) : (getObj r).run P w = .ok (.map es c) w := by simp [getObj, Sem.run, h]
theorem run_setM {P : Program} {r : Nat} {es : Array MapEntry} {c : Nat} (o' : Obj) (h : w.heap[r]? = some (.map es c)) : (setObj r o').run P w = .ok () (putB w r o') := by simp [setObj, Sem.run, h, putB]
theorem Ext.putO (r : Nat) (o : Obj) : Ext [r] w (putB w r o) :=
  ⟨rfl, rfl, rfl, by simp [putB], fun k hk hn => by simp [putB]; rw [Array.getElem?_setIfInBounds_ne]; simpa using fun h => hn (by simp [h]), Nat.le_refl _⟩
theorem putO_at {r : Nat} {o : Obj} (h : r < w.heap.size) : (putB w r o).heap[r]? = some o := by simp [putB, h]
theorem mfind_none {x : κ} : ∀ {ents : List (κ × ν × Nat)} {i : Nat}, mfind x ents i = none ↔ ∀ e ∈ ents, x ≠ e.1
  | [], i => by simp [mfind]
  | e :: es, i => by
    unfold mfind; split
    · rename_i h; simp [h]
    · rename_i h; rw [mfind_none]; simp [h]
theorem mfind_some {x : κ} {v : ν} : ∀ {ents : List (κ × ν × Nat)} {i j : Nat}, mfind x ents i = some (j, v) → i ≤ j ∧ ∃ n, ents[j - i]? = some (x, v, n)
  | [], i, j, h => by simp [mfind] at h
  | e :: es, i, j, h => by
    unfold mfind at h; split at h
    · rename_i hx
      injection h with h; injection h with h1 h2
      subst h1; subst h2; subst hx
      exact ⟨Nat.le_refl _, e.2.2, by simp⟩
    · obtain ⟨h1, n, h2⟩ := mfind_some h
      refine ⟨by omega, n, ?_⟩
      rw [show j - i = j - (i + 1) + 1 from by omega, List.getElem?_cons_succ]; exact h2
theorem findAsk_run (M : MapK T kt et d key val z) (x : κ) : ∀ (ents : List (κ × ν × Nat)) (i : Nat), (Instr.findAsking kt (key x) (ents.map (men key val)) i).run Pg w = .ok ((mfind x ents i).map fun p => (p.1, val p.2)) w
  | [], i => rfl
  | e :: es, i => by
    simp only [List.map_cons, Instr.findAsking, Sem.run_bind]
    rw [show (men key val e).key = key e.1 from rfl, M.eq x e.1 w]
    simp only [Result.andThen_ok, mfind]
    by_cases h : x = e.1
    · simp [h, men]
    · simp only [h, decide_false, Bool.false_eq_true, if_false]
      exact findAsk_run M x es (i + 1)
theorem findKey_run (M : MapK T kt et d key val z) (x : κ) (ents : List (κ × ν × Nat)) : (Instr.findKey kt (key x) (ents.map (men key val))).run Pg w = .ok ((mfind x ents 0).map fun p => (p.1, val p.2)) w := by
  unfold Instr.findKey
  rw [Sem.run_bind, run_underlying' M.kd]
  simp only [Result.andThen]
  rcases M.now with h | h
  · have key' : ∀ (ents : List (κ × ν × Nat)) (i : Nat), Instr.findNow d (key x) (ents.map (men key val)) i = some ((mfind x ents i).map fun p => (p.1, val p.2)) := by
      intro ents
      induction ents with
      | nil => intro i; rfl
      | cons e es ih =>
        intro i
        simp only [List.map_cons, Instr.findNow]
        rw [show (men key val e).key = key e.1 from rfl, h x e.1]
        simp only [mfind]
        by_cases hx : x = e.1
        · simp [hx, men]
        · simp only [hx, decide_false, if_false]; exact ih _
    rw [key']; rfl
  · cases ents with
    | nil => rfl
    | cons e es =>
      simp only [List.map_cons, Instr.findNow]
      rw [show (men key val e).key = key e.1 from rfl, h x e.1]
      exact findAsk_run M x (e :: es) 0
def lkv (val : ν → Value) (z : ν) (o : Option ν) : Value := val (o.getD z)
theorem lookup_run (M : MapK T kt et d key val z) (x : κ) (ok : Bool) {ents : List (κ × ν × Nat)} (h : w.heap[b]? = some (mobj key val ents clock)) :
    (Instr.lookup T (.map (some b)) (key x) ok).run Pg w = .ok (if ok then .tuple #[lkv val z (mget x ents), .bool (mget x ents).isSome] else lkv val z (mget x ents)) w := by
  unfold Instr.lookup
  rw [Sem.run_bind, run_underlying' M.under]
  simp only [Result.andThen, Sem.run_bind, run_getO h, mobj]
  simp only [Sem.run_pure, Result.andThen, Sem.run_bind, M.chk, findKey_run M]
  unfold mget lkv
  cases mfind x ents 0 with
  | none =>
    change Sem.run Pg (zeroValue et >>= fun v => (pure (v, false) : Sem (Value × Bool)) >>= fun x => pure (if ok = true then Value.tuple #[x.1, .bool x.2] else x.1)) w = _
    rw [Sem.run_bind, run_zeroValue' M.zero]
    rfl
  | some p => rfl
theorem lookup_h (M : MapK T kt et d key val z) (x : κ) {ents : List (κ × ν × Nat)} (H : Hp w0 w L) (hm : Has L b (.o (mobj key val ents clock)) []) (k : K (lkv val z (mget x ents)) w) :
    valV Pg R (Instr.lookup T (.map (some b)) (key x) false) K w := by
  unfold valV; rw [lookup_run M x false (H.blk _ hm).2]; exact k
theorem lookup2_h (M : MapK T kt et d key val z) (x : κ) {ents : List (κ × ν × Nat)} (H : Hp w0 w L) (hm : Has L b (.o (mobj key val ents clock)) []) (k : K (.tuple ⟨[lkv val z (mget x ents), .bool (mget x ents).isSome]⟩) w) :
    valV Pg R (Instr.lookup T (.map (some b)) (key x) true) K w := by
  unfold valV; rw [lookup_run M x true (H.blk _ hm).2]; exact k
end
section
variable {κ ν : Type} {T kt et : TypeId} {d : TypeDesc} {key : κ → Value} {val : ν → Value} {z : ν} {w w' w0 : World} {L L' F : List Chunk} {b clock : Nat} {K : VK} {R : ER}
theorem make_m (H : Hp w0 w L) (k : ∀ w' b, Hp w0 w' (⟨b, .o (mobj key val [] 0), []⟩ :: L) → K (.map (some b)) w') : valV Pg R (Instr.makeMap T none) K w := by
  have : (Instr.makeMap T none).run Pg w = .ok (.map (some w.heap.size)) (w.alloc (.map #[] 0)) := by
    rfl
  unfold valV; rw [this]
  refine k _ _ (H.newOf (t := .o (mobj key val [] 0)) (l := []) ?_ (Ext.alloc [] w _))
  show (w.heap.push _)[w.heap.size]? = _
  simp [Chunk.obj, mobj]
end
section
variable {κ ν : Type} [DecidableEq κ] {T kt et : TypeId} {d : TypeDesc} {key : κ → Value} {val : ν → Value} {z : ν} {w w' w0 : World} {L L' F : List Chunk} {b clock : Nat} {K : VK} {R : ER}
theorem put_h (M : MapK T kt et d key val z) (x : κ) (v : ν) {ents : List (κ × ν × Nat)} (H : Hp w0 w L) (hu : Upd L b (.o (mobj key val ents clock)) [] (.o (mobj key val (mput x v ents clock) (mclk x ents clock))) [] L') (k : ∀ w', Hp w0 w' L' → K undef w') :
    unitV Pg R (Instr.mapUpdate T (.map (some b)) (key x) (val v)) K w := by
  have hb := (H.blk _ hu.has).2
  have hb' : w.heap[b]? = some (mobj key val ents clock) := hb
  have hrun : (Instr.mapUpdate T (.map (some b)) (key x) (val v)).run Pg w = .ok () (putB w b (mobj key val (mput x v ents clock) (mclk x ents clock))) := by
    unfold Instr.mapUpdate
    rw [Sem.run_bind, run_underlying' M.under]
    simp only [Result.andThen, Sem.run_bind, run_getO hb', mobj, M.chk, findKey_run M]
    cases hf : mfind x ents 0 with
    | none =>
      simp only [Option.map_none]
      rw [run_setM _ hb']
      simp [mput, mclk, hf, men]
    | some p =>
      obtain ⟨i, v0⟩ := p
      obtain ⟨_, n, hi⟩ := mfind_some hf
      simp only [Nat.sub_zero] at hi
      have hk : (((⟨ents.map (men key val)⟩ : Array MapEntry)[i]?).map (·.key)).getD (key x) = key x := by simp [hi, men]
      simp only [Option.map_some, hk, Instr.keyThatStays, M.bits, if_true, Sem.run_pure, Result.andThen_ok, Sem.run_bind]
      rw [run_setM _ hb']
      have e : (⟨ents.map (men key val)⟩ : Array MapEntry).modify i (fun e => { e with key := key x, val := val v }) = ⟨(mput x v ents clock).map (men key val)⟩ := by
        apply Array.ext'
        simp only [Array.toList_modify, mput, hf]
        apply List.ext_getElem?
        intro j
        rw [List.getElem?_modify, List.getElem?_map, List.getElem?_map, List.getElem?_modify]
        by_cases hj : i = j
        · subst hj; simp [hi, men]
        · simp [hj]
      rw [e]
      simp [mclk, hf]
  unfold unitV; rw [hrun]
  exact k _ (H.updU hu (putO_at (heap_lt hb')) (Ext.putO _ _))
/-! ### what these lists are -/
def mkeys (ents : List (κ × ν × Nat)) : List κ := ents.map (·.1)
structure MW (ents : List (κ × ν × Nat)) (clock : Nat) : Prop where
  nd : (mkeys ents).Nodup
  bn : (ents.map (·.2.2)).Pairwise (· < ·)
  lt : ∀ e ∈ ents, e.2.2 < clock
end
section
variable {κ ν : Type} {T kt et : TypeId} {d : TypeDesc} {key : κ → Value} {val : ν → Value} {z : ν} {w w' w0 : World} {L L' F : List Chunk} {b clock : Nat} {K : VK} {R : ER}
theorem MW.nil : MW ([] : List (κ × ν × Nat)) clock := ⟨by simp [mkeys], by simp, by simp⟩
end
section
variable {κ ν : Type} [DecidableEq κ] {T kt et : TypeId} {d : TypeDesc} {key : κ → Value} {val : ν → Value} {z : ν} {w w' w0 : World} {L L' F : List Chunk} {b clock : Nat} {K : VK} {R : ER}
theorem mget_none {x : κ} {ents : List (κ × ν × Nat)} : mget x ents = none ↔ x ∉ mkeys ents := by
  unfold mget; rw [Option.map_eq_none_iff, mfind_none]
  simp only [mkeys, List.mem_map, not_exists, not_and]
  exact ⟨fun h e he hx => h e he hx.symm, fun h e he hx => h e he hx.symm⟩
theorem mget_some {x : κ} {v : ν} {ents : List (κ × ν × Nat)} (h : mget x ents = some v) : ∃ n, (x, v, n) ∈ ents := by
  unfold mget at h
  obtain ⟨⟨i, v'⟩, hf, e⟩ := Option.map_eq_some_iff.1 h
  simp only at e; subst e
  obtain ⟨_, n, hi⟩ := mfind_some hf
  exact ⟨n, List.mem_of_getElem? hi⟩
theorem mget_isSome {x : κ} {ents : List (κ × ν × Nat)} : (mget x ents).isSome = decide (x ∈ mkeys ents) := by
  rw [Bool.eq_iff_iff, decide_eq_true_eq]
  constructor
  · intro h
    obtain ⟨v, hv⟩ := Option.isSome_iff_exists.1 h
    obtain ⟨n, hm⟩ := mget_some hv
    exact List.mem_map.2 ⟨_, hm, rfl⟩
  · intro h
    cases hg : mget x ents with
    | none => exact absurd h (mget_none.1 hg)
    | some v => rfl
/-- A new key. -/
theorem mput_new {x : κ} {v : ν} {ents : List (κ × ν × Nat)} (h : x ∉ mkeys ents) : mput x v ents clock = ents ++ [(x, v, clock)] ∧ mclk x ents clock = clock + 1 := by
  have : mfind x ents 0 = none := mfind_none.2 fun e he hx => h (List.mem_map.2 ⟨e, he, hx.symm⟩)
  simp [mput, mclk, this]
end
section
variable {κ ν : Type} {T kt et : TypeId} {d : TypeDesc} {key : κ → Value} {val : ν → Value} {z : ν} {w w' w0 : World} {L L' F : List Chunk} {b clock : Nat} {K : VK} {R : ER}
theorem MW.put_new {x : κ} {v : ν} {ents : List (κ × ν × Nat)} (h : x ∉ mkeys ents) (hw : MW ents clock) : MW (ents ++ [(x, v, clock)]) (clock + 1) := by
  refine ⟨?_, ?_, fun e he => ?_⟩
  · simp only [mkeys, List.map_append, List.map_cons, List.map_nil]
    rw [List.nodup_append]
    refine ⟨hw.nd, by simp, fun a ha b hb => ?_⟩
    simp at hb; subst hb; rintro rfl; exact h ha
  · rw [List.map_append, List.pairwise_append]
    refine ⟨hw.bn, by simp, fun a ha b hb => ?_⟩
    simp at hb; subst hb
    obtain ⟨e, he, rfl⟩ := List.mem_map.1 ha
    exact hw.lt e he
  · rcases List.mem_append.1 he with he | he
    · have := hw.lt e he; omega
    · simp at he; subst he; simp
end
section
variable {κ ν : Type} [DecidableEq κ] {T kt et : TypeId} {d : TypeDesc} {key : κ → Value} {val : ν → Value} {z : ν} {w w' w0 : World} {L L' F : List Chunk} {b clock : Nat} {K : VK} {R : ER}
/-- The key is there: its place keeps its birth. -/
theorem mput_old {x : κ} {v : ν} {ents : List (κ × ν × Nat)} (h : x ∈ mkeys ents) (hw : MW ents clock) : mkeys (mput x v ents clock) = mkeys ents ∧ mclk x ents clock = clock ∧ MW (mput x v ents clock) clock := by
  cases hf : mfind x ents 0 with
  | none =>
    obtain ⟨e, he, hx⟩ := List.mem_map.1 h
    exact absurd hx.symm (mfind_none.1 hf e he)
  | some p =>
    obtain ⟨i, v0⟩ := p
    obtain ⟨_, n, hi⟩ := mfind_some hf
    simp only [Nat.sub_zero] at hi
    have e1 : mput x v ents clock = ents.modify i fun e => (x, v, e.2.2) := by simp [mput, hf]
    have k1 : mkeys (mput x v ents clock) = mkeys ents := by
      rw [e1]; unfold mkeys
      apply List.ext_getElem?; intro j
      rw [List.getElem?_map, List.getElem?_modify, List.getElem?_map]
      by_cases hj : i = j
      · subst hj; simp [hi]
      · simp [hj]
    have k2 : (mput x v ents clock).map (·.2.2) = ents.map (·.2.2) := by
      rw [e1]
      apply List.ext_getElem?; intro j
      rw [List.getElem?_map, List.getElem?_modify, List.getElem?_map]
      by_cases hj : i = j
      · subst hj; simp [hi]
      · simp [hj]
    refine ⟨k1, by simp [mclk, hf], by rw [k1]; exact hw.nd, by rw [k2]; exact hw.bn, fun e he => ?_⟩
    have : e.2.2 ∈ (mput x v ents clock).map (·.2.2) := List.mem_map_of_mem he
    rw [k2] at this
    obtain ⟨e', he', h'⟩ := List.mem_map.1 this
    rw [← h']; exact hw.lt e' he'
/-! ### deleting, clearing -/
theorem eraseIdx_map' {α β : Type} (f : α → β) : ∀ (l : List α) (i : Nat), (l.map f).eraseIdx i = (l.eraseIdx i).map f
  | [], i => by simp
  | a :: l, 0 => rfl
  | a :: l, i + 1 => by simp [eraseIdx_map' f l i]
theorem delete_h (M : MapK T kt et d key val z) (x : κ) {ents : List (κ × ν × Nat)} {ty : Nat} {cc : Array Bool} (H : Hp w0 w L) (hu : Upd L b (.o (mobj key val ents clock)) [] (.o (mobj key val (mdel x ents) clock)) [] L') (k : ∀ w', Hp w0 w' L' → K (.tuple ⟨[]⟩) w') :
    blt Pg R .delete ⟨[T, kt]⟩ ty cc ⟨[.map (some b), key x]⟩ K w := by
  have hb' : w.heap[b]? = some (mobj key val ents clock) := (H.blk _ hu.has).2
  have hrun : (Builtin.delete_ ⟨[T, kt]⟩ ty ⟨[.map (some b), key x]⟩).run Pg w = .ok (.tuple ⟨[]⟩) (putB w b (mobj key val (mdel x ents) clock)) := by
    unfold Builtin.delete_
    have e0 : (⟨[T, kt]⟩ : Array TypeId)[0]? = some T := rfl
    have e1 : (⟨[.map (some b), key x]⟩ : Array Value)[0]? = some (.map (some b)) := rfl
    have e2 : (⟨[.map (some b), key x]⟩ : Array Value)[1]? = some (key x) := rfl
    simp only [e0, e1, e2, Sem.run_bind, run_underlying' M.under, Result.andThen, run_getO hb', mobj, M.chk, findKey_run M]
    cases hf : mfind x ents 0 with
    | none =>
      simp only [Option.map_none]
      rw [Sem.run_bind, run_setM _ hb']
      simp [mdel, hf]
    | some p =>
      obtain ⟨i, v0⟩ := p
      simp only [Option.map_some]
      rw [Sem.run_bind, run_setM _ hb']
      have : (⟨ents.map (men key val)⟩ : Array MapEntry).eraseIdxIfInBounds i = ⟨(mdel x ents).map (men key val)⟩ := by
        apply Array.ext'
        simp [mdel, hf, eraseIdx_map']
      rw [this]
      rfl
  unfold blt semV
  have : (builtin .delete ⟨[T, kt]⟩ ty cc ⟨[.map (some b), key x]⟩).run Pg w = .ok (.value (.tuple ⟨[]⟩)) (putB w b (mobj key val (mdel x ents) clock)) := run_value hrun
  rw [this]
  exact k _ (H.updU hu (putO_at (heap_lt hb')) (Ext.putO _ _))
theorem mfind_idx {x : κ} : ∀ {ents : List (κ × ν × Nat)} {i j : Nat} {v : ν}, mfind x ents i = some (j, v) → ∀ m, m < j - i → ∀ e, ents[m]? = some e → x ≠ e.1
  | [], i, j, v, h => by simp [mfind] at h
  | a :: es, i, j, v, h => by
    unfold mfind at h; split at h
    · rename_i hx
      injection h with h; injection h with h1 h2
      subst h1
      intro m hm; omega
    · rename_i hx
      intro m hm e he
      cases m with
      | zero => simp at he; subst he; exact hx
      | succ m => exact mfind_idx h m (by omega) e (by simpa using he)
theorem mdel_eq {x : κ} {ents : List (κ × ν × Nat)} (hn : (mkeys ents).Nodup) : mdel x ents = ents.filter fun e => decide (e.1 ≠ x) := by
  unfold mdel
  cases hf : mfind x ents 0 with
  | none =>
    symm; rw [List.filter_eq_self]
    intro e he; simp; exact fun h => mfind_none.1 hf e he h.symm
  | some p =>
    obtain ⟨i, v0⟩ := p
    obtain ⟨h00, n, hi⟩ := mfind_some hf
    simp only [Nat.sub_zero] at hi
    simp only
    clear hf h00
    induction ents generalizing i with
    | nil => simp at hi
    | cons a es ih =>
      simp only [mkeys, List.map_cons, List.nodup_cons] at hn
      cases i with
      | zero =>
        simp only [List.getElem?_cons_zero, Option.some.injEq] at hi
        subst hi
        simp only [List.eraseIdx_cons_zero]
        rw [List.filter_cons, if_neg (by simp), List.filter_eq_self.2]
        intro e he; simp; rintro rfl
        exact hn.1 (List.mem_map.2 ⟨e, he, rfl⟩)
      | succ i =>
        simp only [List.getElem?_cons_succ] at hi
        simp only [List.eraseIdx_cons_succ]
        have hne : a.1 ≠ x := by
          rintro rfl
          exact hn.1 (List.mem_map.2 ⟨_, List.mem_of_getElem? hi, rfl⟩)
        rw [List.filter_cons, if_pos (by simpa using hne), ih hn.2 i hi]
end
section
variable {κ ν : Type} {T kt et : TypeId} {d : TypeDesc} {key : κ → Value} {val : ν → Value} {z : ν} {w w' w0 : World} {L L' F : List Chunk} {b clock : Nat} {K : VK} {R : ER}
theorem MW.sub {ents ents' : List (κ × ν × Nat)} (hw : MW ents clock) (h : List.Sublist ents' ents) : MW ents' clock :=
  ⟨(h.map _).nodup hw.nd, hw.bn.sublist (h.map _), fun e he => hw.lt e (h.subset he)⟩
end
section
variable {κ ν : Type} [DecidableEq κ] {T kt et : TypeId} {d : TypeDesc} {key : κ → Value} {val : ν → Value} {z : ν} {w w' w0 : World} {L L' F : List Chunk} {b clock : Nat} {K : VK} {R : ER}
theorem MW.del {x : κ} {ents : List (κ × ν × Nat)} (hw : MW ents clock) : MW (mdel x ents) clock := by
  rw [mdel_eq hw.nd]; exact hw.sub List.filter_sublist
theorem clear_m {ents : List (κ × ν × Nat)} (M : MapK T kt et d key val z) {ty : Nat} {cc : Array Bool} (H : Hp w0 w L) (hu : Upd L b (.o (mobj key val ents clock)) [] (.o (mobj key val [] clock)) [] L') (k : ∀ w', Hp w0 w' L' → K (.tuple ⟨[]⟩) w') :
    blt Pg R .clear ⟨[T]⟩ ty cc ⟨[.map (some b)]⟩ K w := by
  have hb' : w.heap[b]? = some (mobj key val ents clock) := (H.blk _ hu.has).2
  have hrun : (Builtin.clear_ ⟨[T]⟩ ty ⟨[.map (some b)]⟩).run Pg w = .ok (.tuple ⟨[]⟩) (putB w b (mobj key val ([] : List (κ × ν × Nat)) clock)) := by
    unfold Builtin.clear_
    have e0 : (⟨[T]⟩ : Array TypeId)[0]? = some T := rfl
    have e1 : (⟨[.map (some b)]⟩ : Array Value)[0]? = some (.map (some b)) := rfl
    simp only [e0, e1, Sem.run_bind, run_underlying' M.under, Result.andThen, run_getO hb', mobj]
    rw [run_setM _ hb']
    rfl
  unfold blt semV
  have : (builtin .clear ⟨[T]⟩ ty cc ⟨[.map (some b)]⟩).run Pg w = .ok (.value (.tuple ⟨[]⟩)) (putB w b (mobj key val ([] : List (κ × ν × Nat)) clock)) := run_value hrun
  rw [this]
  exact k _ (H.updU hu (putO_at (heap_lt hb')) (Ext.putO _ _))
theorem mlen_h {ents : List (κ × ν × Nat)} (M : MapK T kt et d key val z) {ty : Nat} {cc : Array Bool} (H : Hp w0 w L) (hm : Has L b (.o (mobj key val ents clock)) []) (k : K (I (ents.length : Int)) w) :
    blt Pg R .len ⟨[T]⟩ ty cc ⟨[.map (some b)]⟩ K w := by
  have hb' : w.heap[b]? = some (mobj key val ents clock) := (H.blk _ hm).2
  have hrun : (Builtin.len_ ⟨[T]⟩ ty ⟨[.map (some b)]⟩).run Pg w = .ok (I (ents.length : Int)) w := by
    unfold Builtin.len_
    have e0 : (⟨[T]⟩ : Array TypeId)[0]? = some T := rfl
    have e1 : (⟨[.map (some b)]⟩ : Array Value)[0]? = some (.map (some b)) := rfl
    simp only [e0, e1, Sem.run_bind, run_underlying' M.under, Result.andThen, run_getO hb', mobj]
    simp [goInt]
  unfold blt semV
  have : (builtin .len ⟨[T]⟩ ty cc ⟨[.map (some b)]⟩).run Pg w = .ok (.value (I (ents.length : Int))) w := run_value hrun
  rw [this]; exact k
/-! ### ranging -/
def iobj (b since : Nat) (seen : List Nat) (st : Nat) : Obj := .mapIter (some b) since ⟨seen⟩ st
theorem range_h {ents : List (κ × ν × Nat)} (M : MapK T kt et d key val z) (H : Hp w0 w L) (hm : Has L b (.o (mobj key val ents clock)) []) (k : ∀ w' r, Hp w0 w' (⟨r, .o (iobj b clock [] clock), []⟩ :: L) → K (ptr r 0) w') :
    valV Pg R (Instr.range T (.map (some b))) K w := by
  have hb' : w.heap[b]? = some (mobj key val ents clock) := (H.blk _ hm).2
  have hrun : (Instr.range T (.map (some b))).run Pg w = .ok (ptr w.heap.size 0) (w.alloc (iobj b clock [] clock)) := by
    unfold Instr.range
    simp only [Sem.run_bind, run_underlying' M.under, Result.andThen, run_getO hb', mobj]
    rfl
  unfold valV; rw [hrun]
  refine k _ _ (H.newOf (t := .o (iobj b clock [] clock)) (l := []) ?_ (Ext.alloc [] w _))
  show (w.heap.push _)[w.heap.size]? = _
  simp [Chunk.obj]
end
section
variable {κ ν : Type} {T kt et : TypeId} {d : TypeDesc} {key : κ → Value} {val : ν → Value} {z : ν} {w w' w0 : World} {L L' F : List Chunk} {b clock : Nat} {K : VK} {R : ER}
theorem next_h {ents : List (κ × ν × Nat)} {r since c0 : Nat} {seen : List Nat} {ty : Nat} (H : Hp w0 w (⟨r, .o (iobj b since seen c0), []⟩ :: L)) (hm : Has L b (.o (mobj key val ents clock)) []) (hold : ∀ e ∈ ents, e.2.2 < since) (hsc : since ≤ c0)
    (k1 : (∀ e ∈ ents, e.2.2 ∈ seen) → K (.tuple ⟨[.bool false]⟩) w)
    (k2 : ∀ w' e, e ∈ ents → e.2.2 ∉ seen → Hp w0 w' (⟨r, .o (iobj b since (seen ++ [e.2.2]) clock), []⟩ :: L) → K (.tuple ⟨[.bool true, key e.1, val e.2.1]⟩) w') :
    valV Pg R (Instr.next (ptr r 0) false ty) K w := by
  have hb' : w.heap[b]? = some (mobj key val ents clock) := (H.blk _ (Has.cons hm)).2
  have hr : w.heap[r]? = some (iobj b since seen c0) := (H.blk ⟨r, .o (iobj b since seen c0), []⟩ (by simp)).2
  have hmem : ∀ x, x ∈ (leftOf ⟨ents.map (men key val)⟩ ⟨seen⟩).toList ↔ ∃ e ∈ ents, e.2.2 ∉ seen ∧ x = men key val e := by
    intro x
    simp only [leftOf, Array.toList_filter, List.mem_filter, List.mem_map, Bool.not_eq_true', List.contains_toArray, List.contains_eq_mem, decide_eq_false_iff_not]
    constructor
    · rintro ⟨⟨e, he, rfl⟩, hn⟩; exact ⟨e, he, hn, rfl⟩
    · rintro ⟨e, he, hn, rfl⟩; exact ⟨⟨e, he, rfl⟩, hn⟩
  unfold valV
  rcases run_next_at (P := Pg) w ty r b since c0 ⟨seen⟩ ⟨ents.map (men key val)⟩ clock hr hb' (by intro x hx; simp at hx; obtain ⟨a, v, n, he, rfl⟩ := hx; exact hold _ he) hsc with ⟨h1, h2⟩ | ⟨x, hx, w1, hw1, h2⟩
  · rw [h2]
    refine k1 fun e he => Decidable.byContradiction fun hn => ?_
    have := (hmem (men key val e)).2 ⟨e, he, hn, rfl⟩
    have h0 : (leftOf ⟨ents.map (men key val)⟩ ⟨seen⟩).toList = [] := List.length_eq_zero_iff.1 (by simpa using h1)
    rw [h0] at this; cases this
  · rw [h2]
    obtain ⟨e, he, hn, rfl⟩ := (hmem x).1 hx
    have H1 : Hp w0 w1 (⟨r, .o (iobj b since seen c0), []⟩ :: L) := by
      rcases hw1 with rfl | rfl
      · exact H
      · exact H.drew
    have hr1 : w1.heap[r]? = some (iobj b since seen c0) := (H1.blk ⟨r, .o (iobj b since seen c0), []⟩ (by simp)).2
    have e2 : ChangeMaps.setBlock w1 r (.mapIter (some b) since ((⟨seen⟩ : Array Nat).push e.2.2) clock) = putB w1 r (iobj b since (seen ++ [e.2.2]) clock) := by
      simp [ChangeMaps.setBlock, putB, iobj]
    have e3 : (men key val e).born = e.2.2 := rfl
    rw [e3, e2]
    refine k2 _ e he hn (H1.updU Upd.here (putO_at (heap_lt hr1)) (Ext.putO _ _))
end
section
variable {κ ν : Type} [DecidableEq κ] {T kt et : TypeId} {d : TypeDesc} {key : κ → Value} {val : ν → Value} {z : ν} {w w' w0 : World} {L L' F : List Chunk} {b clock : Nat} {K : VK} {R : ER}
end
section
variable {κ ν : Type} {T kt et : TypeId} {d : TypeDesc} {key : κ → Value} {val : ν → Value} {z : ν} {w w' w0 : World} {L L' F : List Chunk} {b clock : Nat} {K : VK} {R : ER}
theorem entry_h {ents : List (κ × ν × Nat)} {r since : Nat} {seen : List Nat} {e : κ × ν × Nat} (H : Hp w0 w (⟨r, .o (iobj b since (seen ++ [e.2.2]) clock), []⟩ :: L)) (hm : Has L b (.o (mobj key val ents clock)) []) (he : e ∈ ents) (hw : MW ents clock)
    (k : K (.tuple ⟨[key e.1, val e.2.1]⟩) w) : valV Pg R (Instr.entry (ptr r 0)) K w := by
  have hb' : w.heap[b]? = some (mobj key val ents clock) := (H.blk _ (Has.cons hm)).2
  have hr : w.heap[r]? = some (iobj b since (seen ++ [e.2.2]) clock) := (H.blk ⟨r, .o (iobj b since (seen ++ [e.2.2]) clock), []⟩ (by simp)).2
  unfold valV
  rw [run_entry_at (P := Pg) w r b since ⟨seen⟩ ⟨ents.map (men key val)⟩ clock (men key val e) (by rw [hr]; simp [iobj, men]) hb' (by simp; exact ⟨e.1, e.2.1, e.2.2, he, rfl⟩) (by
    have : (ents.map (men key val)).map (·.born) = ents.map (·.2.2) := by rw [List.map_map]; rfl
    simp only [this]
    exact hw.bn.imp fun h => Nat.ne_of_lt h)]
  exact k
end
section
variable {κ ν : Type} [DecidableEq κ] {T kt et : TypeId} {d : TypeDesc} {key : κ → Value} {val : ν → Value} {z : ν} {w w' w0 : World} {L L' F : List Chunk} {b clock : Nat} {K : VK} {R : ER}
end
end Go.Proofs.YthcekppbbanfeaaGreat.Den
