/- Maps in memory: an entry and a store to it (m[k] += v). Conditions: none. -/
import Derived.Test.YtmkcjopacmadhaaChH
set_option linter.unusedVariables false
set_option linter.unusedSimpArgs false
set_option maxRecDepth 8000
namespace Go.Proofs.Ytmkcjopacmadhaa.Den
open Go Go.RowKit
/-- A map of which one entry is known by its birth. -/
def MapE {κ ν : Type} [DecidableEq κ] (key : κ → Value) (val : ν → Value) (b : Nat) (f : κ → Option ν) (n : Nat) (x : κ) (born : Nat) (c : Chunk) : Prop :=
  ∃ ents clock, c = ⟨b, .o (mobj key val ents clock), []⟩ ∧ MW ents clock ∧ (∀ k, mget k ents = f k) ∧ ents.length ≤ n ∧ ∃ v, (x, v, born) ∈ ents
section
variable {κ ν : Type} [DecidableEq κ] {T kt et : TypeId} {d : TypeDesc} {key : κ → Value} {val : ν → Value} {z : ν} {w w' w0 : World} {L L' F : List Chunk} {b n born : Nat} {K : VK} {R : ER} {f : κ → Option ν} {c : Chunk} {x : κ}
theorem MapE.at (h : MapE key val b f n x born c) : MapAt key val b f n c := by
  obtain ⟨ents, clock, h1, h2, h3, h4, _⟩ := h
  exact ⟨ents, clock, h1, h2, h3, h4⟩
theorem mapEntry_h (M : MapK T kt et d key val z) (x : κ) (h : MapAt key val b f n c) (H : Hp w0 w L) (hS : Split L [c] F)
    (k : ∀ w' c' (born : Nat), Hp w0 w' (c' :: F) → MapE key val b (updF f x (some ((f x).getD z))) (n + 1) x born c' → K (.tuple ⟨[val ((f x).getD z), I (born : Int)]⟩) w') : valV Pg R (Instr.mapEntry T (.map (some b)) (key x)) K w := by
  obtain ⟨ents, clock, rfl, hw, hf, hn⟩ := h
  have H := H.split hS
  have hb' : w.heap[b]? = some (mobj key val ents clock) := (H.blk ⟨b, .o (mobj key val ents clock), []⟩ (by simp)).2
  cases hfi : mfind x ents 0 with
  | none =>
    have hz : f x = none := by rw [← hf]; unfold mget; rw [hfi]; rfl
    have hrun : (Instr.mapEntry T (.map (some b)) (key x)).run Pg w = .ok (.tuple ⟨[val z, I (clock : Int)]⟩) (putB w b (mobj key val (ents ++ [(x, z, clock)]) (clock + 1))) := by
      unfold Instr.mapEntry
      rw [Sem.run_bind, run_underlying' M.under]
      simp only [Result.andThen, Sem.run_bind, run_getO hb', mobj, M.chk, findKey_run M, hfi, Option.map_none, run_zeroValue' M.zero]
      rw [run_setM _ hb']
      simp [men, goInt]
    have hk := k _ _ clock ((H.updU (L' := ⟨b, .o (mobj key val (ents ++ [(x, z, clock)]) (clock + 1)), []⟩ :: F) Upd.here (putO_at (heap_lt hb')) (Ext.putO _ _))) ⟨_, _, rfl, MW.put_new (fun hm => by
        obtain ⟨e, he, hx⟩ := List.mem_map.1 hm
        exact mfind_none.1 hfi e he hx.symm) hw, fun y => ?_, by simp; omega, z, by simp⟩
    · unfold valV; rw [hrun]
      rw [hz] at hk; exact hk
    · have hp := mput_new (v := z) (clock := clock) (x := x) (ents := ents) (fun hm => by
        obtain ⟨e, he, hx⟩ := List.mem_map.1 hm
        exact mfind_none.1 hfi e he hx.symm)
      rw [← hp.1, mget_put, hf, hz]; rfl
  | some q =>
    obtain ⟨i, v0⟩ := q
    obtain ⟨_, nb, hi⟩ := mfind_some hfi
    simp only [Nat.sub_zero] at hi
    have hz : f x = some v0 := by rw [← hf]; unfold mget; rw [hfi]; rfl
    have hrun : (Instr.mapEntry T (.map (some b)) (key x)).run Pg w = .ok (.tuple ⟨[val v0, I (nb : Int)]⟩) (putB w b (mobj key val ents clock)) := by
      unfold Instr.mapEntry
      rw [Sem.run_bind, run_underlying' M.under]
      simp only [Result.andThen, Sem.run_bind, run_getO hb', mobj, M.chk, findKey_run M, hfi, Option.map_some]
      have hk : (((⟨ents.map (men key val)⟩ : Array MapEntry)[i]?).map (·.key)).getD (key x) = key x := by simp [hi, men]
      have hbn : (((⟨ents.map (men key val)⟩ : Array MapEntry)[i]?).map (·.born)).getD 0 = nb := by simp [hi, men]
      simp only [hk, hbn, Instr.keyThatStays, M.bits, if_true, Sem.run_pure, Result.andThen_ok, Sem.run_bind]
      rw [run_setM _ hb']
      have e : (⟨ents.map (men key val)⟩ : Array MapEntry).modify i (fun e => { e with key := key x }) = ⟨ents.map (men key val)⟩ := by
        apply Array.ext'
        simp only [Array.toList_modify]
        apply List.ext_getElem?
        intro j
        rw [List.getElem?_modify, List.getElem?_map]
        by_cases hj : i = j
        · subst hj; simp [hi, men]
        · simp [hj]
      rw [e]
      simp [goInt, hi, men]
    have hk := k _ _ nb ((H.updU (L' := ⟨b, .o (mobj key val ents clock), []⟩ :: F) Upd.here (putO_at (heap_lt hb')) (Ext.putO _ _))) ⟨ents, clock, rfl, hw, fun y => ?_, by omega, v0, List.mem_of_getElem? hi⟩
    · unfold valV; rw [hrun]
      rw [hz] at hk; exact hk
    · rw [hf, hz]; unfold updF; split
      · rename_i h; rw [h, hz]; rfl
      · rfl
theorem entryStore_h (v : ν) (h : MapE key val b f n x born c) (H : Hp w0 w L) (hS : Split L [c] F)
    (k : ∀ w' c', Hp w0 w' (c' :: F) → MapAt key val b (updF f x (some v)) n c' → K undef w') : unitV Pg R (Instr.entryStore T (.map (some b)) (I (born : Int)) (val v)) K w := by
  obtain ⟨ents, clock, rfl, hw, hf, hn, v0, hm⟩ := h
  have H := H.split hS
  have hb' : w.heap[b]? = some (mobj key val ents clock) := (H.blk ⟨b, .o (mobj key val ents clock), []⟩ (by simp)).2
  obtain ⟨i, hil, hi⟩ := List.getElem_of_mem hm
  have hi' : ents[i]? = some (x, v0, born) := by rw [List.getElem?_eq_getElem hil, hi]
  have hbn := hw.bn
  have hfind : (⟨ents.map (men key val)⟩ : Array MapEntry).findIdx? (fun e => (e.born : Int) == (born : Int)) = some i := by
    have : (ents.map (men key val)).findIdx? (fun e => (e.born : Int) == (born : Int)) = some i := by
      rw [List.findIdx?_eq_some_iff_getElem]
      refine ⟨by simpa using hil, by simp [hi, men], fun j hj => ?_⟩
      have h1 := List.pairwise_iff_getElem.1 hbn j i (by simp; omega) (by simpa using hil) hj
      simp only [List.getElem_map, hi] at h1
      simp only [List.getElem_map, men, beq_iff_eq]
      omega
    simpa using this
  have hmp : mfind x ents 0 = some (i, v0) := by
    cases hfi : mfind x ents 0 with
    | none => exact absurd rfl (mfind_none.1 hfi _ hm)
    | some q =>
      obtain ⟨j, v1⟩ := q
      obtain ⟨_, nb, hj⟩ := mfind_some hfi
      simp only [Nat.sub_zero] at hj
      obtain ⟨hjl, hj'⟩ := List.getElem?_eq_some_iff.1 hj
      have : j = i := by
        have hnd := hw.nd
        unfold mkeys at hnd
        have e1 : (ents.map (·.1))[j]'(by simpa using hjl) = (ents.map (·.1))[i]'(by simpa using hil) := by simp [hi, hj']
        have hp := List.pairwise_iff_getElem.1 hnd
        rcases Nat.lt_trichotomy j i with h | h | h
        · exact absurd e1 (hp j i _ _ h)
        · exact h
        · exact absurd e1.symm (hp i j _ _ h)
      subst this
      rw [hj] at hi'; injection hi' with hi'; injection hi' with _ hi'; injection hi' with hi' _
      rw [hi']
  have hrun : (Instr.entryStore T (.map (some b)) (I (born : Int)) (val v)).run Pg w = .ok () (putB w b (mobj key val (mput x v ents clock) clock)) := by
    unfold Instr.entryStore
    have hai : ∀ w : World, (asInt (I (born : Int))).run Pg w = .ok (born : Int) w := fun _ => rfl
    simp only [Sem.run_bind, run_getO hb', mobj, Result.andThen, hai, hfind]
    rw [run_setM _ hb']
    have e : (⟨ents.map (men key val)⟩ : Array MapEntry).modify i (fun e => { e with val := val v }) = ⟨(mput x v ents clock).map (men key val)⟩ := by
      apply Array.ext'
      simp only [Array.toList_modify, mput, hmp]
      apply List.ext_getElem?
      intro j
      rw [List.getElem?_modify, List.getElem?_map, List.getElem?_map, List.getElem?_modify]
      by_cases hj : i = j
      · subst hj; simp [hi', men]
      · simp [hj]
    rw [e]
  unfold unitV; rw [hrun]
  refine k _ _ (H.updU Upd.here (putO_at (heap_lt hb')) (Ext.putO _ _)) ⟨_, _, rfl, ?_, fun y => ?_, ?_⟩
  · obtain ⟨_, h2, h3⟩ := mput_old (v := v) (x := x) (List.mem_map.2 ⟨_, hm, rfl⟩ : x ∈ mkeys ents) hw
    exact h3
  · rw [mget_put, hf]; rfl
  · have : (mput x v ents clock).length = ents.length := by unfold mput; rw [hmp]; simp
    omega
/-- The number of keys; none if there is none. -/
theorem mapLen0 (M : MapK T kt et d key val z) {ty : Nat} {cc : Array Bool} (h : MapAt key val b f n c) (H : Hp w0 w L) (hm : c ∈ L) (k : ∀ m : Nat, m ≤ n → (m = 0 ↔ ∀ x, f x = none) → K (I (m : Int)) w) : blt Pg R .len ⟨[T]⟩ ty cc ⟨[.map (some b)]⟩ K w := by
  obtain ⟨ents, clock, rfl, hw, hf, hn⟩ := h
  refine mlen_h M H hm (k _ hn ⟨fun h0 x => ?_, fun h0 => ?_⟩)
  · rw [← hf, List.length_eq_zero_iff.1 h0]; rfl
  · cases ents with
    | nil => rfl
    | cons e es =>
      have := h0 e.1
      rw [← hf, mget_cons, if_pos rfl] at this
      cases this
end
end Go.Proofs.Ytmkcjopacmadhaa.Den
