/- Maps as functions, and objects by their names, in memory. Conditions: none. -/
import Derived.Test.YtmkcjopacmadhaaGreatChM
import Derived.Test.YtmkcjopacmadhaaGreatOm
set_option linter.unusedVariables false
set_option linter.unusedSimpArgs false
set_option maxRecDepth 8000
namespace Go.Proofs.YtmkcjopacmadhaaGreat.Den
open Go Go.RowKit
section
variable {κ ν : Type} [DecidableEq κ] {x y : κ} {v : ν} {ents es : List (κ × ν × Nat)} {e : κ × ν × Nat} {clock : Nat}
theorem mfind_shift : ∀ {ents : List (κ × ν × Nat)} {i : Nat}, mfind x ents (i + 1) = (mfind x ents i).map fun p => (p.1 + 1, p.2)
  | [], i => rfl
  | e :: es, i => by
    unfold mfind; split
    · rfl
    · exact mfind_shift
theorem mget_cons : mget x (e :: es) = if x = e.1 then some e.2.1 else mget x es := by
  unfold mget; rw [mfind]; split
  · rfl
  · rw [mfind_shift]; cases mfind x es 0 <;> rfl
theorem mput_cons : mput x v (e :: es) clock = if x = e.1 then (x, v, e.2.2) :: es else e :: mput x v es clock := by
  unfold mput; rw [mfind]
  by_cases h : x = e.1
  · simp [h]
  · simp only [h, if_false, mfind_shift]
    cases mfind x es 0 <;> simp
theorem nodup_len {α : Type} [DecidableEq α] : ∀ {l l' : List α}, l.Nodup → (∀ a ∈ l, a ∈ l') → l.length ≤ l'.length
  | [], _, _, _ => by simp
  | a :: l, l', hn, hs => by
    obtain ⟨h1, h2⟩ := List.nodup_cons.1 hn
    have ha := hs a (by simp)
    have := nodup_len (l := l) (l' := l'.erase a) h2 fun b hb => (List.mem_erase_of_ne (by rintro rfl; exact h1 hb)).2 (hs b (by simp [hb]))
    rw [List.length_erase_of_mem ha] at this
    have := List.length_pos_of_mem ha
    simp only [List.length_cons]; omega
theorem mget_put : mget y (mput x v ents clock) = if y = x then some v else mget y ents := by
  induction ents with
  | nil => rw [show mput x v [] clock = [(x, v, clock)] from rfl, mget_cons]
  | cons e es ih =>
    rw [mput_cons]; split
    · rename_i h; subst h; rw [mget_cons, mget_cons]; split <;> simp_all
    · rename_i h; rw [mget_cons, mget_cons, ih]; split
      · rename_i h2; subst h2; rw [if_neg (Ne.symm h)]
      · rfl
theorem mput_len : (mput x v ents clock).length ≤ ents.length + 1 := by
  unfold mput; split <;> simp
theorem mget_filter : mget y (ents.filter fun e => decide (e.1 ≠ x)) = if y = x then none else mget y ents := by
  induction ents with
  | nil => simp [mget, mfind]
  | cons e es ih =>
    rw [List.filter_cons]; split
    · rename_i h
      rw [mget_cons, mget_cons, ih]
      simp only [ne_eq, decide_eq_true_eq] at h
      split
      · rename_i h2; subst h2; rw [if_neg h]
      · rfl
    · rename_i h
      simp only [ne_eq, decide_eq_true_eq, Decidable.not_not] at h
      rw [ih, mget_cons]
      split
      · rfl
      · rename_i h2; rw [if_neg (by rw [h]; exact h2)]
theorem mput_mw (hw : MW ents clock) : MW (mput x v ents clock) (mclk x ents clock) := by
  by_cases h : x ∈ mkeys ents
  · obtain ⟨_, h2, h3⟩ := mput_old (v := v) h hw
    rw [h2]; exact h3
  · obtain ⟨h1, h2⟩ := mput_new (v := v) (clock := clock) h
    rw [h1, h2]; exact MW.put_new h hw
end
/-- A map in memory is the function f, of at most n keys. -/
def MapAt {κ ν : Type} [DecidableEq κ] (key : κ → Value) (val : ν → Value) (b : Nat) (f : κ → Option ν) (n : Nat) (c : Chunk) : Prop :=
  ∃ ents clock, c = ⟨b, .o (mobj key val ents clock), []⟩ ∧ MW ents clock ∧ (∀ k, mget k ents = f k) ∧ ents.length ≤ n
section
variable {κ ν : Type} [DecidableEq κ] {T kt et : TypeId} {d : TypeDesc} {key : κ → Value} {val : ν → Value} {z : ν} {w w' w0 : World} {L L' F : List Chunk} {b n : Nat} {K : VK} {R : ER} {f : κ → Option ν} {c : Chunk}
theorem mapGet (M : MapK T kt et d key val z) (x : κ) (h : MapAt key val b f n c) (H : Hp w0 w L) (hm : c ∈ L) (k : K (val ((f x).getD z)) w) : valV Pg R (Instr.lookup T (.map (some b)) (key x) false) K w := by
  obtain ⟨ents, clock, rfl, hw, hf, _⟩ := h
  refine lookup_h M x H hm ?_
  unfold lkv; rw [hf]; exact k
theorem mapGet2 (M : MapK T kt et d key val z) (x : κ) (h : MapAt key val b f n c) (H : Hp w0 w L) (hm : c ∈ L) (k : K (.tuple ⟨[val ((f x).getD z), .bool (f x).isSome]⟩) w) : valV Pg R (Instr.lookup T (.map (some b)) (key x) true) K w := by
  obtain ⟨ents, clock, rfl, hw, hf, _⟩ := h
  refine lookup2_h M x H hm ?_
  unfold lkv; rw [hf]; exact k
theorem mapPut (M : MapK T kt et d key val z) (x : κ) (v : ν) (h : MapAt key val b f n c) (H : Hp w0 w L) (hS : Split L [c] F) (k : ∀ w' c', Hp w0 w' (c' :: F) → MapAt key val b (updF f x (some v)) (n + 1) c' → K undef w') :
    unitV Pg R (Instr.mapUpdate T (.map (some b)) (key x) (val v)) K w := by
  obtain ⟨ents, clock, rfl, hw, hf, hn⟩ := h
  refine put_h M x v (H.split hS) Upd.here fun w' H' => k w' _ H' ⟨_, _, rfl, mput_mw hw, fun y => ?_, Nat.le_trans mput_len (by omega)⟩
  rw [mget_put, hf]; rfl
theorem mapDel (M : MapK T kt et d key val z) (x : κ) {ty : Nat} {cc : Array Bool} (h : MapAt key val b f n c) (H : Hp w0 w L) (hS : Split L [c] F) (k : ∀ w' c', Hp w0 w' (c' :: F) → MapAt key val b (updF f x none) n c' → K (.tuple ⟨[]⟩) w') :
    blt Pg R .delete ⟨[T, kt]⟩ ty cc ⟨[.map (some b), key x]⟩ K w := by
  obtain ⟨ents, clock, rfl, hw, hf, hn⟩ := h
  refine delete_h M x (H.split hS) Upd.here fun w' H' => k w' _ H' ⟨_, _, rfl, hw.del, fun y => ?_, ?_⟩
  · rw [mdel_eq hw.nd, mget_filter, hf]; rfl
  · rw [mdel_eq hw.nd]; exact Nat.le_trans (List.length_filter_le _ _) hn
theorem mapLen (M : MapK T kt et d key val z) {ty : Nat} {cc : Array Bool} (h : MapAt key val b f n c) (H : Hp w0 w L) (hm : c ∈ L) (k : ∀ m : Nat, m ≤ n → K (I (m : Int)) w) : blt Pg R .len ⟨[T]⟩ ty cc ⟨[.map (some b)]⟩ K w := by
  obtain ⟨ents, clock, rfl, hw, hf, hn⟩ := h
  exact mlen_h M H hm (k _ hn)
theorem mapMake (key : κ → Value) (val : ν → Value) (H : Hp w0 w L) (k : ∀ w' b c, Hp w0 w' (c :: L) → MapAt key val b (fun _ => none) 0 c → K (.map (some b)) w') : valV Pg R (Instr.makeMap T none) K w :=
  make_m (key := key) (val := val) H fun w' b H' => k w' b _ H' ⟨[], 0, rfl, MW.nil, fun _ => rfl, Nat.le_refl _⟩
theorem MapAt.mono {n' : Nat} (h : MapAt key val b f n c) (hn : n ≤ n') : MapAt key val b f n' c := by
  obtain ⟨ents, clock, h1, h2, h3, h4⟩ := h
  exact ⟨ents, clock, h1, h2, h3, by omega⟩
/-- There is room among the first n + 1 names. -/
theorem MapAt.free {f : Int → Option ν} {key : Int → Value} (h : MapAt key val b f n c) : ∃ m : Nat, m ≤ n ∧ f (m : Int) = none ∧ ∀ j : Nat, j < m → f (j : Int) ≠ none := by
  obtain ⟨ents, clock, h1, h2, h3, h4⟩ := h
  have key : ∀ k : Nat, (∀ j : Nat, j < k → f (j : Int) ≠ none) → k ≤ ents.length := by
    intro k hk
    have hsub : ∀ x ∈ (List.range k).map fun j : Nat => (j : Int), x ∈ mkeys ents := by
      intro x hx
      obtain ⟨j, hj, rfl⟩ := List.mem_map.1 hx
      have := hk j (by simpa using hj)
      rw [← h3] at this
      exact Decidable.byContradiction fun hn => this (mget_none.2 hn)
    have hnd : ((List.range k).map fun j : Nat => (j : Int)).Nodup := by
      rw [List.nodup_iff_pairwise_ne, List.pairwise_map]
      exact (List.nodup_iff_pairwise_ne.1 List.nodup_range).imp fun h => by omega
    have := (nodup_len hnd hsub)
    simpa [mkeys] using this
  have hex : ∃ k : Nat, f (k : Int) = none := Classical.byContradiction fun hn => by
    have := key (ents.length + 1) fun j _ h => hn ⟨j, h⟩
    omega
  obtain ⟨m, hm⟩ := hex
  have : ∃ m : Nat, f (m : Int) = none ∧ ∀ j : Nat, j < m → f (j : Int) ≠ none := by
    induction m using Nat.strongRecOn with
    | _ m ih =>
      by_cases h : ∃ j : Nat, j < m ∧ f (j : Int) = none
      · obtain ⟨j, hj, hf⟩ := h; exact ih j hj hf
      · exact ⟨m, hm, fun j hj hf => h ⟨j, hj, hf⟩⟩
  obtain ⟨m, h5, h6⟩ := this
  exact ⟨m, by have := key m h6; omega, h5, h6⟩
end
/-- Maps by numbers. -/
theorem run_eqI {kt : TypeId} {k : IntKind} (h : Pg.underlying kt = some (.int k)) (n : Nat) (x y : Int) (w : World) : (Op.equalIn (n + 1) kt (.int k x) (.int k y)).run Pg w = .ok (decide (x = y)) w := by
  simp [Op.equalIn, Sem.run_bind, run_underlying' h, Result.andThen]
  by_cases h : x = y <;> simp [h]
theorem run_ckI {kt : TypeId} {k : IntKind} (h : Pg.underlying kt = some (.int k)) (b : Bool) (n : Nat) (v : Value) (w : World) : (Instr.checkKey b (n + 1) kt v).run Pg w = .ok () w := by
  simp [Instr.checkKey, Sem.run_bind, run_underlying' h, Result.andThen]
theorem MapK.int {ν : Type} {T kt et : TypeId} {k : IntKind} {val : ν → Value} {z : ν} (h1 : Pg.underlying T = some (.map kt et)) (h2 : Pg.underlying kt = some (.int k)) (h3 : (Pg.info? et).bind (·.zero) = some (val z)) :
    MapK (κ := Int) T kt et (.int k) (fun n => .int k n) val z :=
  ⟨h1, h2, h3, fun x y w => run_eqI h2 9999 x y w, fun b x w => run_ckI h2 b 9999 _ w, .inl fun x y => by
    simp only [Instr.sameNow, if_true]
    by_cases h : x = y <;> simp [h], fun x => by simp [Instr.sameBits]⟩
/-- Objects one after the other. -/
def Objs {X : Type} (P : Nat → X → List Chunk → Prop) : List (Nat × X) → List Chunk → Prop
  | [], A => A = []
  | a :: l, A => ∃ c B, P a.1 a.2 c ∧ Objs P l B ∧ A = c ++ B
section
variable {X : Type} {P P' : Nat → X → List Chunk → Prop} {l : List (Nat × X)} {A c : List Chunk} {r : Nat} {x : X}
def odel (r : Nat) : List (Nat × X) → List (Nat × X)
  | [] => []
  | a :: l => if a.1 = r then l else a :: odel r l
theorem Objs.nil : Objs P [] [] := rfl
theorem Objs.app (h : Objs P l A) (hc : P r x c) : Objs P (l ++ [(r, x)]) (A ++ c) := by
  induction l generalizing A with
  | nil => obtain rfl : A = [] := h; exact ⟨c, [], hc, rfl, by simp⟩
  | cons a l ih =>
    obtain ⟨d, B, h1, h2, rfl⟩ := h
    exact ⟨d, B ++ c, h1, ih h2, by simp⟩
theorem Objs.mono (h : Objs P l A) (hp : ∀ r x c, (r, x) ∈ l → P r x c → P' r x c) : Objs P' l A := by
  induction l generalizing A with
  | nil => exact h
  | cons a l ih =>
    obtain ⟨d, B, h1, h2, rfl⟩ := h
    exact ⟨d, B, hp _ _ _ (by simp) h1, ih h2 fun r x c hm => hp r x c (List.mem_cons_of_mem _ hm), rfl⟩
/-- One of them, and what stands around it. -/
theorem Objs.focus (h : Objs P l A) (hx : oget r l = some x) : ∃ U c V, A = U ++ (c ++ V) ∧ P r x c ∧ (∀ P' : Nat → X → List Chunk → Prop, (∀ r x c, P r x c → P' r x c) → ∀ x' c', P' r x' c' → Objs P' (oset r x' l) (U ++ (c' ++ V))) ∧ Objs P (odel r l) (U ++ V) := by
  induction l generalizing A with
  | nil => cases hx
  | cons a l ih =>
    obtain ⟨d, B, h1, h2, rfl⟩ := h
    unfold oget at hx
    by_cases ha : a.1 = r
    · rw [if_pos ha] at hx
      injection hx with hx
      subst hx; subst ha
      refine ⟨[], d, B, rfl, h1, fun P' hp x' c' h' => ?_, ?_⟩
      · unfold oset; rw [if_pos rfl]; exact ⟨c', B, h', h2.mono fun r x c _ h => hp r x c h, rfl⟩
      · unfold odel; rw [if_pos rfl]; exact h2
    · rw [if_neg ha] at hx
      obtain ⟨U, c, V, rfl, h3, h4, h5⟩ := ih h2 hx
      refine ⟨d ++ U, c, V, by simp, h3, fun P' hp x' c' h' => ?_, ?_⟩
      · unfold oset; rw [if_neg ha]; exact ⟨d, _, hp _ _ _ h1, h4 P' hp x' c' h', by simp⟩
      · unfold odel; rw [if_neg ha]; exact ⟨d, _, h1, h5, by simp⟩
theorem odel_keys_sub : ∀ {l : List (Nat × X)}, (odel r l).Sublist l
  | [] => List.Sublist.slnil
  | a :: l => by
    unfold odel; split
    · exact List.sublist_cons_self _ _
    · exact odel_keys_sub.cons_cons _
theorem oget_del_ne {r' : Nat} (h : r' ≠ r) : oget r' (odel r l) = oget r' l := by
  induction l with
  | nil => rfl
  | cons a l ih =>
    unfold odel; split
    · rename_i h1; simp [oget, h1, Ne.symm h]
    · rename_i h1; simp [oget, ih]
end
end Go.Proofs.YtmkcjopacmadhaaGreat.Den
