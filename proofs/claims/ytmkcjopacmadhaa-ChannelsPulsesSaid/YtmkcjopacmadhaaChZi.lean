/- Channels: pulses are counted. Conditions: none. -/
import Derived.Test.YtmkcjopacmadhaaChZf
set_option linter.unusedVariables false
set_option linter.unusedSimpArgs false
set_option maxRecDepth 8000
set_option maxHeartbeats 2000000
namespace Go.Proofs.Ytmkcjopacmadhaa.Den
open Go Go.RowKit
theorem set_map {α β : Type} {f : α → β} {l : List α} {i : Nat} {y z : α} (h : l[i]? = some y) (hf : f z = f y) : (l.set i z).map f = l.map f := by
  apply List.ext_getElem?
  intro j
  rw [List.getElem?_map, List.getElem?_map, List.getElem?_set]
  by_cases hj : i = j
  · subst hj
    have := (List.getElem?_eq_some_iff.1 h).1
    simp [h, this, hf, (List.getElem?_eq_some_iff.1 h).2]
  · simp [hj]
theorem SE_set {l : List Ent} {i : Nat} {y z : Ent} (h : l[i]? = some y) (h1 : z.pri = y.pri) (h2 : z.com = y.com) (hs : SE l) : SE (l.set i z) := by
  have e := set_map (f := fun y : Ent => (y.pri, y.com)) h (z := z) (by simp [h1, h2])
  have key : ∀ l : List Ent, SE l ↔ (l.map fun y : Ent => (y.pri, y.com)).Pairwise fun a b => bfr a.1 a.2 b.1 b.2 = true := fun l => by rw [List.pairwise_map]
  rw [key, e, ← key]; exact hs
section
variable {n c r x : Nat} {T : Tbl} {ch : Chn} {e : Ent} {nm : Nm} {full : Int}
theorem pulse_ok (h : T.Ok n) (hc : oget c T.chs = some ch) (he : e.dh = shN ∧ e.data = [] ∧ e.room = 0) (hcom : e.com ≤ T.com ∧ 1 ≤ T.com) (hl : ∀ y ∈ ch.ents, y.com < e.com ∧ y.cnt < T.com) (hn : (ch.ents.length : Int) < T.com) (hf : oget nm.r T.mss = none) :
    (T.pulse c ch e full nm).1.Ok (n + 1) := by
  obtain ⟨h1, h2, h3⟩ := he
  have hb : 0 ≤ e.pul.room ∧ e.pul.room ≤ 4096 ∧ e.pul.data.length ≤ 4096 := by
    show 0 ≤ e.room ∧ e.room ≤ 4096 ∧ e.data.length ≤ 4096
    rw [h2, h3]; decide
  unfold Tbl.pulse
  split
  · rename_i rv rs hrs
    exact hand_ok h hc hrs hb hf
  · split
    · rename_i i hi
      obtain ⟨hil, _, _⟩ := List.findIdx?_eq_some_iff_getElem.1 hi
      have hy : ch.ents[i]? = some ch.ents[i] := List.getElem?_eq_getElem hil
      rw [modify_at hy]
      refine (h.setCh (ch := { ch with ents := ch.ents.set i ch.ents[i].more }) hc (SE_set hy rfl rfl (h.so c ch hc).1) (h.so c ch hc).2 (fun y hym => ?_) (h.rc c ch hc) ⟨by show ((ch.ents.set i ch.ents[i].more).length : Int) ≤ T.com; rw [List.length_set]; omega, (h.le c ch hc).2⟩).mono (Nat.le_succ n)
      rcases List.mem_or_eq_of_mem_set hym with hm | hm
      · exact h.en c ch hc y hm
      · subst hm
        obtain ⟨a1, a2, a3, a4, a5, a6⟩ := h.en c ch hc _ (List.getElem_mem hil)
        have := (hl _ (List.getElem_mem hil)).2
        exact ⟨a1, a2, a3, a4, by show 0 ≤ ch.ents[i].cnt + 1; omega, by show ch.ents[i].cnt + 1 ≤ T.com; omega⟩
    · split
      · exact h.mono (Nat.le_succ n)
      · exact (queue_ok h hc ⟨hb.1, hb.2.1, hb.2.2, hcom.1, by show (0 : Int) ≤ 1; omega, hcom.2⟩ (fun y hy => (hl y hy).1) hn).mono (Nat.le_succ n)
theorem pulseC_ok {p cn pri code val : Int} (h : T.Ok n) (hf : oget nm.r T.mss = none) : (T.pulseC p cn pri code val nm).1.Ok (n + 2) := by
  unfold Tbl.pulseC
  split; · exact h.mono (by omega)
  split; · exact h.mono (by omega)
  rename_i x cx c ch hl
  obtain ⟨g1, g2, g3, g4⟩ := lead_inr hl
  have hnn := h.nn
  have hle := h.le c ch g4
  refine pulse_ok h.come g4 ⟨rfl, rfl, rfl⟩ ⟨Int.le_refl _, by show 1 ≤ T.com + 1; omega⟩ (fun y hy => ?_) (by show (ch.ents.length : Int) < T.com + 1; omega) hf
  obtain ⟨a1, a2, a3, a4, a5, a6⟩ := h.en c ch g4 y hy
  exact ⟨by show y.com < T.com + 1; omega, by show y.cnt < T.com + 1; omega⟩
end
/-! ### by keys -/
abbrev K3 := Int × Int × Int
def Ent.key (y : Ent) : K3 := (y.pri, y.code, y.val)
def fE (l : List Ent) (k : K3) : Option Int := (l.find? fun y => decide (y.key = k)).map Ent.cnt
theorem fE_cons {y : Ent} {l : List Ent} {k : K3} : fE (y :: l) k = if y.key = k then some y.cnt else fE l k := by
  unfold fE; rw [List.find?_cons]
  by_cases h : y.key = k
  · simp [h]
  · simp [h]
theorem fE_none {l : List Ent} {k : K3} : fE l k = none ↔ ∀ y ∈ l, y.key ≠ k := by
  unfold fE; rw [Option.map_eq_none_iff, List.find?_eq_none]; simp
theorem fE_insE {e : Ent} {k : K3} : ∀ {l : List Ent}, (∀ y ∈ l, y.key ≠ e.key) → fE (insE e l) k = if e.key = k then some e.cnt else fE l k
  | [], _ => by rw [show insE e [] = [e] from rfl, fE_cons]
  | y :: l, h => by
    unfold insE; split
    · rw [fE_cons, fE_insE (fun z hz => h z (by simp [hz])), fE_cons]
      by_cases hy : y.key = k
      · rw [if_pos hy, if_neg (fun he => h y (by simp) (hy.trans he.symm)), if_pos hy]
      · rw [if_neg hy, if_neg hy]
    · rw [fE_cons]
theorem fE_set {y z : Ent} {k : K3} : ∀ {l : List Ent} {i : Nat}, l[i]? = some y → z.key = y.key → (l.map Ent.key).Nodup → fE (l.set i z) k = if y.key = k then some z.cnt else fE l k
  | [], i, h, _, _ => by simp at h
  | a :: l, 0, h, hz, hn => by
    simp at h; subst h
    rw [List.set_cons_zero, fE_cons, fE_cons, hz]
    split <;> rfl
  | a :: l, i + 1, h, hz, hn => by
    simp only [List.getElem?_cons_succ] at h
    rw [List.map_cons, List.nodup_cons] at hn
    rw [List.set_cons_succ, fE_cons, fE_set h hz hn.2, fE_cons]
    have : a.key ≠ y.key := fun he => hn.1 (List.mem_map.2 ⟨y, List.mem_of_getElem? h, he.symm⟩)
    by_cases ha : a.key = k
    · rw [if_pos ha, if_neg (fun hk => this (ha.trans hk.symm)), if_pos ha]
    · rw [if_neg ha, if_neg ha]
theorem insE_nodup {e : Ent} : ∀ {l : List Ent}, (∀ y ∈ l, y.key ≠ e.key) → (l.map Ent.key).Nodup → ((insE e l).map Ent.key).Nodup
  | [], _, _ => by simp [insE]
  | y :: l, h, hn => by
    rw [List.map_cons, List.nodup_cons] at hn
    unfold insE; split
    · rw [List.map_cons, List.nodup_cons]
      refine ⟨fun hm => ?_, insE_nodup (fun z hz => h z (by simp [hz])) hn.2⟩
      obtain ⟨z, hz, hk⟩ := List.mem_map.1 hm
      rcases insE_mem hz with rfl | hz
      · exact h y (by simp) hk.symm
      · exact hn.1 (List.mem_map.2 ⟨z, hz, hk⟩)
    · rw [List.map_cons, List.nodup_cons]
      refine ⟨fun hm => ?_, by rw [List.map_cons, List.nodup_cons]; exact hn⟩
      obtain ⟨z, hz, hk⟩ := List.mem_map.1 hm
      exact h z hz hk
structure PEnt (y : Ent) : Prop where
  th : y.th = -1
  sid : y.sid = 0
  pri : 0 ≤ y.pri ∧ y.pri ≤ 255
  code : 0 ≤ y.code ∧ y.code ≤ 127
  val : 0 ≤ y.val ∧ y.val ≤ 255
  cnt : 1 ≤ y.cnt
structure PInv (T : Tbl) (r x : Nat) (ch : Chn) : Prop where
  at' : T.At 0 1 r x ch
  rc : ch.recs = []
  en : ∀ y ∈ ch.ents, PEnt y
  nd : (ch.ents.map Ent.key).Nodup
  bk : T.blk 100 = none
theorem pulse_one {T : Tbl} {r x : Nat} {ch : Chn} {a b c : Int} {nm : Nm} (h : PInv T r x ch) (ha : 0 ≤ a ∧ a ≤ 255) (hb : 0 ≤ b ∧ b ≤ 127) (hc : 0 ≤ c ∧ c ≤ 255) (hl : ch.ents.length < 64) :
    ∃ T' ch', T.pulseC 1 0 a b c nm = (T', [], 0) ∧ PInv T' r x ch' ∧ (∀ k, fE ch'.ents k = updF (fE ch.ents) (a, b, c) (some ((fE ch.ents (a, b, c)).getD 0 + 1)) k) ∧ ch'.ents.length ≤ ch.ents.length + 1 := by
  have h0 : T.pulseC 1 0 a b c nm = T.come.pulse r ch ⟨a, T.com + 1, 0, 1, 0, none, shN, [], 0, b, c, 0⟩ 2 nm := by
    unfold Tbl.pulseC
    rw [if_neg (fun hn => hn ⟨by decide, ha, hb.1, hb.2⟩), h.at'.lead]
  have hsame : ∀ y ∈ ch.ents, (y.same ⟨a, T.com + 1, 0, 1, 0, none, shN, [], 0, b, c, 0⟩ = true ↔ y.key = (a, b, c)) := by
    intro y hy
    obtain ⟨p1, p2, _⟩ := h.en y hy
    simp only [Ent.same, p1, p2, Ent.key, decide_true, Bool.true_and, Bool.and_true, Bool.and_eq_true, decide_eq_true_eq, Prod.mk.injEq]
    exact ⟨fun ⟨h1, h2, h3⟩ => ⟨h3, h1, h2⟩, fun ⟨h1, h2, h3⟩ => ⟨h2, h3, h1⟩⟩
  have hatc : T.come.At 0 1 r x ch := h.at'.of rfl rfl rfl rfl
  rw [h0]
  unfold Tbl.pulse
  rw [h.rc]
  dsimp only
  cases hi : ch.ents.findIdx? (fun y => y.same ⟨a, T.com + 1, 0, 1, 0, none, shN, [], 0, b, c, 0⟩) with
  | some i =>
    obtain ⟨hil, hs, _⟩ := List.findIdx?_eq_some_iff_getElem.1 hi
    have hy : ch.ents[i]? = some ch.ents[i] := List.getElem?_eq_getElem hil
    have hk := (hsame _ (List.getElem_mem hil)).1 hs
    dsimp only
    rw [modify_at hy]
    have hcn : fE ch.ents (a, b, c) = some ch.ents[i].cnt := by
      have := fE_set (z := ch.ents[i]) (k := (a, b, c)) hy rfl h.nd
      rw [if_pos hk] at this
      rw [← this, List.set_getElem_self]
    refine ⟨_, { ch with ents := ch.ents.set i ch.ents[i].more, recs := [] }, rfl, ⟨hatc.setCh (ch' := { ch with ents := ch.ents.set i ch.ents[i].more, recs := [] }) h.at'.hp, rfl, fun y hym => ?_, ?_, h.bk⟩, fun k => ?_, by simp⟩
    · rcases List.mem_or_eq_of_mem_set hym with hm | hm
      · exact h.en y hm
      · subst hm
        obtain ⟨p1, p2, p3, p4, p5, p6⟩ := h.en _ (List.getElem_mem hil)
        exact ⟨p1, p2, p3, p4, p5, by show 1 ≤ ch.ents[i].cnt + 1; omega⟩
    · show ((ch.ents.set i ch.ents[i].more).map Ent.key).Nodup
      rw [set_map (f := Ent.key) hy (z := ch.ents[i].more) rfl]; exact h.nd
    · show fE (ch.ents.set i ch.ents[i].more) k = _
      rw [fE_set (z := ch.ents[i].more) hy rfl h.nd, hk, hcn]
      unfold updF
      by_cases hq : k = (a, b, c)
      · rw [if_pos hq, if_pos hq.symm]; rfl
      · rw [if_neg hq, if_neg (Ne.symm hq)]
  | none =>
    have hno : ∀ y ∈ ch.ents, y.key ≠ (a, b, c) := by
      intro y hy hk
      have := (List.findIdx?_eq_none_iff.1 hi) y hy
      rw [(hsame y hy).2 hk] at this; cases this
    dsimp only
    have hcp : (ch.ents.countP fun y => decide (y.th = -1)) ≤ ch.ents.length := List.countP_le_length
    rw [if_neg (fun hh => by omega)]
    unfold Tbl.queue
    refine ⟨_, { ch with ents := insE (Ent.pul ⟨a, T.com + 1, 0, 1, 0, none, shN, [], 0, b, c, 0⟩) ch.ents, eh := nm.eh }, rfl, ⟨hatc.setCh (ch' := { ch with ents := insE (Ent.pul ⟨a, T.com + 1, 0, 1, 0, none, shN, [], 0, b, c, 0⟩) ch.ents, eh := nm.eh }) h.at'.hp, h.rc, fun y hym => ?_, ?_, h.bk⟩, fun k => ?_, ?_⟩
    · rcases insE_mem hym with hm | hm
      · subst hm; exact ⟨rfl, rfl, ha, hb, hc, Int.le_refl 1⟩
      · exact h.en y hm
    · exact insE_nodup hno h.nd
    · show fE (insE _ ch.ents) k = _
      rw [fE_insE hno, fE_none.2 hno]
      unfold updF
      show (if (a, b, c) = k then some 1 else _) = _
      by_cases hq : k = (a, b, c)
      · rw [if_pos hq, if_pos hq.symm]; rfl
      · rw [if_neg hq, if_neg (Ne.symm hq)]
    · exact Nat.le_of_eq insE_len
/-- A pulse is received. -/
theorem pop_one {T T' : Tbl} {r x : Nat} {ch ch' : Chn} {e : Ent} {t : List Ent} (h : PInv T r x ch) (he : ch.ents = e :: t) (hat : T'.At 0 1 r x ch') (hen : ch'.ents = t) (hrc : ch'.recs = ch.recs) (hb : T'.blk = T.blk) :
    PInv T' r x ch' ∧ ∀ k, fE ch'.ents k = updF (fE ch.ents) e.key none k := by
  have hn := h.nd
  rw [he, List.map_cons, List.nodup_cons] at hn
  refine ⟨⟨hat, by rw [hrc, h.rc], fun y hy => h.en y (by rw [he]; rw [hen] at hy; simp [hy]), by rw [hen]; exact hn.2, by rw [hb]; exact h.bk⟩, fun k => ?_⟩
  show fE ch'.ents k = if k = e.key then none else fE ch.ents k
  rw [hen, he]
  by_cases hk : k = e.key
  · rw [if_pos hk]
    exact fE_none.2 fun y hy hyk => hn.1 (List.mem_map.2 ⟨y, hy, by rw [hyk, hk]⟩)
  · rw [if_neg hk, fE_cons, if_neg (Ne.symm hk)]
end Go.Proofs.Ytmkcjopacmadhaa.Den
