/- The walks of cut, Remove, SetPriority, SetMask and Rotate. Conditions: none. -/
import Derived.Test.YticnobfmpogcoaaRdW5
set_option linter.unusedVariables false
set_option linter.unusedSimpArgs false
set_option maxRecDepth 8000
namespace Go.Proofs.Yticnobfmpogcoaa.Den
open Go Go.RowKit
section
variable {w : World} {b : Nat} {q : QS} {L : List Ent} {x : Ent}
theorem ring_split (h : Rep0 q L) (hx : x ∈ L) : ∃ a c, ring L x.p = a ++ x.t :: c ∧ x.t ∉ a ∧ x.t ∉ c := by
  have hm : x.t ∈ ring L x.p := mem_ring.2 ⟨x, hx, rfl, rfl⟩
  obtain ⟨a, c, h1⟩ := List.append_of_mem hm
  have hnd := ring_nodup h.good.nodup x.p
  rw [h1] at hnd
  have h2 := List.nodup_append.1 hnd
  exact ⟨a, c, h1, fun hm => h2.2.2 _ hm _ (by simp) rfl, (List.nodup_cons.1 h2.2.1).1⟩
theorem filter_split {a c : List Nat} {t : Nat} (h1 : t ∉ a) (h2 : t ∉ c) : (a ++ t :: c).filter (· != t) = a ++ c := by
  rw [List.filter_append, List.filter_cons]
  simp only [bne_self_eq_false, Bool.false_eq_true, if_false]
  rw [List.filter_eq_self.2 (fun u hu => by simpa using fun e : u = t => h1 (e ▸ hu)), List.filter_eq_self.2 (fun u hu => by simpa using fun e : u = t => h2 (e ▸ hu))]
/-- What stands beside a thread of a ring. -/
theorem ring_next {a c : List Nat} {p t : Nat} (hr : Ring q p (a ++ t :: c)) : ∃ y z : Nat, q.next t = (y : Int) ∧ q.prev t = (z : Int) ∧ y ∈ a ++ t :: c ∧ z ∈ a ++ t :: c ∧ (y = t → a ++ c = [] ∨ y ∈ a ++ c) := by
  cases a with
  | nil =>
    have hp := (Chain_last c t t hr.2).1
    cases c with
    | nil => exact ⟨t, t, hr.2.1, hr.2.2, by simp, by simp, fun _ => .inl rfl⟩
    | cons u c => exact ⟨u, lst t (u :: c), hr.2.1.1, hp, by simp, lst_mem (u :: c) t, fun _ => .inr (by simp)⟩
  | cons h a =>
    obtain ⟨h1, h2⟩ := (Chain_append q a h t h c).1 hr.2
    have hp := (Chain_last a h t h1).1
    cases c with
    | nil => exact ⟨h, lst h a, h2.1, hp, by simp, List.mem_append_left _ (lst_mem a h), fun _ => .inr (by simp)⟩
    | cons u c => exact ⟨u, lst h a, h2.1.1, hp, by simp, List.mem_append_left _ (lst_mem a h), fun _ => .inr (by simp)⟩
theorem cut_spec (hb : QB w b q) (h : Rep0 q L) (hx : x ∈ L) : Calls Pg 29 ⟨[ptr b 0, I (x.t : Int)]⟩ w fun e w' => e = .returned (.tuple ⟨[]⟩) ∧
    (∃ q2, QB w' b q2 ∧ Rep0 q2 (eraseL x.t L) ∧ q2.inn = q.inn ∧ q2.n = q.n ∧ q2.prio = q.prio ∧ q2.mask = q.mask) ∧ Ext [b] w w' := by
  obtain ⟨ht, hp', _, _⟩ := h.good.ok x hx
  obtain ⟨a, c, hsp, hta, htc⟩ := ring_split h hx
  have hrg := h.rings x.p hp'
  have hnd := ring_nodup h.good.nodup x.p
  rw [hsp] at hrg hnd
  have hlt : ∀ u, u ∈ a ++ x.t :: c → u < 256 := fun u hu => by
    rw [← hsp] at hu
    obtain ⟨e, he, _, h2⟩ := mem_ring.1 hu
    rw [← h2]; exact (h.good.ok e he).1
  obtain ⟨y, z, hy, hz, hym, hzm, hyt⟩ := ring_next hrg
  have hyl := hlt y hym
  have hzl := hlt z hzm
  have hother : ∀ e ∈ L, e.p ≠ x.p → e.t ≠ y ∧ e.t ≠ z := by
    intro e he hep
    have key : ∀ u, u ∈ a ++ x.t :: c → e.t ≠ u := fun u hu hue => by
      rw [← hsp] at hu
      obtain ⟨e', he', h1, h2⟩ := mem_ring.1 hu
      exact hep (by rw [← h1, ent_inj h.good.nodup he he' (hue.trans h2.symm)])
    exact ⟨key y hym, key z hzm⟩
  apply ready_ring_cut_calls
  unfold ready_ring_cut
  simp only [nilO_ptr, pv_some, faO_mk, ixA_mk ht, Nat.zero_add, Nat.add_zero]
  refine ld_prio hb ht ?_
  refine ld_next hb ht ?_
  rw [h.prio x hx, hy, bin_eql, pv_some]
  simp only [ixA_mk hp', pv_some, Nat.zero_add, Nat.mul_one]
  refine cnd_decide (fun hc => ?_) (fun hc => ?_)
  · have hyx : y = x.t := by omega
    have hac : a ++ c = [] := by
      rcases hyt hyx with e | e
      · exact e
      · rw [hyx] at e
        rcases List.mem_append.1 e with e | e
        · exact absurd e hta
        · exact absurd e htc
    refine st_first hb hp' fun w1 hb1 h1 => ?_
    simp only [drewV, mem, quo64 (show x.p < 2 ^ 62 by omega), rem64, pv_some, ixA_mk (show x.p / 64 < 4 by omega), shl_one (show x.p % 64 < 64 by omega), Nat.mul_one]
    refine ld_word (t := x.p / 64) (Blk.drew hb1) (by omega) ?_
    rw [bits_andNot _ _ (h.words _ (by omega)) (by omega)]
    simp only [pv_some]
    refine st_word (t := x.p / 64) (Blk.drew hb1) (by omega) fun w2 hb2 h2 => ?_
    refine ⟨by trivial, ⟨_, hb2, ?_, rfl, rfl, rfl, rfl⟩, (h1.trans (Ext.drew _ _)).trans h2⟩
    have hf0 : (ring L x.p).filter (· != x.t) = [] := by rw [hsp, filter_split hta htc, hac]
    refine Rep0_erase h hx (fun _ => rfl) (fun _ => rfl) ?_ (fun e he hep => ⟨rfl, rfl⟩) (fun p hp => ?_) (fun p hp => ?_) (fun k hk => ?_)
    · rw [hf0]; exact fup_same _ _ _
    · exact fup_ne _ _ hp
    · rw [bit_clr (q := q) (p := x.p) (fun k => by simp only [fup]; split <;> simp_all), hf0]
      by_cases hpx : p = x.p <;> simp [hpx]
    · simp only [fup]
      split
      · exact Nat.lt_of_le_of_lt Nat.and_le_left (h.words _ (by omega))
      · exact h.words k hk
  · have hyx : y ≠ x.t := by omega
    have hac : a ++ c ≠ [] := fun e => by
      have ha := (List.append_eq_nil_iff.1 e).1
      have hcn := (List.append_eq_nil_iff.1 e).2
      subst ha; subst hcn
      simp at hym; exact hyx hym
    have hzx : z ≠ x.t := by
      intro e
      subst e
      cases a with
      | nil =>
        have := (Chain_last c x.t x.t hrg.2).1
        rw [hz] at this
        cases c with
        | nil => exact hac rfl
        | cons u c => exact htc (by rw [Int.ofNat.inj this]; exact lst_mem c u)
      | cons h0 a =>
        obtain ⟨g1, g2⟩ := (Chain_append q a h0 x.t h0 c).1 hrg.2
        have := (Chain_last a h0 x.t g1).1
        rw [hz] at this
        exact hta (by rw [Int.ofNat.inj this]; exact lst_mem a h0)
    simp only [drewV]
    refine ld_prev (Blk.drew hb) ht ?_
    refine ld_next (Blk.drew hb) ht ?_
    rw [hz, hy]
    refine ld_next (Blk.drew hb) ht ?_
    refine ld_prev (Blk.drew hb) ht ?_
    rw [hz, hy]
    simp only [ixA_mk hzl, ixA_mk hyl, pv_some, faO_mk, Nat.add_zero]
    refine st_next (Blk.drew hb) hzl fun w1 hb1 h1 => ?_
    refine st_prev hb1 hyl fun w2 hb2 h2 => ?_
    refine ld_first hb2 hp' ?_
    rw [bin_eql, pv_some]
    have hE : Ext [b] w w2 := ((Ext.drew _ _).trans h1).trans h2
    have core : ∀ q2 : QS, q2.next = fup q.next z (y : Int) → q2.prev = fup q.prev y (z : Int) → q2.first = (if q.first x.p = (x.t : Int) then fup q.first x.p (y : Int) else q.first) → q2.prio = q.prio → q2.mask = q.mask → q2.words = q.words →
        Rep0 q2 (eraseL x.t L) := by
      intro q2 e1 e2 e3 e4 e5 e6
      refine Rep0_erase h hx (fun _ => by rw [e4]) (fun _ => by rw [e5]) ?_ (fun e he hep => ?_) (fun p hp => ?_) (fun p hp => ?_) (fun k hk => ?_)
      · rw [hsp, filter_split hta htc]
        refine Ring_cut hnd hac hrg hz hy (fun u => by rw [e1]; rfl) (fun u => by rw [e2]; rfl) ?_
        rw [e3]; split
        · exact fup_same _ _ _
        · rfl
      · obtain ⟨g1, g2⟩ := hother e he hep
        rw [e1, e2]; exact ⟨fup_ne _ _ g2, fup_ne _ _ g1⟩
      · rw [e3]; split
        · exact fup_ne _ _ hp
        · rfl
      · have : q2.bit p = q.bit p := by unfold QS.bit; rw [e6]
        rw [this]
        by_cases hpx : p = x.p
        · subst hpx
          rw [if_pos rfl, h.bits x.p hp, hsp, filter_split hta htc]
          cases hh : a ++ c with
          | nil => exact absurd hh hac
          | cons _ _ => cases a <;> simp
        · rw [if_neg hpx]
      · rw [e6]; exact h.words k hk
    refine cnd_decide (fun hc2 => ?_) (fun hc2 => ?_)
    · have hc3 : q.first x.p = (x.t : Int) := hc2
      refine ld_next (Blk.drew hb2) ht ?_
      have hny : (fup q.next z (y : Int)) x.t = (y : Int) := by rw [fup_ne _ _ (Ne.symm hzx), hy]
      refine st_first (Blk.drew hb2) hp' fun w3 hb3 h3 => ?_
      exact ⟨by trivial, ⟨_, hb3, core _ rfl rfl (by rw [if_pos hc3]; exact congrArg (fup q.first x.p) hny) rfl rfl rfl, rfl, rfl, rfl, rfl⟩, (hE.trans (Ext.drew _ _)).trans h3⟩
    · have hc3 : ¬ q.first x.p = (x.t : Int) := hc2
      exact ⟨by trivial, ⟨_, hb2, core _ rfl rfl (by rw [if_neg hc3]) rfl rfl rfl, rfl, rfl, rfl, rfl⟩, hE⟩

def aRemove (L : List Ent) (t : Int) : Int × List Ent := if hasE L t true = 0 then (0, eraseL t.toNat L) else (hasE L t true, L)
theorem hasE_ok {L : List Ent} {x : Int} {r : Bool} (h0 : hasE L x r = 0) : r = true ∧ ∃ e ∈ L, (e.t : Int) = x := by
  unfold hasE at h0
  split at h0
  · rename_i hc
    simp only [Bool.and_eq_true] at hc
    split at h0
    · rename_i hi
      obtain ⟨t, rfl, ht⟩ := isT_true hc.1
      obtain ⟨e, he, h1⟩ := inL_iff.1 hi
      exact ⟨hc.2, e, he, by omega⟩
    · cases h0
  · cases h0
theorem erase_length {L : List Ent} (h : Good L) {x : Ent} (hx : x ∈ L) : (eraseL x.t L).length + 1 = L.length := by
  have : ∀ l : List Ent, (l.map (·.t)).Nodup → x ∈ l → (eraseL x.t l).length + 1 = l.length := by
    intro l
    induction l with
    | nil => intro _ h; cases h
    | cons y l ih =>
      intro hn hm
      simp only [List.map_cons, List.nodup_cons] at hn
      unfold eraseL at ih ⊢
      rw [List.filter_cons]
      rcases List.mem_cons.1 hm with h1 | h1
      · subst h1
        have : l.filter (fun e => e.t != x.t) = l := List.filter_eq_self.2 fun e he => by
          have : e.t ≠ x.t := fun q => hn.1 (List.mem_map.2 ⟨e, he, q⟩)
          simpa using this
        simp [this]
      · have hne : y.t ≠ x.t := fun q => hn.1 (List.mem_map.2 ⟨x, h1, q.symm⟩)
        simp [hne, ih hn.2 h1]
  exact this L h.nodup hx
theorem Remove_spec (h : RQ w b L) (t : Int) (hlen : L.length < 1000) :
    Calls Pg 15 ⟨[ptr b 0, I t]⟩ w fun e w' => e = .returned (I (aRemove L t).1) ∧ RQ w' b (aRemove L t).2 ∧ Ext [b] w w' := by
  apply ready_Queue_Remove_calls
  unfold ready_Queue_Remove
  refine cal_of (has_spec h t true) ?_
  rintro e w' ⟨rfl, rfl⟩
  simp only [retK, bin_neq, pv_some]
  refine cnd_decide (fun hc => ?_) (fun hc => ?_)
  · simp only [aRemove, if_neg hc]; exact ⟨by trivial, h, Ext.refl _ _⟩
  · have h0 : hasE L t true = 0 := by simpa using hc
    obtain ⟨_, x, hx, rfl⟩ := hasE_ok h0
    obtain ⟨q, hb, hr⟩ := h
    obtain ⟨ht, _, _, _⟩ := hr.good.ok x hx
    simp only [nilO_ptr, pv_some, faO_mk, ixA_mk ht, Nat.zero_add, Nat.add_zero]
    refine cal_of (cut_spec hb hr.toRep0 hx) ?_
    rintro e w1 ⟨rfl, ⟨q2, hb2, hr2, e1, e2, e3, e4⟩, h1⟩
    simp only [retK]
    refine st_inn hb2 ht fun w2 hb3 h2 => ?_
    refine ld_n hb3 ?_
    have hn : q2.n = (L.length : Int) := by rw [e2]; exact hr.n
    have hpos : 0 < L.length := List.length_pos_of_mem hx
    rw [bin_sub, pv_some, show ((QS.n _ : Int)) = (L.length : Int) from hn, wrap64_id (by omega) (by omega)]
    refine st_n hb3 fun w3 hb4 h3 => ?_
    simp only [aRemove, if_pos h0, Int.toNat_natCast]
    refine ⟨by trivial, ⟨_, hb4, ⟨Rep0_same hr2 rfl rfl rfl rfl rfl rfl, fun u hu => ?_, ?_⟩⟩, (h1.trans h2).trans h3⟩
    · show fup q2.inn x.t false u = true ↔ _
      rw [e1]
      by_cases hut : u = x.t
      · subst hut; rw [fup_same]
        exact ⟨fun q => (by cases q), fun ⟨e, he, h4⟩ => absurd h4 (mem_erase.1 he).2⟩
      · rw [fup_ne _ _ hut, hr.inn u hu]
        constructor
        · rintro ⟨e, he, h4⟩; exact ⟨e, mem_erase.2 ⟨he, fun q => hut (h4.symm.trans q)⟩, h4⟩
        · rintro ⟨e, he, h4⟩; exact ⟨e, (mem_erase.1 he).1, h4⟩
    · show ((L.length : Int) - 1) = _
      have := erase_length hr.good hx
      omega
def setP (L : List Ent) (t p : Nat) (f : Bool) : List Ent := match L.find? (fun e => e.t == t) with
  | some x => if x.p = p then L else insertL ⟨t, p, x.m⟩ f (eraseL t L)
  | none => L
def aSetPriority (L : List Ent) (t p : Int) (f : Bool) : Int × List Ent := if hasE L t (isT p) = 0 then (0, setP L t.toNat p.toNat f) else (hasE L t (isT p), L)
theorem find_mem {L : List Ent} (h : Good L) {x : Ent} (hx : x ∈ L) : L.find? (fun e => e.t == x.t) = some x := by
  cases hf : L.find? (fun e => e.t == x.t) with
  | none =>
    have := List.find?_eq_none.1 hf x hx
    simp at this
  | some y =>
    have h1 := List.mem_of_find?_eq_some hf
    have h2 : y.t = x.t := by simpa using List.find?_some hf
    rw [ent_inj h.nodup h1 hx h2]
theorem SetPriority_spec (h : RQ w b L) (t p : Int) (f : Bool) :
    Calls Pg 32 ⟨[ptr b 0, I t, I p, .bool f]⟩ w fun e w' => e = .returned (I (aSetPriority L t p f).1) ∧ RQ w' b (aSetPriority L t p f).2 ∧ Ext [b] w w' := by
  apply ready_Queue_SetPriority_calls
  unfold ready_Queue_SetPriority ready_Queue_SetPriority_j1
  refine cal_of (isPriority_spec p) ?_
  rintro e w' ⟨rfl, rfl⟩
  simp only [retK]
  refine cal_of (has_spec h t (isT p)) ?_
  rintro e w' ⟨rfl, rfl⟩
  simp only [retK, bin_neq, pv_some]
  refine cnd_decide (fun hc => ?_) (fun hc => ?_)
  · simp only [aSetPriority, if_neg hc]; exact ⟨by trivial, h, Ext.refl _ _⟩
  · have h0 : hasE L t (isT p) = 0 := by simpa using hc
    obtain ⟨hP, x, hx, rfl⟩ := hasE_ok h0
    obtain ⟨p, rfl, hp⟩ := isT_true hP
    obtain ⟨q, hb, hr⟩ := h
    obtain ⟨ht, hxp, hm1, hm2⟩ := hr.good.ok x hx
    have hfind := find_mem hr.good hx
    simp only [nilO_ptr, pv_some, faO_mk, ixA_mk ht, Nat.zero_add, Nat.add_zero]
    refine ld_prio hb ht ?_
    rw [hr.prio x hx, bin_neq, pv_some]
    refine cnd_decide (fun hc2 => ?_) (fun hc2 => ?_)
    · have hne : x.p ≠ p := by omega
      refine cal_of (cut_spec hb hr.toRep0 hx) ?_
      rintro e w1 ⟨rfl, ⟨q2, hb2, hr2, e1, e2, e3, e4⟩, h1⟩
      simp only [retK]
      refine st_prio hb2 ht fun w2 hb3 h2 => ?_
      have hnew : ∀ e ∈ eraseL x.t L, e.t ≠ x.t := fun e he => (mem_erase.1 he).2
      refine cal_of (put_spec (q := q2) (x := ⟨x.t, p, x.m⟩) hb3 f hr2 ⟨ht, hp, hm1, hm2⟩ hnew (fun u => rfl) (fun u => ?_) (fun u _ => rfl) (fun u _ => rfl) rfl rfl) ?_
      · show q2.mask u = if u = x.t then (x.m : Int) else q2.mask u
        split
        · rename_i hu; rw [hu, e4]; exact hr.mask x hx
        · rfl
      rintro e w3 ⟨rfl, ⟨q3, hb4, hr4, e5, e6⟩, h3⟩
      simp only [retK, aSetPriority, if_pos h0, Int.toNat_natCast, setP, hfind, if_neg hne]
      refine ⟨by trivial, ⟨q3, hb4, ⟨hr4, fun u hu => ?_, ?_⟩⟩, (h1.trans h2).trans h3⟩
      · rw [e5]
        show q2.inn u = true ↔ _
        rw [e1, hr.inn u hu]
        constructor
        · rintro ⟨e, he, rfl⟩
          by_cases hut : e.t = x.t
          · exact ⟨⟨x.t, p, x.m⟩, mem_insert.2 (.inl rfl), hut.symm⟩
          · exact ⟨e, mem_insert.2 (.inr (mem_erase.2 ⟨he, hut⟩)), rfl⟩
        · rintro ⟨e, he, rfl⟩
          rcases mem_insert.1 he with rfl | he
          · exact ⟨x, hx, rfl⟩
          · exact ⟨e, (mem_erase.1 he).1, rfl⟩
      · rw [e6]
        show q2.n = _
        rw [e2, hr.n, (insert_perm _ _ _).length_eq]
        have := erase_length hr.good hx
        simp; omega
    · have heq : x.p = p := by simp at hc2; omega
      simp only [aSetPriority, if_pos h0, Int.toNat_natCast, setP, hfind, if_pos heq]
      exact ⟨by trivial, ⟨q, hb, hr⟩, Ext.refl _ _⟩
def setM (L : List Ent) (t m : Nat) : List Ent := L.map fun e => if e.t = t then { e with m := m } else e
def aSetMask (L : List Ent) (t m : Int) : Int × List Ent := if hasE L t (isM m) = 0 then (0, setM L t.toNat m.toNat) else (hasE L t (isM m), L)
theorem ring_setM (L : List Ent) (t m p : Nat) : ring (setM L t m) p = ring L p := by
  unfold ring setM
  rw [List.filter_map, List.map_map]
  have e1 : ((fun e : Ent => e.p == p) ∘ fun e => if e.t = t then { e with m := m } else e) = fun e : Ent => e.p == p := by funext e; simp only [Function.comp]; split <;> rfl
  have e2 : ((fun e : Ent => e.t) ∘ fun e => if e.t = t then { e with m := m } else e) = fun e : Ent => e.t := by funext e; simp only [Function.comp]; split <;> rfl
  rw [e1, e2]
theorem mem_setM {L : List Ent} {t m : Nat} {e : Ent} : e ∈ setM L t m ↔ ∃ y ∈ L, e.t = y.t ∧ e.p = y.p ∧ e.m = if y.t = t then m else y.m := by
  simp only [setM, List.mem_map]
  constructor
  · rintro ⟨y, hy, rfl⟩; refine ⟨y, hy, ?_⟩; split <;> simp
  · rintro ⟨y, hy, h1, h2, h3⟩
    refine ⟨y, hy, ?_⟩
    cases e; split <;> simp_all
theorem SetMask_spec (h : RQ w b L) (t m : Int) :
    Calls Pg 34 ⟨[ptr b 0, I t, I m]⟩ w fun e w' => e = .returned (I (aSetMask L t m).1) ∧ RQ w' b (aSetMask L t m).2 ∧ Ext [b] w w' := by
  apply ready_Queue_SetMask_calls
  unfold ready_Queue_SetMask
  refine cal_of (isMask_spec m) ?_
  rintro e w' ⟨rfl, rfl⟩
  simp only [retK]
  refine cal_of (has_spec h t (isM m)) ?_
  rintro e w' ⟨rfl, rfl⟩
  simp only [retK, bin_neq, pv_some]
  refine cnd_decide (fun hc => ?_) (fun hc => ?_)
  · simp only [aSetMask, if_neg hc]; exact ⟨by trivial, h, Ext.refl _ _⟩
  · have h0 : hasE L t (isM m) = 0 := by simpa using hc
    obtain ⟨hM, x, hx, rfl⟩ := hasE_ok h0
    obtain ⟨m, rfl⟩ : ∃ n : Nat, m = n := by simp only [isM, decide_eq_true_eq] at hM; exact ⟨m.toNat, by omega⟩
    have hm : 1 ≤ m ∧ m ≤ 255 := by simp only [isM, decide_eq_true_eq] at hM; omega
    obtain ⟨q, hb, hr⟩ := h
    obtain ⟨ht, hxp, hm1, hm2⟩ := hr.good.ok x hx
    simp only [nilO_ptr, pv_some, faO_mk, ixA_mk ht, Nat.zero_add, Nat.add_zero]
    refine st_mask hb ht fun w1 hb1 h1 => ?_
    simp only [aSetMask, if_pos h0, Int.toNat_natCast]
    have htm : (setM L x.t m).map (·.t) = L.map (·.t) := by
      unfold setM; rw [List.map_map]; congr 1; funext e; simp only [Function.comp]; split <;> rfl
    have hgood : Good (setM L x.t m) := by
      refine ⟨fun e he => ?_, by rw [htm]; exact hr.good.nodup, ?_⟩
      · obtain ⟨y, hy, g1, g2, g3⟩ := mem_setM.1 he
        obtain ⟨k1, k2, k3, k4⟩ := hr.good.ok y hy
        refine ⟨by omega, by omega, ?_, ?_⟩ <;> (rw [g3]; split <;> omega)
      · have : Sorted (setM L x.t m) := by
          unfold Sorted setM
          rw [List.pairwise_map]
          refine hr.good.sorted.imp fun {a b} hab => ?_
          split <;> split <;> exact hab
        exact this
    refine ⟨by trivial, ⟨_, hb1, ⟨⟨hgood, fun e he => ?_, fun e he => ?_, fun p hp => ?_, fun p hp => ?_, hr.words⟩, fun u hu => ?_, ?_⟩⟩, h1⟩
    · obtain ⟨y, hy, g1, g2, g3⟩ := mem_setM.1 he
      rw [g1, g2]; exact hr.prio y hy
    · obtain ⟨y, hy, g1, g2, g3⟩ := mem_setM.1 he
      show fup q.mask x.t (m : Int) e.t = _
      rw [g1, g3]
      by_cases hyt : y.t = x.t
      · rw [hyt, fup_same, if_pos rfl]
      · rw [fup_ne _ _ hyt, if_neg hyt]; exact hr.mask y hy
    · rw [ring_setM]; exact Ring_congr (q := q) rfl (fun _ _ => rfl) (fun _ _ => rfl) (hr.rings p hp)
    · rw [ring_setM]; exact hr.bits p hp
    · show q.inn u = true ↔ _
      rw [hr.inn u hu]
      constructor
      · rintro ⟨e, he, rfl⟩
        exact ⟨if e.t = x.t then { e with m := m } else e, List.mem_map.2 ⟨e, he, rfl⟩, by split <;> rfl⟩
      · rintro ⟨e, he, rfl⟩
        obtain ⟨y, hy, g1, _⟩ := mem_setM.1 he
        exact ⟨y, hy, g1.symm⟩
    · show q.n = _
      rw [hr.n]; simp [setM]
end
end Go.Proofs.Yticnobfmpogcoaa.Den
