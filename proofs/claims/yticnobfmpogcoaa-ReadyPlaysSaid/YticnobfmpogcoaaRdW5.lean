/- The walks of the queue's methods that change it. Conditions: none. -/
import Derived.Test.YticnobfmpogcoaaRdW4
set_option linter.unusedVariables false
set_option linter.unusedSimpArgs false
set_option maxRecDepth 8000
namespace Go.Proofs.Yticnobfmpogcoaa.Den
open Go Go.RowKit
def QS.fresh (q : QS) (t : Nat) (p m : Int) : QS := { q with prev := fup q.prev t 0, next := fup q.next t 0, prio := fup q.prio t p, mask := fup q.mask t m, inn := fup q.inn t true }
theorem QS.lay_fresh (q : QS) {t : Nat} (ht : t < 256) (p m : Int) : lay q.lst (256 + t * 5) [I 0, I 0, I p, I m, .bool true] = (q.fresh t p m).lst := by
  have hl := fun (q : QS) => q.length
  rw [← lay_cons (by rw [hl]; omega), q.set_prev ht]
  rw [← lay_cons (by rw [hl]; omega), QS.set_next _ ht]
  rw [show 256 + t * 5 + 1 + 1 = 256 + t * 5 + 2 from rfl, ← lay_cons (by rw [hl]; omega), QS.set_prio _ ht]
  rw [show 256 + t * 5 + 2 + 1 = 256 + t * 5 + 3 from rfl, ← lay_cons (by rw [hl]; omega), QS.set_mask _ ht]
  rw [show 256 + t * 5 + 3 + 1 = 256 + t * 5 + 4 from rfl, ← lay_cons (by rw [hl]; omega), QS.set_inn _ ht, lay_nil]
  rfl
section
variable {q : QS} {L : List Ent} {x : Ent}
theorem ring_ne_nil_bit (h : Rep0 q L) {p : Nat} (hp : p < 256) {h0 : Nat} {r : List Nat} (hr : ring L p = h0 :: r) : q.bit p = true := by
  rw [h.bits p hp, hr]; rfl
theorem Rep0_same {q' : QS} (h : Rep0 q L) (h1 : q'.first = q.first) (h2 : q'.next = q.next) (h3 : q'.prev = q.prev) (h4 : q'.prio = q.prio) (h5 : q'.mask = q.mask) (h6 : q'.words = q.words) : Rep0 q' L :=
  ⟨h.good, fun e he => by rw [h4]; exact h.prio e he, fun e he => by rw [h5]; exact h.mask e he,
    fun p hp => Ring_congr (by rw [h1]) (fun u _ => by rw [h2]) (fun u _ => by rw [h3]) (h.rings p hp),
    fun p hp => by rw [← h.bits p hp]; unfold QS.bit; rw [h6], fun k hk => by rw [h6]; exact h.words k hk⟩
/-- Behind put: the thread's entry stands in the list. -/
theorem Rep0_putA {q1 : QS} (f : Bool) (h : Rep0 q L) (hx : EntOk x) (hnew : ∀ e ∈ L, e.t ≠ x.t) (hring : ring L x.p = [])
    (hprio : ∀ u, q1.prio u = if u = x.t then (x.p : Int) else q.prio u) (hmask : ∀ u, q1.mask u = if u = x.t then (x.m : Int) else q.mask u)
    (hn : ∀ u, u ≠ x.t → q1.next u = q.next u) (hp : ∀ u, u ≠ x.t → q1.prev u = q.prev u) (hf : q1.first = q.first) (hw : q1.words = q.words) : Rep0 (q1.putA x.t x.p) (insertL x f L) := by
  have hxp := hx.2.1
  refine Rep0_insert h hx hnew (fun u => hprio u) (fun u => hmask u) ?_ (fun e he hep => ?_) (fun p hpx => ?_) (fun p hp' => ?_) (fun k hk => ?_)
  · rw [hring]
    have : Ring (q1.putA x.t x.p) x.p [x.t] := ⟨by simp [QS.putA, fup], by simp [QS.putA, fup], by simp [QS.putA, fup]⟩
    cases f <;> exact this
  · have hne := hnew e he
    simp only [QS.putA, fup, hne, if_false]; exact ⟨hn _ hne, hp _ hne⟩
  · simp only [QS.putA, fup, hpx, if_false, hf]
  · exact bit_or (q := q) (p := x.p) (fun k => by simp only [QS.putA, fup, hw]; split <;> simp_all) p
  · simp only [QS.putA, fup, hw]
    split
    · exact Nat.or_lt_two_pow (h.words _ (by omega)) (Nat.pow_lt_pow_right (by omega) (by omega))
    · exact h.words k hk
theorem Rep0_putB {q1 : QS} (f : Bool) (h : Rep0 q L) (hx : EntOk x) (hnew : ∀ e ∈ L, e.t ≠ x.t) {h0 : Nat} {r : List Nat} (hring : ring L x.p = h0 :: r)
    (hprio : ∀ u, q1.prio u = if u = x.t then (x.p : Int) else q.prio u) (hmask : ∀ u, q1.mask u = if u = x.t then (x.m : Int) else q.mask u)
    (hn : ∀ u, u ≠ x.t → q1.next u = q.next u) (hp : ∀ u, u ≠ x.t → q1.prev u = q.prev u) (hf : q1.first = q.first) (hw : q1.words = q.words) : Rep0 (q1.putB x.t x.p h0 (lst h0 r) f) (insertL x f L) := by
  have hxp := hx.2.1
  have hrg := h.rings x.p hxp
  rw [hring] at hrg
  have hnd := ring_nodup h.good.nodup x.p
  rw [hring] at hnd
  have hnotin : x.t ∉ h0 :: r := fun hm => by
    rw [← hring] at hm
    obtain ⟨e, he, _, h2⟩ := mem_ring.1 hm
    exact hnew e he h2
  have hrg1 : Ring q1 x.p (h0 :: r) := Ring_congr (by rw [hf]) (fun u hu => hn u (fun e => hnotin (e ▸ hu))) (fun u hu => hp u (fun e => hnotin (e ▸ hu))) hrg
  have hother : ∀ e ∈ L, e.p ≠ x.p → e.t ≠ h0 ∧ e.t ≠ lst h0 r := by
    intro e he hep
    have key : ∀ u, u ∈ h0 :: r → e.t ≠ u := fun u hu hue => by
      rw [← hring] at hu
      obtain ⟨e', he', h1, h2⟩ := mem_ring.1 hu
      exact hep (by rw [← h1, ent_inj h.good.nodup he he' (hue.trans h2.symm)])
    exact ⟨key h0 (by simp), key _ (lst_mem r h0)⟩
  refine Rep0_insert h hx hnew (fun u => hprio u) (fun u => hmask u) ?_ (fun e he hep => ?_) (fun p hpx => ?_) (fun p hp' => ?_) (fun k hk => ?_)
  · rw [hring]
    refine Ring_put f hnd hnotin hrg1 (fun u => ?_) (fun u => ?_) ?_
    · simp only [QS.putB, fup]
    · simp only [QS.putB, fup]
    · have hf0 := hrg.1
      cases f <;> simp [QS.putB, fup, hf, hf0]
  · have hne := hnew e he
    obtain ⟨h1, h2⟩ := hother e he hep
    simp only [QS.putB, fup, hne, h1, h2, if_false]; exact ⟨hn _ hne, hp _ hne⟩
  · cases f <;> simp [QS.putB, fup, hpx, hf]
  · have : (q1.putB x.t x.p h0 (lst h0 r) f).bit p = q.bit p := by unfold QS.bit; simp only [QS.putB, hw]
    rw [this]
    by_cases hpx : p = x.p
    · subst hpx; rw [ring_ne_nil_bit h hxp hring]; simp
    · simp [hpx]
  · simp only [QS.putB, hw]; exact h.words k hk
end
section
variable {w : World} {b : Nat} {L : List Ent}
/-- put, at a queue whose lists read as L, of a thread that is not in it. -/
theorem put_spec {q q1 : QS} {x : Ent} (hb : QB w b q1) (f : Bool) (h : Rep0 q L) (hx : EntOk x) (hnew : ∀ e ∈ L, e.t ≠ x.t)
    (hprio : ∀ u, q1.prio u = if u = x.t then (x.p : Int) else q.prio u) (hmask : ∀ u, q1.mask u = if u = x.t then (x.m : Int) else q.mask u)
    (hn : ∀ u, u ≠ x.t → q1.next u = q.next u) (hp : ∀ u, u ≠ x.t → q1.prev u = q.prev u) (hf : q1.first = q.first) (hw : q1.words = q.words) :
    Calls Pg 26 ⟨[ptr b 0, I (x.t : Int), .bool f]⟩ w fun e w' => e = .returned (.tuple ⟨[]⟩) ∧ (∃ q2, QB w' b q2 ∧ Rep0 q2 (insertL x f L) ∧ q2.inn = q1.inn ∧ q2.n = q1.n) ∧ Ext [b] w w' := by
  have hpx : q1.prio x.t = (x.p : Int) := by rw [hprio, if_pos rfl]
  cases hr : ring L x.p with
  | nil =>
    have hrg := h.rings x.p hx.2.1
    rw [hr] at hrg
    refine (put_empty hb hx.1 hpx hx.2.1 (by rw [hf]; exact hrg) (by rw [hw]; exact h.words _ (by have := hx.2.1; omega)) f).mono ?_
    rintro e w' ⟨rfl, hb', hE⟩
    exact ⟨rfl, ⟨_, hb', Rep0_putA f h hx hnew hr hprio hmask hn hp hf hw, rfl, rfl⟩, hE⟩
  | cons h0 r =>
    have hrg := h.rings x.p hx.2.1
    rw [hr] at hrg
    have hin : ∀ u, u ∈ h0 :: r → u < 256 := fun u hu => by
      rw [← hr] at hu
      obtain ⟨e, he, _, h2⟩ := mem_ring.1 hu
      rw [← h2]; exact (h.good.ok e he).1
    have hlast := Chain_last r h0 h0 hrg.2
    have hne : h0 ≠ x.t := fun e => by
      have : h0 ∈ ring L x.p := by rw [hr]; simp
      obtain ⟨e', he', _, h2⟩ := mem_ring.1 this
      exact hnew e' he' (h2.trans e)
    refine (put_full hb hx.1 hpx hx.2.1 (by rw [hf]; exact hrg.1) (hin h0 (by simp)) (by rw [hp h0 hne]; exact hlast.1) (hin _ (lst_mem r h0)) f).mono ?_
    rintro e w' ⟨rfl, hb', hE⟩
    exact ⟨rfl, ⟨_, hb', Rep0_putB f h hx hnew hr hprio hmask hn hp hf hw, rfl, rfl⟩, hE⟩
def aAdd (L : List Ent) (t p m : Int) (f : Bool) : Int × List Ent :=
  if isT t && isT p && isM m then (if inL L t then (10, L) else (0, insertL ⟨t.toNat, p.toNat, m.toNat⟩ f L)) else (34, L)
theorem Add_spec (h : RQ w b L) (t p m : Int) (f : Bool) (hlen : L.length < 1000) :
    Calls Pg 10 ⟨[ptr b 0, I t, I p, I m, .bool f]⟩ w fun e w' => e = .returned (I (aAdd L t p m f).1) ∧ RQ w' b (aAdd L t p m f).2 ∧ Ext [b] w w' := by
  apply ready_Queue_Add_calls
  unfold ready_Queue_Add
  simp only [eqNil_some, pv_some, cnd_false]
  refine cal_of (isThread_spec t) ?_
  rintro e w' ⟨rfl, rfl⟩
  simp only [retK, not_bool, pv_some]
  cases hT : isT t with
  | false =>
    simp only [Bool.not_false, gd_no', pv_some, pick_true, cnd_true, aAdd, hT, Bool.false_and, Bool.false_eq_true, if_false]
    exact ⟨by trivial, h, Ext.refl _ _⟩
  | true =>
    simp only [Bool.not_true, gd_yes', pv_some]
    refine cal_of (isPriority_spec p) ?_
    rintro e w' ⟨rfl, rfl⟩
    simp only [retK, not_bool, pv_some]
    cases hP : isT p with
    | false =>
      simp only [Bool.not_false, gd_no', pv_some, pick_true, pick_false, cnd_true, aAdd, hP, Bool.false_and, Bool.and_false, Bool.false_eq_true, if_false]
      exact ⟨by trivial, h, Ext.refl _ _⟩
    | true =>
      simp only [Bool.not_true, gd_yes', pv_some, pick_false]
      refine cal_of (isMask_spec m) ?_
      rintro e w' ⟨rfl, rfl⟩
      simp only [retK, not_bool, pv_some]
      cases hM : isM m with
      | false =>
        simp only [Bool.not_false, gd_no', pv_some, pick_true, pick_false, cnd_true, aAdd, hM, Bool.false_and, Bool.and_false, Bool.false_eq_true, if_false]
        exact ⟨by trivial, h, Ext.refl _ _⟩
      | true =>
        obtain ⟨t, rfl, ht⟩ := isT_true hT
        obtain ⟨p, rfl, hp⟩ := isT_true hP
        obtain ⟨m, rfl⟩ : ∃ n : Nat, m = n := by simp only [isM, decide_eq_true_eq] at hM; exact ⟨m.toNat, by omega⟩
        have hm : 1 ≤ m ∧ m ≤ 255 := by simp only [isM, decide_eq_true_eq] at hM; omega
        obtain ⟨q, hb, hr⟩ := h
        simp only [Bool.not_true, gd_yes', pv_some, pick_false, cnd_false, nilO_ptr, faO_mk, ixA_mk ht, Nat.zero_add, Nat.add_zero]
        refine ld_inn hb ht ?_
        rw [hr.inn_eq ht]
        cases hi : inL L (t : Int) with
        | true =>
          simp only [cnd_true, aAdd, hT, hP, hM, hi, Bool.and_self, if_true]
          exact ⟨by trivial, ⟨q, hb, hr⟩, Ext.refl _ _⟩
        | false =>
          have hbld : bldO [I 0, I 0, I 0, I 0, .bool false] [(2, 1, I (p : Int)), (3, 1, I (m : Int)), (4, 1, .bool true)] = some (.agg ⟨[I 0, I 0, I (p : Int), I (m : Int), .bool true]⟩) := rfl
          simp only [cnd_false, hbld, pv_some]
          refine stN_blk hb rfl (by rw [q.length]; omega) (by simp [scalar]) fun w1 hb1 h1 => ?_
          rw [q.lay_fresh ht] at hb1
          have hnew : ∀ e ∈ L, e.t ≠ t := fun e he het => by
            have := inL_iff.2 ⟨e, he, het⟩
            rw [hi] at this; cases this
          refine cal_of (put_spec (x := ⟨t, p, m⟩) (show QB w1 b (q.fresh t p m) from hb1) f hr.toRep0 ⟨ht, hp, hm.1, hm.2⟩ hnew (fun u => rfl) (fun u => rfl)
            (fun u hu => fup_ne _ _ hu) (fun u hu => fup_ne _ _ hu) rfl rfl) ?_
          rintro e w2 ⟨rfl, ⟨q2, hb2, hr2, hinn, hn2⟩, h2⟩
          simp only [retK]
          refine ld_n hb2 ?_
          have hn : q2.n = (L.length : Int) := by rw [hn2]; exact hr.n
          rw [hn, bin_add, pv_some, wrap64_id (by omega) (by omega)]
          refine st_n hb2 fun w3 hb3 h3 => ?_
          simp only [aAdd, hT, hP, hM, hi, Bool.and_self, if_true, Bool.false_eq_true, if_false, Int.toNat_natCast]
          refine ⟨by trivial, ⟨_, hb3, ⟨Rep0_same hr2 rfl rfl rfl rfl rfl rfl, fun u hu => ?_, ?_⟩⟩, (h1.trans h2).trans h3⟩
          · show q2.inn u = true ↔ _
            rw [hinn]
            show fup q.inn t true u = true ↔ _
            by_cases hut : u = t
            · subst hut; rw [fup_same]
              exact ⟨fun _ => ⟨⟨u, p, m⟩, mem_insert.2 (.inl rfl), rfl⟩, fun _ => rfl⟩
            · rw [fup_ne _ _ hut, hr.inn u hu]
              constructor
              · rintro ⟨e, he, h4⟩; exact ⟨e, mem_insert.2 (.inr he), h4⟩
              · rintro ⟨e, he, h4⟩
                rcases mem_insert.1 he with rfl | he
                · exact absurd h4.symm hut
                · exact ⟨e, he, h4⟩
          · show ((L.length : Int) + 1) = _
            rw [(insert_perm _ _ _).length_eq]; simp
end
end Go.Proofs.Yticnobfmpogcoaa.Den
