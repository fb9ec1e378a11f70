/- The walk of Order. Conditions: none. -/
import Derived.Test.YticnobfmpogcoaaRdW8
set_option linter.unusedVariables false
set_option linter.unusedSimpArgs false
set_option maxRecDepth 8000
namespace Go.Proofs.Yticnobfmpogcoaa.Den
open Go Go.RowKit
theorem nodup_len : ∀ (n : Nat) (l : List Nat), l.Nodup → (∀ x ∈ l, x < n) → l.length ≤ n
  | 0, l, _, h => by
    cases l with
    | nil => simp
    | cons x l => exact absurd (h x (by simp)) (by omega)
  | n + 1, l, hn, h => by
    have h1 := nodup_len n (l.filter (· != n)) (hn.sublist List.filter_sublist) (fun x hx => by
      have hx' := List.mem_filter.1 hx
      have := h x hx'.1
      have hne : x ≠ n := by simpa using hx'.2
      omega)
    have h2 : ∀ l : List Nat, l.Nodup → l.length ≤ (l.filter (· != n)).length + 1 := by
      intro l
      induction l with
      | nil => intro _; simp
      | cons y l ih =>
        intro hnd
        obtain ⟨g1, g2⟩ := List.nodup_cons.1 hnd
        rw [List.filter_cons]
        by_cases hy : y = n
        · subst hy
          have : l.filter (· != y) = l := List.filter_eq_self.2 fun u hu => by simpa using fun e : u = y => g1 (e ▸ hu)
          simp [this]
        · simp [hy]; have := ih g2; omega
    have := h2 l hn
    omega
theorem Good.len {L : List Ent} (h : Good L) : L.length ≤ 256 := by
  have := nodup_len 256 (L.map (·.t)) h.nodup (fun x hx => by obtain ⟨e, he, rfl⟩ := List.mem_map.1 hx; exact (h.ok e he).1)
  simpa using this
theorem elInt : ElT 30 3 1 8 [I 0] := ⟨by kernel_rfl, by kernel_rfl, rfl⟩
def thr (L : List Ent) : List Value := L.map fun e => I (e.t : Int)
def Own (w0 : World) (ob : Option Nat) : Prop := ∀ b, ob = some b → w0.heap.size ≤ b
theorem Own.step {w0 w1 : World} {ob ob' : Option Nat} (h : Own w0 ob) (he : w0.heap.size ≤ w1.heap.size) (h' : ob' = ob ∨ ∃ b, ob' = some b ∧ w1.heap.size ≤ b) : Own w0 ob' := by
  intro b hb
  rcases h' with h' | ⟨c, h', h2⟩
  · exact h b (h' ▸ hb)
  · rw [h'] at hb; injection hb with hb; omega
/-- A piece that has written only to a block of the call's own. -/
theorem Ext.own {w0 w1 w2 : World} {ob : Option Nat} (h : Ext [] w0 w1) (h' : Ext ob.toList w1 w2) (ho : Own w0 ob) : Ext [] w0 w2 :=
  h.then h' (fun k hk _ => by cases hk) fun k hk hlt => by
    cases ob with
    | none => cases hk
    | some b => simp at hk; have := ho b rfl; omega
section
variable {w0 : World} {b : Nat} {q : QS} {L : List Ent} {R : ER}
theorem order_l9 (hb : QB w0 b q) (hr : Rep0 q L) {p h0 : Nat} (hp : p < 256) {k1 : Value → Value → Value → WP} {E : List Ent} (hE : E = lvl L p) (hh : (E.map (·.t)).headD 0 = h0) :
    ∀ (rem pre : List Ent) (n : Nat) (w1 : World) (s : Value) (m : Nat) (xs : List Value) (ob : Option Nat), E = pre ++ rem → (rem = [] → pre ≠ []) → rem.length < n → m + rem.length ≤ 256 →
    Ext [] w0 w1 → SL w1 3 1 s m xs ob → Own w0 ob →
    (∀ w2 s' ob', Ext [] w0 w2 → SL w2 3 1 s' (m + rem.length) (xs ++ thr rem) ob' → Own w0 ob' → ready_Queue_Order_j5 R k1 (ptr b 0) s' (I (p : Int)) w2) →
    ready_Queue_Order_l9 R k1 n (ptr b 0) s (I (p : Int)) (I ((match rem with | [] => h0 | z :: _ => z.t : Nat) : Int)) (I (pre.length : Int)) w1
  | rem, pre, 0, w1, s, m, xs, ob, he, hne, hn, hm, hext, hs, ho, k => by omega
  | rem, pre, n + 1, w1, s, m, xs, ob, he, hne, hn, hm, hext, hs, ho, k => by
    have hrg : Ring q p (E.map (·.t)) := by rw [hE, ← ring_lvl]; exact hr.rings p hp
    have hnd : (E.map (·.t)).Nodup := by rw [hE, ← ring_lvl]; exact ring_nodup hr.good.nodup p
    have hb1 : QB w1 b q := Blk.ext hb hext (by simp)
    have hEne : E ≠ [] := by
      rw [he]; intro h1
      obtain ⟨h1, h2⟩ := List.append_eq_nil_iff.1 h1
      exact hne h2 h1
    have hfirst : q.first p = (h0 : Int) := by
      cases E with
      | nil => exact absurd rfl hEne
      | cons e E => rw [← hh]; exact hrg.1
    have hlen : E.length ≤ 256 := by
      have := nodup_len 256 (E.map (·.t)) hnd (fun x hx => by
        obtain ⟨e, he, rfl⟩ := List.mem_map.1 hx
        rw [hE] at he
        exact (hr.good.ok e (List.mem_filter.1 he).1).1)
      simpa using this
    have hpl : pre.length ≤ 256 := by rw [he] at hlen; simp at hlen; omega
    rw [ready_Queue_Order_l9_succ]
    unfold ready_Queue_Order_b8
    rw [bin_eql, pv_some]
    have body : ∀ (z : Ent) (post : List Ent), rem = z :: post → 
        valV Pg R (Instr.buildSlice 30 1 ⟨[(0, I (z.t : Int))]⟩) (fun v15 =>
          blt Pg R .append ⟨[30, 30]⟩ 30 ⟨[false, false]⟩ ⟨[s, v15]⟩ fun v16 =>
          pv (nilO (ptr b 0)) fun v17 => pv (faO 0 v17) fun v18 => pv (faO 256 v18) fun v19 => pv (ixA 256 5 v19 (I (z.t : Int))) fun v20 => pv (faO 1 v20) fun v21 =>
          ld1 v21 fun v22 => pv (bin .add (I (pre.length : Int)) (I 1)) fun v23 => ready_Queue_Order_l9 R k1 n (ptr b 0) v16 (I (p : Int)) v22 v23) w1 := by
      intro z post hz
      subst hz
      have hm' : z ∈ L := by
        have : z ∈ lvl L p := by rw [← hE, he]; simp
        exact (List.mem_filter.1 this).1
      obtain ⟨ht, _, _, _⟩ := hr.good.ok z hm'
      refine app1_k elInt hs rfl (by simp [Value.cells, scalar]) (by omega) (by simp at hm; omega) (by simp at hm; omega) fun s' w2 ob' h1 h2 h3 => ?_
      have hext2 := hext.own h2 ho
      have ho2 := ho.step hext.size h3
      have hb2 : QB w2 b q := Blk.ext hb hext2 (by simp)
      simp only [nilO_ptr, pv_some, faO_mk, ixA_mk ht, Nat.zero_add]
      refine ld_next hb2 ht ?_
      rw [next_of he hrg, bin_add, pv_some, wrap64_id (by omega) (by omega), hh]
      have e1 : ((pre.length : Int) + 1) = (((pre ++ [z]).length : Nat) : Int) := by simp
      rw [e1]
      have := order_l9 hb hr hp hE hh post (pre ++ [z]) n w2 s' (m + 1) (xs ++ [I (z.t : Int)]) ob' (by rw [he]; simp) (fun _ => by simp) (by simp at hn; omega) (by simp at hm; omega) hext2 h1 ho2
        (fun w3 s3 ob3 g1 g2 g3 => k w3 s3 ob3 g1 (by simpa [thr, Nat.add_assoc, Nat.add_comm 1] using g2) g3)
      cases post with
      | nil => exact this
      | cons y post => exact this
    by_cases hi : pre = []
    · subst hi
      cases rem with
      | nil => exact absurd rfl (hne rfl)
      | cons z post =>
        simp only [List.length_nil, Int.natCast_zero, decide_true, gd_no', pick_true, pv_some, cnd_true]
        exact body z post rfl
    · have hi' : decide ((pre.length : Int) = 0) = false := by
        cases pre with
        | nil => exact absurd rfl hi
        | cons _ _ => simp; omega
      simp only [hi', gd_yes', pv_some, nilO_ptr, faO_mk, ixA_mk hp, Nat.zero_add, Nat.mul_one]
      refine ld1_blk hb1 ((q.get (by omega)).trans (by rw [q.cell_first hp])) ?_
      rw [hfirst, bin_neq, pv_some, pick_false, pv_some]
      cases rem with
      | nil =>
        simp only [ne_eq, not_true_eq_false, decide_false, cnd_false]
        exact k w1 s ob hext (by simpa [thr] using hs) ho
      | cons z post =>
        have hz : z.t ≠ h0 := by
          intro g
          rw [← hh, he] at g
          rw [he] at hnd
          cases pre with
          | nil => exact absurd rfl hi
          | cons y pre =>
            simp at g hnd
            exact hnd.1.2.1 g.symm
        have hz' : decide (((z.t : Nat) : Int) ≠ (h0 : Int)) = true := by simp; omega
        simp only [hz', cnd_true]
        exact body z post rfl
theorem order_l10 (hb : QB w0 b q) (hr : Rep0 q L)
    (hQ : ∀ w2 s' ob', Ext [] w0 w2 → SL w2 3 1 s' L.length (thr L) ob' → Own w0 ob' → R (.returned s') w2) : ∀ (n s : Nat) (w1 : World) (sl : Value) (m : Nat) (xs : List Value) (ob : Option Nat), s < n → s ≤ 256 →
    m + (part L s).length = L.length → xs ++ thr (part L s) = thr L → Ext [] w0 w1 → SL w1 3 1 sl m xs ob → Own w0 ob →
    ready_Queue_Order_l10 R n (ptr b 0) sl (I (gre q.bit s)) w1
  | 0, s, w1, sl, m, xs, ob, hn, hs, hm, hx, hext, hsl, ho => by omega
  | n + 1, s, w1, sl, m, xs, ob, hn, hs, hm, hx, hext, hsl, ho => by
    rw [ready_Queue_Order_l10_succ]
    unfold ready_Queue_Order_b4
    rw [bin_neq, pv_some]
    rcases gre_spec q.bit s with ⟨h1, h2⟩ | ⟨p, h1, h2, h3, h4⟩
    · rw [h1]
      have hpn : part L s = [] := part_nil fun e he hlt => bit_none hr (by omega) (h2 e.p hlt) e he rfl
      rw [hpn] at hm hx
      simp only [ne_eq, not_true_eq_false, decide_false, cnd_false]
      unfold ready_Queue_Order_j1
      refine hQ w1 sl ob hext ?_ ho
      rw [← hm, ← hx]; simpa [thr] using hsl
    · rw [h1]
      have hp : p < 256 := by omega
      have hps : part L s = lvl L p ++ part L p := part_split hr.good.sorted h2 fun e he hlt => bit_none hr (by omega) (h4 e.p hlt.1 hlt.2) e he rfl
      rw [hps] at hm hx
      have hll := hr.good.len
      have hne : decide (((p : Nat) : Int) ≠ -1) = true := by simp
      simp only [hne, cnd_true]
      unfold ready_Queue_Order_j6
      simp only [nilO_ptr, pv_some, faO_mk, ixA_mk hp, Nat.zero_add, Nat.mul_one]
      have hb1 : QB w1 b q := Blk.ext hb hext (by simp)
      refine ld_first hb1 hp ?_
      cases hE : lvl L p with
      | nil =>
        exfalso
        have := hr.bits p hp
        rw [h3, ring_lvl, hE] at this; cases this
      | cons e post =>
        have hrg := hr.rings p hp
        rw [ring_lvl, hE] at hrg
        rw [hrg.1]
        unfold ready_Queue_Order_j7
        rw [hE] at hm hx
        refine ⟨(e :: post).length + 1, ?_⟩
        refine order_l9 hb hr hp hE.symm rfl (e :: post) [] _ w1 sl m xs ob rfl (fun h => by cases h) (by omega) (by simp at hm ⊢; omega) hext hsl ho fun w2 s' ob' g1 g2 g3 => ?_
        unfold ready_Queue_Order_j5
        simp only [nilO_ptr, pv_some, faO_mk, Nat.zero_add]
        have hb2 : QB w2 b q := Blk.ext hb g1 (by simp)
        refine cal_of (greatest_spec hb2 hr.words (s := p) (by omega)) ?_
        rintro e' w' ⟨rfl, hw⟩
        obtain rfl := hw.symm
        simp only [retK]
        refine order_l10 hb hr hQ n p w2 s' _ _ ob' (by omega) (by omega) ?_ ?_ g1 g2 g3
        · simp at hm ⊢; omega
        · rw [← hx]; simp [thr]
theorem Order_spec (h : RQ w0 b L) : Calls Pg 11 ⟨[ptr b 0]⟩ w0 fun e w' => ∃ s ob, e = .returned s ∧ SL w' 3 1 s L.length (thr L) ob ∧ Ext [] w0 w' ∧ Own w0 ob := by
  apply ready_Queue_Order_calls
  unfold ready_Queue_Order
  simp only [eqNil_some, pv_some, cnd_false]
  unfold ready_Queue_Order_j2
  obtain ⟨q, hb, hr⟩ := h
  have hG := Greatest_spec (w := w0) ⟨q, hb, hr⟩
  have hg2 : gre q.bit 256 = topP L := by
    cases L with
    | nil =>
      rcases gre_spec q.bit 256 with ⟨h1, h2⟩ | ⟨p, h1, h2, h3, h4⟩
      · exact h1
      · have := hr.bits p h2; rw [h3] at this; cases this
    | cons x l =>
      have hx := hr.good.ok x (by simp)
      have h1' := List.pairwise_cons.1 hr.good.sorted
      have hbx : q.bit x.p = true := by rw [hr.bits x.p hx.2.1]; simp [ring]
      rcases gre_spec q.bit 256 with ⟨h1, h2⟩ | ⟨p, h1, h2, h3, h4⟩
      · have := h2 x.p hx.2.1; rw [hbx] at this; cases this
      · rw [h1]
        have hge : ¬ p < x.p := fun g => by have := h4 x.p g hx.2.1; rw [hbx] at this; cases this
        have hmem : ∃ e ∈ x :: l, e.p = p := by
          have := hr.bits p h2
          rw [h3] at this
          cases hrg : ring (x :: l) p with
          | nil => rw [hrg] at this; cases this
          | cons u r =>
            have hu : u ∈ ring (x :: l) p := by rw [hrg]; simp
            obtain ⟨e, he, g, _⟩ := mem_ring.1 hu
            exact ⟨e, he, g⟩
        obtain ⟨e, he, hep⟩ := hmem
        have hle : e.p ≤ x.p := by
          rcases List.mem_cons.1 he with rfl | he
          · exact Nat.le_refl _
          · exact h1'.1 e he
        show ((p : Nat) : Int) = (x.p : Int)
        omega
  refine cal_of hG ?_
  rintro e w' ⟨rfl, hw⟩
  obtain rfl := hw.symm
  simp only [retK]
  rw [← hg2]
  unfold ready_Queue_Order_j3
  refine ⟨257, ?_⟩
  refine order_l10 hb hr.toRep0 (fun w2 s' ob' g1 g2 g3 => ⟨s', ob', rfl, g2, g1, g3⟩) 257 256 w0 _ 0 [] none (by omega) (by omega) ?_ ?_ (Ext.refl _ _) SL.nil (fun b hb => by cases hb)
  · rw [part_all hr.good]; omega
  · rw [part_all hr.good]; rfl
end
end Go.Proofs.Yticnobfmpogcoaa.Den
