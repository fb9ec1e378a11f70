/- ReadyFIFO: the walk. Conditions: none. -/
import Derived.Test.YticnobfmpogcoaaRdX2
set_option linter.unusedVariables false
set_option linter.unusedSimpArgs false
set_option maxRecDepth 8000
namespace Go.Proofs.Yticnobfmpogcoaa.Den
open Go Go.RowKit
/-- A slice of numbers of the law's own, in a block that is none of A. -/
def Mine (A : List Nat) (w0 w : World) (s : Value) (xs : List Int) : Prop := ∃ ob, SL w 3 1 s xs.length (ints xs) ob ∧ Own w0 ob ∧ ∀ o, ob = some o → o ∉ A
def ringI (L : List Ent) (p : Nat) : List Int := (ring L p).map fun (t : Nat) => (t : Int)
section
variable {w w0 w' : World} {A : List Nat} {s : Value} {xs : List Int} {R : ER} {K : VK} {S : List Nat}
theorem Mine.nil : Mine A w0 w (.slice none 0 0) [] := ⟨none, SL.nil, fun b hb => (nomatch hb), fun b hb => (nomatch hb)⟩
theorem Mine.ext (h : Mine A w0 w s xs) (he : Ext S w w') (hS : ∀ k, k ∈ S → k ∈ A) : Mine A w0 w' s xs := by
  obtain ⟨ob, h1, h2, h3⟩ := h
  exact ⟨ob, h1.ext he (fun o ho hm => h3 o ho (hS o hm)), h2, h3⟩
theorem Mine.src (h : Mine A w0 w s xs) : Src w 1 s xs.length (ints xs) := by obtain ⟨ob, h1, _⟩ := h; exact h1.toSrc
theorem mine_app {v : Int} (h : Mine A w0 w s xs) (hlen : xs.length ≤ 1000) (hA : ∀ a, a ∈ A → a < w.heap.size) (he : w0.heap.size ≤ w.heap.size) {ty : Nat} {cs : Array Bool}
    (k : ∀ s' w' S, Mine A w0 w' s' (xs ++ [v]) → Ext S w w' → (∀ a, a ∈ A → a ∉ S) → (∀ o, o ∈ S → w0.heap.size ≤ o) → K s' w') :
    valV Pg R (Instr.buildSlice 30 1 ⟨[(0, I v)]⟩) (fun v1 => blt Pg R .append ⟨[30, 30]⟩ ty cs ⟨[s, v1]⟩ K) w := by
  obtain ⟨ob, h1, h2, h3⟩ := h
  refine app1_k elInt h1 rfl (fun c hc => by simp [Value.cells] at hc; subst hc; rfl) (by omega) (by omega) (by omega) fun s' w' ob' g1 g2 g3 => ?_
  refine k s' w' ob.toList ⟨ob', ?_, ?_, ?_⟩ g2 (fun a ha hm => h3 a (by simpa using hm) ha) (fun o ho => h2 o (by simpa using ho))
  · have e : ints xs ++ (I v).cells.toList = ints (xs ++ [v]) := by simp [ints, Value.cells]
    rw [e] at g1; simpa using g1
  · exact Own.step h2 he g3
  · intro o ho
    rcases g3 with g3 | ⟨c, g3, g4⟩
    · exact h3 o (by rw [← g3]; exact ho)
    · rw [g3] at ho; injection ho with ho; subst ho
      intro hm; have := hA c hm; omega
theorem add_same {L : List Ent} (hg : Good L) (t : Int) {p : Nat} (hp : p < 256) : ((aAdd L t p 255 false).1 = 0 → ringI (aAdd L t p 255 false).2 p = ringI L p ++ [t]) ∧ ((aAdd L t p 255 false).1 ≠ 0 → (aAdd L t p 255 false).2 = L) := by
  have h1 : isT (p : Int) = true := by simp only [isT, decide_eq_true_eq]; omega
  have h2 : isM 255 = true := by decide
  unfold aAdd
  cases ht : isT t with
  | false => simp [ht]
  | true =>
    simp only [ht, h1, h2, Bool.and_self, if_true]
    split
    · simp
    · obtain ⟨t', rfl, _⟩ := isT_true ht
      refine ⟨fun _ => ?_, fun h => absurd rfl h⟩
      have := ring_insert_same ⟨((t' : Int)).toNat, ((p : Int)).toNat, (255 : Int).toNat⟩ false L hg.sorted
      simp only [Int.toNat_natCast, Bool.false_eq_true, if_false] at this
      have e2 : (255 : Int).toNat = 255 := rfl
      rw [e2] at this
      simp [ringI, this]
theorem add_ne {L : List Ent} (t p : Int) (f : Bool) {pr : Nat} (hp : p ≠ (pr : Int)) : ringI (aAdd L t p 255 f).2 pr = ringI L pr := by
  unfold aAdd
  split
  · rename_i hc
    simp only [Bool.and_eq_true] at hc
    obtain ⟨p', rfl, _⟩ := isT_true hc.1.2
    split
    · rfl
    · unfold ringI
      rw [ring_insert_ne (x := ⟨t.toNat, ((p' : Int)).toNat, (255 : Int).toNat⟩) (by simp; omega)]
  · rfl
theorem ring_cons (x : Ent) (l : List Ent) (p : Nat) : ringI (x :: l) p = if x.p = p then (x.t : Int) :: ringI l p else ringI l p := by
  unfold ringI ring
  rw [List.filter_cons]
  by_cases h : x.p = p <;> simp [h]
variable {b : Nat} {pr : Nat}
theorem fifo_out (h1 : pr < 256) {want : List Int} {s6 : Value} {ow : Option Nat} (hb : w0.heap.size ≤ b) (how : ∀ o, ow = some o → o ≠ b) (hown : Own w0 ow) (hwl : want.length ≤ 100) : ∀ (k : Nat) (w : World) (L : List Ent) (got : List Int) (s9 : Value), k = L.length + 1 → got.length + L.length ≤ 300 →
    RQ w b L → All255 L → SL w 3 1 s6 want.length (ints want) ow → Mine (b :: ow.toList) w0 w s9 got → got ++ ringI L pr = want → Ext [] w0 w → orpimentlaw02_ReadyFIFO_l7 (Fin w0) k (.int .u8 pr) (ptr b 0) s6 s9 (I (L.length : Int)) w := by
  intro k
  induction k with
  | zero => intro w L got s9 hk; omega
  | succ k ih =>
    intro w L got s9 hk hgl h h5 hs6 hm hw he
    rw [orpimentlaw02_ReadyFIFO_l7_succ]
    unfold orpimentlaw02_ReadyFIFO_b5
    rw [bin_gtr, pv_some]
    refine cnd_decide (fun hc => ?_) (fun hc => ?_)
    · cases L with
      | nil => simp at hc
      | cons x l =>
        have hg := h.good
        refine cal_of (Best_spec h 0) ?_
        rw [best_cons h5 (by omega) (by omega)]
        rintro e w' ⟨rfl, hw'⟩
        obtain rfl := hw'.symm
        simp only [ret_k, ext0, ext1, pv_some]
        refine cal_of (Prio_spec h (x.t : Int)) ?_
        rw [prio_mem hg (by simp)]
        rintro e w' ⟨rfl, hw'⟩
        obtain rfl := hw'.symm
        simp only [ret_k, ext0, ext1, pv_some]
        refine cal_of (Take_spec h 0 (by have := hg.len; omega)) ?_
        rw [take_cons hg h5 (by omega) (by omega)]
        rintro e w1 ⟨rfl, hq, he1⟩
        simp only [ret_k, ext0, ext1, pv_some, bin_neq, ne_eq, not_true_eq_false, decide_false, cnd_false]
        rw [cv8 (by omega) (by omega), pv_some, bin_eql, pv_some]
        have he2 := own2 he he1 hb
        have hs6' := hs6.ext he1 (fun o ho => by simpa using how o ho)
        have hm' := hm.ext he1 (by simp)
        have h5' : All255 l := fun e he => h5 e (by simp [he])
        have hlen : (I ((x :: l).length : Int)) = I ((l.length : Int) + 1) := by simp
        have hll : l.length ≤ 256 := hq.good.len
        simp only [List.length_cons] at hgl
        rw [ring_cons] at hw
        refine cnd_decide (fun hp => ?_) (fun hp => ?_)
        · have hlow : ∀ o, ow = some o → o < w1.heap.size := by
            rintro o rfl; exact hs6'.lt
          refine mine_app hm' (by omega) ?_ he2.size fun s' w2 S hm2 heS hAS hS0 => ?_
          · intro a ha
            rcases List.mem_cons.1 ha with rfl | ha
            · exact hq.lt
            · exact hlow a (by simpa using ha)
          · unfold orpimentlaw02_ReadyFIFO_j6
            rw [hlen, bin_sub, pv_some, wrap64_id (by omega) (by omega), show (l.length : Int) + 1 - 1 = l.length from by omega]
            refine ih w2 l (got ++ [(x.t : Int)]) s' (by simp at hk; omega) (by simp; omega) (hq.ext heS (hAS b (by simp))) h5' (hs6'.ext heS (fun o ho => hAS o (by simp [ho]))) hm2 ?_ ?_
            · rw [if_pos (by omega)] at hw; rw [← hw]; simp
            · exact he2.then heS (fun k hk _ => by cases hk) (fun k hk hl => by have := hS0 k hk; omega)
        · unfold orpimentlaw02_ReadyFIFO_j6
          rw [hlen, bin_sub, pv_some, wrap64_id (by omega) (by omega), show (l.length : Int) + 1 - 1 = l.length from by omega]
          exact ih w1 l got s9 (by simp at hk; omega) (by omega) hq h5' hs6' hm' (by rw [if_neg (by omega)] at hw; exact hw) he2
    · have hL : L = [] := by
        cases L with
        | nil => rfl
        | cons x l => exact absurd (by simp only [List.length_cons]; omega) hc
      subst hL
      unfold orpimentlaw02_ReadyFIFO_j2
      have : got = want := by simpa [ringI, ring] using hw
      subst this
      refine cal_of (Equal_spec hm.src hs6.toSrc (by omega)) ?_
      rintro e w1 ⟨rfl, he1⟩
      simp only [ret_k, decide_true, gd_yes]
      refine cal_of awake_spec ?_
      rintro e w2 ⟨rfl, he2⟩
      simp only [ret_k, pick_true, pv_some]
      exact ⟨rfl, (he.trans he1).trans he2⟩
theorem fifo_in {x0 : Value} {xs : List ActR} (ha0 : Acts w0 x0 xs) (h1 : pr < 256) (hn : xs.length ≤ 60) (hb : w0.heap.size ≤ b) : ∀ (k i : Nat) (w : World) (L : List Ent) (want : List Int) (s6 : Value), i + k = xs.length + 1 → i ≤ xs.length → want.length ≤ i →
    RQ w b L → All255 L → Mine [b] w0 w s6 want → ringI L pr = want → Ext [] w0 w → orpimentlaw02_ReadyFIFO_l12 (Fin w0) k x0 (.int .u8 pr) (ptr b 0) s6 (I (i : Int)) w := by
  intro k
  induction k with
  | zero => intro i w L want s6 hk hi; omega
  | succ k ih =>
    intro i w L want s6 hk hi hwl h h5 hm hw he
    have ha := ha0.ext he
    rw [orpimentlaw02_ReadyFIFO_l12_succ]
    unfold orpimentlaw02_ReadyFIFO_b10
    rw [ha.len, pv_some, bin_lss, pv_some]
    have hgl := h.good.len
    refine cnd_decide (fun hc => ?_) (fun hc => ?_)
    · obtain ⟨x, hx⟩ : ∃ x, xs[i]? = some x := ⟨_, List.getElem?_eq_getElem (by omega)⟩
      obtain ⟨a, hix, hcell⟩ := acts_at ha hx
      rw [hix, pv_some]
      refine ldN6_act hcell ?_
      refine act_var fun w1 hv he1 => ?_
      have hvb : w.heap.size ≠ b := by have := h.lt; omega
      have h' := h.ext he1 (by simp)
      have hm' := hm.ext he1 (by simp)
      have he' := he.trans he1
      simp only [faO_mk, pv_some]
      refine ld1_blk hv rfl ?_
      rw [bin_rem (by decide), pv_some, bin_eql, pv_some]
      refine cnd_decide (fun hd => ?_) (fun hd => ?_)
      · refine ld1_blk hv rfl ?_
        rw [cv8 (by omega) (by omega), pv_some]
        refine cal_of (Add_spec h' x.t pr 255 false (by omega)) ?_
        rintro e w2 ⟨rfl, hq, he2⟩
        simp only [ret_k, bin_eql, pv_some]
        obtain ⟨g1, g2⟩ := add_same h.good x.t h1
        have hm2 := hm'.ext he2 (by simp)
        have e2 := own2 he' he2 hb
        refine cnd_decide (fun h0 => ?_) (fun h0 => ?_)
        · have hv2 := hv.ext he2 (by simpa using hvb)
          refine ld1_blk hv2 rfl ?_
          refine mine_app hm2 (by omega) (by intro a ha; simp at ha; subst ha; exact hq.lt) e2.size fun s' w3 S hm3 heS hAS hS0 => ?_
          unfold orpimentlaw02_ReadyFIFO_j11
          rw [bin_add, pv_some, wrap64_id (by omega) (by omega)]
          refine ih (i + 1) w3 _ (want ++ [x.t]) s' (by omega) (by omega) (by simp; omega) (hq.ext heS (hAS b (by simp))) (all_add h5 x.t pr false) hm3 (by rw [g1 h0, hw]) ?_
          exact e2.then heS (fun k hk _ => by cases hk) (fun k hk hl => by have := hS0 k hk; omega)
        · unfold orpimentlaw02_ReadyFIFO_j11
          rw [bin_add, pv_some, wrap64_id (by omega) (by omega)]
          rw [g2 h0] at hq
          exact ih (i + 1) w2 L want s6 (by omega) (by omega) (by omega) hq h5 hm2 hw e2
      · refine ld1_blk hv rfl ?_
        rw [cv8 (by omega) (by omega), pv_some, bin_neq, pv_some]
        refine cnd_decide (fun hp => ?_) (fun hp => ?_)
        · refine ld1_blk hv rfl ?_
          refine ld1_blk hv rfl ?_
          refine ld1_blk hv rfl ?_
          refine cal_of (Add_spec h' x.t x.p 255 x.f (by omega)) ?_
          rintro e w2 ⟨rfl, hq, he2⟩
          simp only [ret_k]
          unfold orpimentlaw02_ReadyFIFO_j11
          rw [bin_add, pv_some, wrap64_id (by omega) (by omega)]
          exact ih (i + 1) w2 _ want s6 (by omega) (by omega) (by omega) hq (all_add h5 x.t x.p x.f) (hm'.ext he2 (by simp)) (by rw [add_ne x.t x.p x.f hp, hw]) (own2 he' he2 hb)
        · unfold orpimentlaw02_ReadyFIFO_j11
          rw [bin_add, pv_some, wrap64_id (by omega) (by omega)]
          exact ih (i + 1) w1 L want s6 (by omega) (by omega) (by omega) h' h5 hm' hw he'
    · unfold orpimentlaw02_ReadyFIFO_j1 orpimentlaw02_ReadyFIFO_j3
      refine cal_of (Len_spec h) ?_
      rintro e w' ⟨rfl, hw'⟩
      obtain rfl := hw'.symm
      simp only [ret_k]
      unfold orpimentlaw02_ReadyFIFO_j4
      obtain ⟨ow, hs6, hown, hne⟩ := hm
      exact ⟨L.length + 1, fifo_out h1 hb (fun o ho => by simpa using hne o ho) hown (by omega) (L.length + 1) w L [] _ rfl (by simp; omega) h h5 hs6 Mine.nil (by simpa using hw) he⟩
theorem ReadyFIFO_spec {x0 : Value} {xs : List ActR} (ha : Acts w0 x0 xs) (h1 : pr < 256) : Calls Pg 5 ⟨[x0, .int .u8 pr]⟩ w0 (Fin w0) := by
  apply orpimentlaw02_ReadyFIFO_calls
  unfold orpimentlaw02_ReadyFIFO
  rw [ha.len, pv_some, bin_gtr, pv_some]
  refine cnd_decide (fun hc => awake_fin (Ext.refl _ _)) (fun hc => ?_)
  refine cal_of New_spec ?_
  rintro e w1 ⟨b, rfl, hq, he, hb⟩
  simp only [ret_k]
  unfold orpimentlaw02_ReadyFIFO_j8 orpimentlaw02_ReadyFIFO_j9
  exact ⟨xs.length + 1, fifo_in ha h1 (by omega) hb (xs.length + 1) 0 w1 [] [] _ (by omega) (by omega) (by simp) hq all_nil Mine.nil rfl he⟩
theorem ReadyFIFO_any {x0 : Value} {xs : List ActR} {pr : Int} (ha : Acts w0 x0 xs) (h0 : 0 ≤ pr) (h1 : pr < 256) : Calls Pg 5 ⟨[x0, .int .u8 pr]⟩ w0 (Fin w0) := by
  obtain ⟨n, rfl⟩ := Int.eq_ofNat_of_zero_le h0
  exact ReadyFIFO_spec ha (by omega)
end
end Go.Proofs.Yticnobfmpogcoaa.Den
