/- Packet filter: the law Order, walked. Conditions: none. -/
import Derived.Test.YtmmbepdghpjgeaaFlX
set_option linter.unusedVariables false
set_option linter.unusedSimpArgs false
set_option maxRecDepth 8000
set_option maxHeartbeats 1000000
namespace Go.Proofs.Ytmmbepdghpjgeaa.Den
open Go Go.RowKit
section
variable {α : Type} {C : Cod α} {xs : List α} {x x' : α} {w w' w0 : World} {L L' F cs : List Chunk} {s v : Value} {K : VK} {el i f : Nat}
theorem lay_one {l : List Value} {o f sz : Nat} {en en' : List Value} (h1 : en'.length = sz) (h2 : o + sz ≤ l.length) (h3 : (l.drop o).take sz = en) (h4 : en' = en.set f v) (h5 : f < sz) : l.set (o + f) v = lay l o en' := by
  apply List.ext_getElem?
  intro j
  unfold lay
  rw [List.getElem?_set]
  have hlt : (l.take o).length = o := by rw [List.length_take]; omega
  rcases Nat.lt_or_ge j o with h | h
  · rw [if_neg (by omega), List.append_assoc, List.getElem?_append_left (by omega), List.getElem?_take, if_pos h]
  · rcases Nat.lt_or_ge j (o + sz) with h' | h'
    · rw [List.append_assoc, List.getElem?_append_right (by omega), hlt, List.getElem?_append_left (by omega), h4, List.getElem?_set]
      have hen : en[j - o]? = l[j]? := by
        rw [← h3, List.getElem?_take, if_pos (by omega), List.getElem?_drop]; congr 1; omega
      have hel : en.length = sz := by rw [← h3, List.length_take, List.length_drop]; omega
      by_cases hj : o + f = j
      · rw [if_pos hj, if_pos (by omega), if_pos (by omega), if_pos (by omega)]
      · rw [if_neg hj, if_neg (by omega), hen]
    · rw [if_neg (by omega), List.getElem?_append_right (by rw [List.length_append]; omega), List.length_append, hlt, h1, List.getElem?_drop]
      congr 1; omega
/-- Writing a field of an element. -/
theorem istF_t {k : IntKind} (h : TS C el s xs cs) (H : Hp w0 w L) (hS : Split L cs F) (hx : xs[i]? = some x) (hf : f < C.sz) (hx' : C.enc x' = (C.enc x).set f v) (hv : scalar v = true)
    (g : ∀ w' cs', Hp w0 w' (cs' ++ F) → TS C el s (xs.set i x') cs' → K undef w') : pv (ixS C.sz s (.int k (i : Int))) (fun p => pv (faO f p) fun q => st1 q v K) w := by
  have hi := (List.getElem?_eq_some_iff.1 hx).1
  obtain ⟨b, e, rest, rfl, h2⟩ := h.at hi (k := k)
  rw [e, pv_some, show faO f (ptr b (i * C.sz)) = some (ptr b (i * C.sz + f)) from faO_mk _ _ _, pv_some]
  have hil : (i + 1) * C.sz ≤ xs.length * C.sz := Nat.mul_le_mul_right _ hi
  rw [Nat.succ_mul] at hil
  have hle : i * C.sz + C.sz ≤ (C.all xs ++ rest).length := by rw [List.length_append, all_len]; omega
  refine st_m (H.split hS) Upd.here (by omega) hv fun w' H' => g w' _ H' (h2 x' _ ?_)
  refine lay_one (C.len x') hle ?_ hx' hf
  rw [List.drop_append_of_le_length (by rw [all_len]; omega), List.take_append_of_le_length (by rw [List.length_drop, all_len]; omega)]
  exact all_part hx
end
def k0 (r : Rul) : Rul := { r with keep := false }
theorem map_step {l : List Rul} {i : Nat} {r : Rul} (h : l[i]? = some r) : ((l.take i).map k0 ++ l.drop i).set i (k0 r) = (l.take (i + 1)).map k0 ++ l.drop (i + 1) := by
  have hi := (List.getElem?_eq_some_iff.1 h).1
  rw [List.set_append_right _ _ (by simp; omega)]
  have : i - ((l.take i).map k0).length = 0 := by simp; omega
  rw [this, List.drop_eq_getElem_cons hi, List.set_cons_zero, List.take_add_one, h]; simp
section
variable {w w' w0 : World} {L L' F cs cs2 A X Y cc cr : List Chunk} {s s2 sr sc : Value} {K : VK} {R : ER} {b i j fb mb n : Nat} {l : List Rul} {ps : List Pkt}
theorem order_law (hl : TR cRul w0 cs s l) (hok : ∀ r ∈ l, r.Ok) (hps : TR cPkt w0 cs2 s2 ps) (hpk : ∀ p ∈ ps, p.Ok) (hn : l.length < 2 ^ 63) (H : Hp w0 w L) (m1 : ∀ c ∈ cs, c ∈ L) (m2 : ∀ c ∈ cs2, c ∈ L) :
    Calls Pg 5 ⟨[s, s2]⟩ w fun e w' => e = .returned (.bool true) ∧ Hp w0 w' L := by
  generalize hQ : (fun (e : Ending) (w' : World) => e = .returned (.bool true) ∧ Hp w0 w' L : ER) = Q
  have aw : ∀ w A, Hp w0 w (A ++ L) → cal Pg Q 10 ⟨[]⟩ (fun v67 => Q (.returned v67)) w := by
    intro w A H
    refine cal_h (awake_spec H) ?_
    rintro _ w ⟨rfl, H⟩
    subst hQ
    exact ⟨(by first | rfl | trivial), H.right⟩
  apply F5_calls
  unfold F5
  refine pv_of (lenS_tr hl) ?_
  refine gtr_k (fun h20 => ?_) (fun h20 => ?_)
  · (try simp only [W0])
    exact aw w [] H
  (try simp only [W0])
  refine pv_of (lenS_tr hps) ?_
  (try simp only [W0])
  refine gtr_k (fun h30 => ?_) (fun h30 => ?_)
  · (try simp only [W0])
    exact aw w [] H
  (try simp only [W0])
  unfold F5_j1
  refine cal_h (cloneRul_spec hl H m1 (by omega)) ?_
  rintro _ w ⟨s0, c0, rfl, H, h0⟩
  (try simp only [W0])
  unfold F5_j8
  refine pv_of (lenS_ts h0) ?_
  unfold F5_j9
  refine loop4 (F5_l2_succ _) (fun m x0 x1 x27 x28 w => ∃ (i : Nat) (c0 : List Chunk), s0 = x0 ∧ s2 = x1 ∧ x27 = I (l.length : Int) ∧ x28 = I (i : Int) ∧ m + i = l.length ∧ TS cRul 29 s0 ((l.take i).map k0 ++ l.drop i) c0 ∧ Hp w0 w (c0 ++ L)) ?_ (m := l.length) ⟨0, c0, rfl, rfl, rfl, rfl, rfl, by simpa using h0, H⟩
  clear H h0 c0
  rintro m k _ _ _ _ w ⟨i, c0, rfl, rfl, rfl, rfl, hm, h0, H⟩ hk
  unfold F5_b2
  refine lss_k (fun hi => ?_) (fun hi => ?_)
  · (try simp only [W0])
    have hx : l[i]? = some l[i] := List.getElem?_eq_getElem (by omega)
    generalize l[i] = r at hx
    have hx2 : ((l.take i).map k0 ++ l.drop i)[i]? = some r := by
      rw [List.getElem?_append_right (by simp; omega)]
      have : i - ((l.take i).map k0).length = 0 := by simp; omega
      rw [this, List.getElem?_drop]; simpa using hx
    refine istF_t (C := cRul) (f := 2) (x' := k0 r) (v := .bool false) h0 H Split.here hx2 (by decide) rfl rfl fun w c0 H h0 => ?_
    rw [map_step hx] at h0
    refine add_k (z := ((i + 1 : Nat) : Int)) (by omega) (by omega) (by omega) ?_
    exact hk (m - 1) _ _ _ _ _ (by omega) ⟨i + 1, c0, rfl, rfl, rfl, rfl, by omega, h0, H⟩
  · (try simp only [W0])
    rw [List.take_of_length_le (by omega), List.drop_of_length_le (by omega), List.append_nil] at h0
    have hokk : ∀ r ∈ l.map k0, r.Ok := by
      intro r hr
      obtain ⟨a, ha, rfl⟩ := List.mem_map.1 hr
      exact hok a ha
    have hkk : ∀ r ∈ l.map k0, r.keep = false := by
      intro r hr
      obtain ⟨a, ha, rfl⟩ := List.mem_map.1 hr
      rfl
    have hlk : (l.map k0).length < 2 ^ 63 := by simp; omega
    generalize l.map k0 = lk at *
    unfold F5_j2
    by_cases he : newErr lk 1 1 = 0
    · refine cal_h (new_ok (limit := 1) (life := 1) h0.tr hokk H (fun c hc => List.mem_append_left _ hc) he hlk) ?_
      rintro _ w ⟨fb, mb, sr, sc, cr, cc, rfl, h2, h3, H⟩
      (try simp only [W0])
      refine neq_n (by decide) ?_
      (try simp only [W0])
      unfold F5_j3 F5_j5
      refine pv_of (lenS_tr hps) ?_
      unfold F5_j6
      refine loop5 (F5_l1_succ _) (fun m x0 x6 x44 x45 x46 w => ∃ (i : Nat) (f : FS) (cc : List Chunk), s0 = x0 ∧ x6 = ptr fb 0 ∧ s2 = x44 ∧ x45 = I (ps.length : Int) ∧ x46 = I (i : Int) ∧ m + i = ps.length ∧ f.Inv i ∧ f.ents = [] ∧ f.rules = lk ∧ f.clock ≤ 5 ∧
        TS cI 2 sc f.counts cc ∧ Hp w0 w (f.mem fb mb sr sc (cc ++ (cr ++ (c0 ++ L))))) ?_ (m := ps.length) ⟨0, ⟨lk, List.replicate lk.length 0, 1, 1, [], 0, 0, 0⟩, cc, rfl, rfl, rfl, rfl, rfl, rfl, newFS_inv hokk he, rfl, rfl, by show (0 : Int) ≤ 5; decide, h3, H⟩
      clear H h3 cc
      rintro m k _ _ _ _ _ w ⟨i, f, cc, rfl, rfl, rfl, rfl, rfl, hm, hinv, hfe, hfr, hfc, h3, H⟩ hk
      unfold F5_b1
      refine lss_k (fun hi => ?_) (fun hi => ?_)
      · (try simp only [W0])
        have hx : ps[i]? = some ps[i] := List.getElem?_eq_getElem (by omega)
        generalize ps[i] = p at hx
        have hp := hpk p (List.mem_of_getElem? hx)
        unfold F5_j7
        refine ixN_t (C := cPkt) hps H (fun c hc => List.mem_cons_of_mem _ (List.mem_cons_of_mem _ (List.mem_append_right _ (List.mem_append_right _ (List.mem_append_right _ (m2 c hc)))))) hx (by decide) ?_
        refine al_m (ys := [I 0, I 0, U32 0, U32 0, I 0, I 0, I 0, .bool false]) H (by kernel_rfl) fun w b4 H => ?_
        refine stA_m (vs := p.enc) H updd rfl rfl p.enc_sc fun w H => ?_
        refine ldA_m (l := p.enc) H has rfl ?_
        have hnk : nokeep f.rules p := by intro r hr hk; rw [hfr] at hr; rw [hkk r hr] at hk; cases hk
        have H2 : Hp w0 w (f.mem fb mb sr sc (cc ++ (cr ++ (⟨b4, .t 45, p.enc⟩ :: (c0 ++ L))))) := H.to fun q => by simp only [FS.mem, List.map_append, List.map_cons, List.sum_append, List.sum_cons]; omega
        refine cal_h (decide_spec (f := f) (p := p) (now := 5) (cr := cr) (F := cr ++ (⟨b4, .t 45, p.enc⟩ :: (c0 ++ L))) hinv (by omega) hp (by rw [hfr]; exact h2.tr) (fun c hc => List.mem_append_left _ hc) h3
          (by intro r hr hk; rw [hfr] at hr; rw [hkk r (List.mem_of_getElem? hr)] at hk; cases hk) H2) ?_
        rintro _ w ⟨cc', rfl, h4, H⟩
        have hplain := FS.decide_plain (f := f) (p := p) (now := 5) hfe (by decide) (by decide) hfc hnk
        have hinv' := hinv.plain hfe (by decide) (by decide) hfc hnk
        obtain ⟨e1, e2, e3, e4, _⟩ := hplain
        generalize hfd : f.decide p 5 = fd at *
        obtain ⟨res, f'⟩ := fd
        simp only at e1 e2 e3 e4 h4 H hinv'
        subst e1
        (try simp only [W0])
        refine ldA_m (b := b4) (l := p.enc) (t := 45) H (by unfold Has FS.mem; simp) rfl ?_
        refine cal_h (decide39_spec (l := lk) h0.tr hokk hp hlk H (fun c hc => by unfold FS.mem; simp [hc])) ?_
        rintro _ w ⟨rfl, H⟩
        (try simp only [W0])
        have fin : ∀ w, Hp w0 w (f'.mem fb mb sr sc (cc' ++ (cr ++ (⟨b4, .t 45, p.enc⟩ :: (c0 ++ L))))) → pv (bin .add (I (i : Int)) (.int .i64 1)) (fun v20 => k s0 (ptr fb 0) s2 (I (ps.length : Int)) v20) w := by
          intro w H
          refine add_k (z := ((i + 1 : Nat) : Int)) (by omega) (by omega) (by omega) ?_
          refine hk (m - 1) _ _ _ _ _ _ (by omega) ⟨i + 1, f', cc', rfl, rfl, rfl, rfl, rfl, by omega, hinv', e2, e3.trans hfr, e4, h4, H.to fun q => by simp only [FS.mem, List.map_append, List.map_cons, List.sum_append, List.sum_cons]; omega⟩
        by_cases hpc : p.check = 0
        · have ed : dec0 lk p = (act0 lk p, true) := by unfold dec0; rw [if_neg (by simp [he, hpc])]
          rw [if_neg (by simp [hpc]), ed, hfr]
          (try simp only [W0])
          refine eql_y (by decide) ?_
          refine pv_of (v := .bool false) rfl ?_
          (try simp only [W0])
          refine neq_n (by simp) ?_
          (try simp only [W0])
          exact fin w H
        · have ed : dec0 lk p = (0, false) := by unfold dec0; rw [if_pos (.inr hpc)]
          rw [if_pos hpc, ed]
          (try simp only [W0])
          refine eql_n hpc ?_
          refine pv_of (v := .bool false) rfl ?_
          (try simp only [W0])
          refine neq_n (by simp) ?_
          (try simp only [W0])
          exact fin w H
      · (try simp only [W0])
        unfold F5_j4
        exact aw w (⟨fb, .t 117, [sr, sc, I f.limit, I f.life, .map (some mb), I f.made, I f.clock]⟩ :: ⟨mb, .o (mobj kC vE f.ents f.mck), []⟩ :: (cc ++ (cr ++ c0))) (H.to fun q => by simp only [FS.mem, List.cons_append, List.map_append, List.map_cons, List.sum_append, List.sum_cons]; omega)
    · refine cal_h (new_err (limit := 1) (life := 1) h0.tr hokk hlk H (fun c hc => List.mem_append_left _ hc) he) ?_
      rintro _ w ⟨rfl, H⟩
      (try simp only [W0])
      refine neq_y he ?_
      (try simp only [W0])
      exact aw w c0 H
end
end Go.Proofs.Ytmmbepdghpjgeaa.Den
