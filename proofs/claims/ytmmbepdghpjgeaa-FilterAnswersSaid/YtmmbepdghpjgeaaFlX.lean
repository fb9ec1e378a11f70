/- Packet filter: the laws Quick and Reversed, walked. Conditions: none. -/
import Derived.Test.YtmmbepdghpjgeaaFlW
import Derived.Test.YtmmbepdghpjgeaaFlU
set_option linter.unusedVariables false
set_option linter.unusedSimpArgs false
set_option maxRecDepth 8000
set_option maxHeartbeats 1000000
namespace Go.Proofs.Ytmmbepdghpjgeaa.Den
open Go Go.RowKit
theorem elInt : ElT 50 3 cI.sz 8 [I 0] := ⟨by kernel_rfl, by kernel_rfl, rfl⟩
theorem dec_rev (l : List Rul) (p : Pkt) : dec0 (l.map (q0 false)) p = dec0 (l.map (q0 true)).reverse p := by
  have h : newErr (l.map (q0 false)) 1 1 = 0 ↔ newErr (l.map (q0 true)).reverse 1 1 = 0 := by
    rw [newErr_one, newErr_one, List.length_reverse, List.length_map, List.length_map]
    refine and_congr_right fun _ => ⟨fun h r hr => ?_, fun h r hr => ?_⟩
    · obtain ⟨a, ha, rfl⟩ := List.mem_map.1 (List.mem_reverse.1 hr)
      exact h (q0 false a) (List.mem_map.2 ⟨a, ha, rfl⟩)
    · obtain ⟨a, ha, rfl⟩ := List.mem_map.1 hr
      exact h (q0 true a) (List.mem_reverse.2 (List.mem_map.2 ⟨a, ha, rfl⟩))
  unfold dec0
  by_cases h1 : newErr (l.map (q0 false)) 1 1 ≠ 0 ∨ p.check ≠ 0
  · rw [if_pos h1, if_pos]
    rcases h1 with h1 | h1
    · exact .inl fun h2 => h1 (h.2 h2)
    · exact .inr h1
  · rw [if_neg h1, if_neg, reversed_act]
    rintro (h2 | h2)
    · exact h1 (.inl fun h3 => h2 (h.1 h3))
    · exact h1 (.inr h2)
theorem dec_cons {l : List Rul} {p : Pkt} {r : Rul} (hd : (dec0 l p).2 = true) (hl : l.length ≤ 20) (hr : r.check = 0) : dec0 (q0 true r :: l) p = (if r.fits p then r.act else (dec0 l p).1, true) := by
  unfold dec0 at hd ⊢
  split at hd
  · cases hd
  rename_i h
  have h1 : newErr l 1 1 = 0 := Decidable.not_not.1 fun h' => h (.inl h')
  have h2 : p.check = 0 := Decidable.not_not.1 fun h' => h (.inr h')
  have h3 : newErr (q0 true r :: l) 1 1 = 0 := by
    rw [newErr_one] at h1 ⊢
    refine ⟨by simp only [List.length_cons]; omega, fun x hx => ?_⟩
    rcases List.mem_cons.1 hx with rfl | hx
    · exact hr
    · exact h1.2 x hx
  rw [if_neg (by simp [h3, h2]), if_neg h, act0_eq, act0_eq]
  show ((if (!r.fits p) = true then actF p l 1 else if true = true then r.act else _), true) = _
  cases r.fits p <;> rfl
section
variable {w w' w0 : World} {L L' F cs A X Y cc cr : List Chunk} {s sr sc : Value} {K : VK} {R : ER} {b i j fb mb n : Nat} {p : Pkt} {l : List Rul} {r : Rul}
theorem reversed_law (hl : TR cRul w0 cs s l) (hok : ∀ r ∈ l, r.Ok) (hp : p.Ok) (hn : l.length < 2 ^ 63) (H : Hp w0 w L) (m1 : ∀ c ∈ cs, c ∈ L) :
    Calls Pg 6 ⟨[s, .agg ⟨p.enc⟩]⟩ w fun e w' => e = .returned (.bool true) ∧ Hp w0 w' L := by
  generalize hQ : (fun (e : Ending) (w' : World) => e = .returned (.bool true) ∧ Hp w0 w' L : ER) = Q
  apply F6_calls
  unfold F6
  refine bx_m H fun w b3 H => ?_
  refine pv_of (lenS_tr hl) ?_
  refine gtr_k (fun h20 => ?_) (fun h20 => ?_)
  · (try simp only [W0])
    refine cal_h (awake_spec H) ?_
    rintro _ w ⟨rfl, H⟩
    (try simp only [W0])
    subst hQ
    exact ⟨(by first | rfl | trivial), H.tail⟩
  · (try simp only [W0])
    unfold F6_j1 F6_j3
    refine pv_of (lenS_tr hl) ?_
    unfold F6_j4
    refine loop6 (F6_l1_succ _) (fun m x3 x5 x6 x17 x18 x19 w => ∃ (i : Nat) (ca cb : List Chunk), x3 = ptr b3 0 ∧ s = x17 ∧ x18 = I (l.length : Int) ∧ x19 = I (i : Int) ∧ m + i = l.length ∧
      TS cRul 29 x5 ((l.take i).map (q0 false)) ca ∧ TS cRul 29 x6 ((l.take i).map (q0 true)) cb ∧ Hp w0 w (ca ++ (cb ++ (⟨b3, .t 45, p.enc⟩ :: L)))) ?_ (m := l.length) ⟨0, [], [], rfl, rfl, rfl, rfl, rfl, TS.nil, TS.nil, H⟩
    clear H
    rintro m k _ x5 x6 _ _ _ w ⟨i, ca, cb, rfl, rfl, rfl, rfl, hm, ha, hb, H⟩ hk
    unfold F6_b1
    refine lss_k (fun hi => ?_) (fun hi => ?_)
    · (try simp only [W0])
      have hx : l[i]? = some l[i] := List.getElem?_eq_getElem (by omega)
      generalize l[i] = r at hx
      have htk : ∀ b, (l.take (i + 1)).map (q0 b) = (l.take i).map (q0 b) ++ [q0 b r] := by
        intro b; rw [List.take_add_one, hx]; simp
      unfold F6_j5
      refine ixN_t (C := cRul) hl H (fun c hc => List.mem_append_right _ (List.mem_append_right _ (List.mem_cons_of_mem _ (m1 c hc)))) hx (by decide) ?_
      refine al_m (ys := rul0.enc) H (by kernel_rfl) fun w b7 H => ?_
      refine stA_m (vs := r.enc) H updd rfl rfl (by exact r.enc_sc) fun w H => ?_
      (try simp only [W0])
      refine st_m (o := 1) H updd (by simp [Rul.enc]) rfl fun w H => ?_
      replace H : Hp w0 w (⟨b7, .t 29, (q0 false r).enc⟩ :: (ca ++ (cb ++ (⟨b3, .t 45, p.enc⟩ :: L)))) := H
      refine ldA_m (l := (q0 false r).enc) H has rfl ?_
      refine app1_t (C := cRul) (x := q0 false r) (F := ⟨b7, .t 29, (q0 false r).enc⟩ :: (cb ++ (⟨b3, .t 45, p.enc⟩ :: L))) elRul H ha spl rfl (by decide) (by simp; omega) (by simp; omega) fun w sa ca' H ha' => ?_
      (try simp only [W0])
      have H2 : Hp w0 w (⟨b7, .t 29, (q0 false r).enc⟩ :: (ca' ++ (cb ++ (⟨b3, .t 45, p.enc⟩ :: L)))) := H.re
      refine st_m (o := 1) H2 updd (by simp [Rul.enc]) rfl fun w H => ?_
      replace H : Hp w0 w (⟨b7, .t 29, (q0 true r).enc⟩ :: (ca' ++ (cb ++ (⟨b3, .t 45, p.enc⟩ :: L)))) := H
      refine ldA_m (l := (q0 true r).enc) H has rfl ?_
      refine app1_t (C := cRul) (x := q0 true r) (F := ⟨b7, .t 29, (q0 true r).enc⟩ :: (ca' ++ (⟨b3, .t 45, p.enc⟩ :: L))) elRul H hb spl rfl (by decide) (by simp; omega) (by simp; omega) fun w sb cb' H hb' => ?_
      refine add_k (z := ((i + 1 : Nat) : Int)) (by omega) (by omega) (by omega) ?_
      exact hk (m - 1) _ _ _ _ _ _ _ (by omega) ⟨i + 1, ca', cb', rfl, rfl, rfl, rfl, by omega, by rw [htk]; exact ha', by rw [htk]; exact hb', H.re⟩
    · (try simp only [W0])
      rw [List.take_of_length_le (by omega)] at ha hb
      have hlen : l.length ≤ 20 := by omega
      have hokq : ∀ b, ∀ r ∈ l.map (q0 b), r.Ok := by
        intro b r hr
        obtain ⟨a, ha, rfl⟩ := List.mem_map.1 hr
        exact hok a ha
      unfold F6_j2
      have H2 : Hp w0 w (cb ++ (ca ++ (⟨b3, .t 45, p.enc⟩ :: L))) := H.re
      refine cal_h (rev_spec hb H2 (by simp; omega)) ?_
      rintro _ w ⟨cb', rfl, H, hb⟩
      (try simp only [W0])
      refine ldA_m (l := p.enc) H has rfl ?_
      refine cal_h (decide39_spec ha.tr (hokq false) hp (by simp; omega) H (fun c hc => List.mem_append_right _ (List.mem_append_left _ hc))) ?_
      rintro _ w ⟨rfl, H⟩
      (try simp only [W0])
      refine ldA_m (l := p.enc) H has rfl ?_
      refine cal_h (decide39_spec hb.tr (fun r hr => hokq true r (List.mem_reverse.1 hr)) hp (by simp; omega) H (fun c hc => List.mem_append_left _ hc)) ?_
      rintro _ w ⟨rfl, H⟩
      rw [dec_rev]
      generalize dec0 (l.map (q0 true)).reverse p = d
      obtain ⟨d1, d2⟩ := d
      (try simp only [W0])
      have hbb : binB .eql (.bool d2) (.bool d2) = some (.bool true) := by cases d2 <;> rfl
      refine pv_of hbb ?_
      (try simp only [W0])
      refine eql_y rfl ?_
      (try simp only [W0])
      refine cal_h (awake_spec H) ?_
      rintro _ w ⟨rfl, H⟩
      (try simp only [W0])
      subst hQ
      exact ⟨(by first | rfl | trivial), H.right.right.tail⟩
theorem quick_law (hl : TR cRul w0 cs s l) (hok : ∀ r ∈ l, r.Ok) (hr : r.Ok) (hp : p.Ok) (hn : l.length < 2 ^ 63) (H : Hp w0 w L) (m1 : ∀ c ∈ cs, c ∈ L) :
    Calls Pg 4 ⟨[.agg ⟨r.enc⟩, s, .agg ⟨p.enc⟩]⟩ w fun e w' => e = .returned (.bool true) ∧ Hp w0 w' L := by
  generalize hQ : (fun (e : Ending) (w' : World) => e = .returned (.bool true) ∧ Hp w0 w' L : ER) = Q
  apply F4_calls
  unfold F4
  refine bx_m H fun w b3 H => ?_
  refine bx_m H fun w b5 H => ?_
  refine ldA_m (l := p.enc) H has rfl ?_
  refine cal_h (decide39_spec hl hok hp hn H (fun c hc => List.mem_cons_of_mem _ (List.mem_cons_of_mem _ (m1 c hc)))) ?_
  rintro _ w ⟨rfl, H⟩
  (try simp only [W0])
  unfold F4_j8
  refine pv_of (lenS_tr hl) ?_
  have aw : ∀ w, Hp w0 w (⟨b5, .t 45, p.enc⟩ :: ⟨b3, .t 29, r.enc⟩ :: L) → cal Pg Q 10 ⟨[]⟩ (fun v67 => Q (.returned v67)) w := by
    intro w H
    refine cal_h (awake_spec H) ?_
    rintro _ w ⟨rfl, H⟩
    subst hQ
    exact ⟨(by first | rfl | trivial), H.tail.tail⟩
  refine gtr_k (fun h20 => ?_) (fun h20 => ?_)
  · (try simp only [W0])
    exact aw w H
  have hlen : l.length ≤ 20 := by omega
  cases hd : (dec0 l p).2 with
  | false =>
    (try simp only [W0])
    exact aw w H
  | true =>
  (try simp only [W0])
  refine ldA_m (l := r.enc) H has rfl ?_
  (try simp only [W0])
  refine cal_h (rcheck_spec hr H) ?_
  rintro _ w ⟨rfl, H⟩
  (try simp only [W0])
  refine neq_k (fun hrc => ?_) (fun hrc => ?_)
  · (try simp only [W0])
    exact aw w H
  (try simp only [W0])
  unfold F4_j1
  (try simp only [W0])
  refine st_m (o := 1) H updd (by simp [Rul.enc]) rfl fun w H => ?_
  replace H : Hp w0 w (⟨b5, .t 45, p.enc⟩ :: ⟨b3, .t 29, (q0 true r).enc⟩ :: L) := H
  have hpc : p.check = 0 := by
    unfold dec0 at hd
    split at hd
    · cases hd
    rename_i h
    exact Decidable.not_not.1 fun h' => h (.inr h')
  -- one call of decide with a rule in front
  have front : ∀ (w : World) (b7 : Nat) (G : List Chunk) (x : Rul) (K : VK), x.Ok → x.check = 0 → (∀ c ∈ cs, c ∈ G) → Hp w0 w (⟨b7, .t 29, (q0 true x).enc⟩ :: ⟨b5, .t 45, p.enc⟩ :: G) →
      (∀ w', Hp w0 w' (⟨b7, .t 29, (q0 true x).enc⟩ :: ⟨b5, .t 45, p.enc⟩ :: G) → K (.tuple ⟨[I (if x.fits p then x.act else (dec0 l p).1), .bool true]⟩) w') →
      drewV (ldN 16 (ptr b7 0) fun v48 => mem fun w50 => valV Pg noR (Instr.buildSlice 43 1 ⟨[(0, v48)]⟩) fun v49 => mem fun w52 => blt Pg noR .append ⟨[43,43]⟩ 43 ⟨[false, false]⟩ ⟨[v49, s]⟩ fun v51 =>
        ldNS [w52, w50] 8 (ptr b5 0) fun v53 => mem fun w55 => cal Pg noR 14 ⟨[v51, v53]⟩ K) w := by
    intro w b7 G x K hx1 hx2 mG H g
    refine drew_k H fun w H => ?_
    refine ldA_m (l := (q0 true x).enc) H has rfl ?_
    have H50 := H
    have hop : ∀ {w : World} {L : List Chunk}, Hp w0 w L → Has L b5 (.t 45) p.enc → cellsAt w ⟨b5, 0, none⟩ 0 8 = some p.enc := fun H hm => H.cellsM hm rfl
    have c50 := hop H has
    simp only [W0]
    refine lit1_t (C := cRul) (x := q0 true x) elRul H rfl (by decide) fun w1 s1 c1 H h1 => ?_
    have c52 := hop H (Has.app has)
    refine append_t (C := cRul) (F := ⟨b7, .t 29, (q0 true x).enc⟩ :: ⟨b5, .t 45, p.enc⟩ :: G) elRul H h1 Split.here hl (fun c hc => List.mem_append_right _ (List.mem_cons_of_mem _ (List.mem_cons_of_mem _ (mG c hc)))) (by simp; omega) (by simp; omega) fun w2 s2 c2 H h2 => ?_
    refine ldNS_m (l := p.enc) H (Has.app has) rfl ?_ ?_
    · intro x hx
      simp only [List.mem_cons, List.not_mem_nil, or_false] at hx
      rcases hx with rfl | rfl
      · exact c52
      · exact c50
    refine cal_h (decide39_spec (l := q0 true x :: l) h2.tr (by intro y hy; rcases List.mem_cons.1 hy with rfl | hy; exact hx1; exact hok y hy) hp (by simp; omega) H (fun c hc => List.mem_append_left _ hc)) ?_
    rintro _ w ⟨rfl, H⟩
    rw [dec_cons hd hlen hx2]
    exact g w H.right
  have H2 : Hp w0 w (⟨b3, .t 29, (q0 true r).enc⟩ :: ⟨b5, .t 45, p.enc⟩ :: L) := H.re
  have hrc' : r.check = 0 := by simpa using hrc
  refine front w b3 L r _ hr hrc' m1 H2 fun w H => ?_
  (try simp only [W0])
  unfold F4_j7
  (try simp only [W0])
  refine ldA_m (l := (q0 true r).enc) H has rfl ?_
  (try simp only [W0])
  refine ldA_m (l := p.enc) H has rfl ?_
  (try simp only [W0])
  have hmt : (decide ((q0 true r).check = 0) && decide (p.check = 0) && (q0 true r).fits p) = r.fits p := by
    rw [decide_eq_true (show (q0 true r).check = 0 from hrc'), decide_eq_true hpc]; rfl
  refine cal_h (matches_spec (r := q0 true r) hr hp H) ?_
  rintro _ w ⟨rfl, H⟩
  rw [hmt]
  have rest : ∀ w, Hp w0 w (⟨b3, .t 29, (q0 true r).enc⟩ :: ⟨b5, .t 45, p.enc⟩ :: L) → F4_j2 Q s (ptr b5 0) w := by
    clear H H2
    intro w H
    unfold F4_j2 F4_j4
    refine lit_t (C := cI) [1, 2] elInt H rfl (by decide) (by decide) rfl fun w s9 c9 H h9 => ?_
    refine pv_of (lenS_ts h9) ?_
    unfold F4_j5
    refine loop5 (F4_l1_succ _) (fun m x1 x5 x69 x70 x71 w => ∃ (i : Nat), s = x1 ∧ x5 = ptr b5 0 ∧ s9 = x69 ∧ x70 = I 2 ∧ x71 = I (i : Int) ∧ m + i = 2 ∧ Hp w0 w (c9 ++ (⟨b3, .t 29, (q0 true r).enc⟩ :: ⟨b5, .t 45, p.enc⟩ :: L))) ?_ (m := 2) ⟨0, rfl, rfl, rfl, rfl, rfl, rfl, H⟩
    clear H
    rintro m k _ _ _ _ _ w ⟨i, rfl, rfl, rfl, rfl, rfl, hm, H⟩ hk
    unfold F4_b1
    refine lss_k (fun hi => ?_) (fun hi => ?_)
    · (try simp only [W0])
      obtain ⟨act, hx, hact⟩ : ∃ act, ([1, 2] : List Int)[i]? = some act ∧ (act = 1 ∨ act = 2) := by
        have : i = 0 ∨ i = 1 := by omega
        rcases this with rfl | rfl
        · exact ⟨1, rfl, .inl rfl⟩
        · exact ⟨2, rfl, .inr rfl⟩
      unfold F4_j6
      refine ix1_t (C := cI) h9.tr H (fun c hc => List.mem_append_left _ hc) hx rfl rfl ?_
      refine cal_h (any39_spec H) ?_
      rintro _ w ⟨rfl, H⟩
      (try simp only [W0])
      refine al_m (ys := rul0.enc) H (by kernel_rfl) fun w b7 H => ?_
      refine stA_m (vs := (anyRul act).enc) H updd rfl rfl (Rul.enc_sc _) fun w H => ?_
      (try simp only [W0])
      refine st_m (o := 1) H updd (by simp [Rul.enc]) rfl fun w H => ?_
      replace H : Hp w0 w (⟨b7, .t 29, (q0 true (anyRul act)).enc⟩ :: (c9 ++ (⟨b3, .t 29, (q0 true r).enc⟩ :: ⟨b5, .t 45, p.enc⟩ :: L))) := H
      have H3 : Hp w0 w (⟨b7, .t 29, (q0 true (anyRul act)).enc⟩ :: ⟨b5, .t 45, p.enc⟩ :: (c9 ++ (⟨b3, .t 29, (q0 true r).enc⟩ :: L))) := H.re
      refine front w b7 _ (anyRul act) _ (any_ok act) (any_check hact) (fun c hc => List.mem_append_right _ (List.mem_cons_of_mem _ (m1 c hc))) H3 fun w H => ?_
      rw [any_fits hp hpc]
      (try simp only [W0])
      refine neq_n (by simp [anyRul]) ?_
      (try simp only [W0])
      refine add_k (z := ((i + 1 : Nat) : Int)) (by omega) (by omega) (by omega) ?_
      have H4 : Hp w0 w (c9 ++ (⟨b3, .t 29, (q0 true r).enc⟩ :: ⟨b5, .t 45, p.enc⟩ :: L)) := (H.tail).re
      exact hk (m - 1) _ _ _ _ _ _ (by omega) ⟨i + 1, rfl, rfl, rfl, rfl, rfl, by omega, H4⟩
    · (try simp only [W0])
      unfold F4_j3
      refine cal_h (awake_spec H) ?_
      rintro _ w ⟨rfl, H⟩
      (try simp only [W0])
      subst hQ
      exact ⟨(by first | rfl | trivial), H.right.tail.tail⟩
  cases hf : r.fits p with
  | false =>
    (try simp only [W0])
    simp only [Bool.false_eq_true, if_false]
    refine neq_n (by simp) ?_
    (try simp only [W0])
    refine ldA_m (l := (q0 true r).enc) H has rfl ?_
    (try simp only [W0])
    refine ldA_m (l := p.enc) H has rfl ?_
    (try simp only [W0])
    refine cal_h (matches_spec (r := q0 true r) hr hp H) ?_
    rintro _ w ⟨rfl, H⟩
    rw [hmt, hf]
    (try simp only [W0])
    exact rest w H
  | true =>
    (try simp only [W0])
    simp only [if_true]
    refine ldA_m (l := (q0 true r).enc) H has rfl ?_
    (try simp only [W0])
    refine ldA_m (l := p.enc) H has rfl ?_
    (try simp only [W0])
    refine cal_h (matches_spec (r := q0 true r) hr hp H) ?_
    rintro _ w ⟨rfl, H⟩
    rw [hmt, hf]
    (try simp only [W0])
    refine ld_m H has (o := 0) (v := I r.act) rfl ?_
    (try simp only [W0])
    refine neq_n (by simp) ?_
    (try simp only [W0])
    exact rest w H
end
end Go.Proofs.Ytmmbepdghpjgeaa.Den
