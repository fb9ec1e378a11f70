/- Packet filter: Equivalent of the program and of the reference, walked. Conditions: none. -/
import Derived.Test.YtmmbepdghpjgeaaFlEa
set_option linter.unusedVariables false
set_option linter.unusedSimpArgs false
set_option maxRecDepth 8000
set_option maxHeartbeats 1000000
namespace Go.Proofs.Ytmmbepdghpjgeaa.Den
open Go Go.RowKit
theorem elGRul : ElT 72 38 cRul.sz 120 rul0.enc := ⟨by kernel_rfl, by kernel_rfl, rfl⟩
def pkt0 : Pkt := ⟨0, 0, 0, 0, 0, 0, 0, false⟩
theorem elGPkt : ElT 66 67 cPkt.sz 56 pkt0.enc := ⟨by kernel_rfl, by kernel_rfl, rfl⟩
theorem elRulss : ElT 130 43 cS.sz 24 [.slice none 0 0] := ⟨by kernel_rfl, by kernel_rfl, rfl⟩
theorem elGRulss : ElT 132 72 cS.sz 24 [.slice none 0 0] := ⟨by kernel_rfl, by kernel_rfl, rfl⟩
def firstBadP : List Pkt → Int
  | [] => 0
  | p :: l => if p.check ≠ 0 then p.check else firstBadP l
theorem firstBadP_drop {l : List Pkt} {i : Nat} {r : Pkt} (h : l[i]? = some r) : firstBadP (l.drop i) = if r.check ≠ 0 then r.check else firstBadP (l.drop (i + 1)) := by
  obtain ⟨h1, h2⟩ := List.getElem?_eq_some_iff.1 h
  rw [List.drop_eq_getElem_cons h1, h2]; rfl
theorem firstBadP_iff : ∀ l : List Pkt, firstBadP l = 0 ↔ ∀ r ∈ l, r.check = 0
  | [] => by simp [firstBadP]
  | r :: l => by
    unfold firstBadP
    by_cases h : r.check = 0
    · rw [if_neg (by simp [h]), firstBadP_iff l]
      simp [h]
    · rw [if_pos h]
      simp [h]
/-- The place of the first packet with a property, from place i on; or -1. -/
def idxFrom (P : Pkt → Bool) : List Pkt → Nat → Int
  | [], _ => -1
  | p :: l, i => if P p then (i : Int) else idxFrom P l (i + 1)
theorem idxFrom_drop {P : Pkt → Bool} {l : List Pkt} {i : Nat} {r : Pkt} (h : l[i]? = some r) : idxFrom P (l.drop i) i = if P r then (i : Int) else idxFrom P (l.drop (i + 1)) (i + 1) := by
  obtain ⟨h1, h2⟩ := List.getElem?_eq_some_iff.1 h
  rw [List.drop_eq_getElem_cons h1, h2]; rfl
def differ (a b : List Rul) (p : Pkt) : Bool := decide (act0 a p ≠ act0 b p)
def equiv (a b : List Rul) (ps : List Pkt) : Int × Int :=
  if firstBad a ≠ 0 then (0, firstBad a) else if firstBad b ≠ 0 then (0, firstBad b) else if firstBadP ps ≠ 0 then (0, firstBadP ps) else (idxFrom (differ a b) ps 0, 0)
theorem act0_is {l : List Rul} {p : Pkt} (hok : ∀ r ∈ l, r.check = 0) : act0 l p = 1 ∨ act0 l p = 2 := by
  unfold act0
  split
  · exact .inl rfl
  · rcases deciding_lt (l := l) (p := p) with h | ⟨h1, h2, r, h3, h4⟩
    · omega
    · rw [List.getD_eq_getElem?_getD, h3]; exact check_act (hok r (List.mem_of_getElem? h3))
section
variable {w w' w0 : World} {L L' F cs cs2 cs3 A X Y : List Chunk} {s s2 s3 : Value} {K : VK} {R : ER} {b i j : Nat}
theorem decided_spec {l : List Rul} {p : Pkt} (hl : TR cRul w0 cs s l) (hok : ∀ r ∈ l, r.Ok ∧ r.check = 0) (hp : p.Ok) (hn : l.length < 2 ^ 62) (H : Hp w0 w L) (m1 : ∀ c ∈ cs, c ∈ L) :
    Calls Pg 56 ⟨[s, .agg ⟨p.enc⟩]⟩ w fun e w' => e = .returned (I (act0 l p)) ∧ Hp w0 w' L := by
  apply F56_calls
  unfold F56
  refine bx_m H fun w b3 H => ?_
  refine ldA_m (l := p.enc) H has rfl ?_
  refine cal_h (deciding_spec hl hok hp (by omega) H (fun c hc => List.mem_cons_of_mem _ (m1 c hc))) ?_
  rintro _ w ⟨rfl, H⟩
  (try simp only [W0])
  refine geq_k (fun h => ?_) (fun h => ?_)
  · (try simp only [W0])
    rcases deciding_lt (l := l) (p := p) with h0 | ⟨h1, h2, r, h3, h4⟩
    · omega
    obtain ⟨i, hi⟩ : ∃ i : Nat, deciding l p = (i : Int) := ⟨(deciding l p).toNat, by omega⟩
    rw [hi] at h3 ⊢
    rw [Int.toNat_natCast] at h3
    refine ixF_t (C := cRul) (f := 0) (v := I r.act) hl H (fun c hc => List.mem_cons_of_mem _ (m1 c hc)) h3 rfl ?_
    refine ⟨?_, H.tail⟩
    unfold act0
    rw [if_neg (by omega), hi, Int.toNat_natCast, List.getD_eq_getElem?_getD, h3]; rfl
  · (try simp only [W0])
    exact ⟨by unfold act0; rw [if_pos (by omega)], H.tail⟩
theorem equiv1_spec {a b : List Rul} {p : Pkt} {x1 x2 : Nat} {sa sb : Value} (ha : TR cRul w0 cs sa a) (hb : TR cRul w0 cs2 sb b) (hok : ∀ r ∈ a, r.Ok ∧ r.check = 0) (hok2 : ∀ r ∈ b, r.Ok ∧ r.check = 0) (hp : p.Ok) (hn : a.length < 2 ^ 62) (hn2 : b.length < 2 ^ 62)
    (H : Hp w0 w L) (m1 : ∀ c ∈ cs, c ∈ L) (m2 : ∀ c ∈ cs2, c ∈ L) (h1 : Has L x1 (.t 43) [sa]) (h2 : Has L x2 (.t 43) [sb]) :
    Calls Pg 55 ⟨[.agg ⟨p.enc⟩, ptr x1 0, ptr x2 0]⟩ w fun e w' => e = .returned (.bool (differ a b p)) ∧ Hp w0 w' L := by
  apply F55_calls
  unfold F55
  refine bx_m H fun w b3 H => ?_
  refine drew_k H fun w H => ?_
  refine ld_m H h1.cons (o := 0) (v := sa) rfl ?_
  refine ldA_m (l := p.enc) H has rfl ?_
  have c1 : w.cell? ⟨x2, 0, none⟩ = some sb := H.cellM h2.cons rfl
  have c2 : cellsAt w ⟨b3, 0, none⟩ 0 8 = some p.enc := H.cellsM has rfl
  simp only [W0]
  refine cal_h (decided_spec ha hok hp hn H (fun c hc => List.mem_cons_of_mem _ (m1 c hc))) ?_
  rintro _ w ⟨rfl, H⟩
  (try simp only [W0])
  refine ldS_m H h2.cons (o := 0) (v := sb) rfl (by intro x hx; rw [List.mem_singleton.1 hx]; exact c1) ?_
  refine ldNS_m (l := p.enc) H has rfl (by intro x hx; rw [List.mem_singleton.1 hx]; exact c2) ?_
  (try simp only [W0])
  refine cal_h (decided_spec hb hok2 hp hn2 H (fun c hc => List.mem_cons_of_mem _ (m2 c hc))) ?_
  rintro _ w ⟨rfl, H⟩
  (try simp only [W0])
  rw [bin_neq]
  (try simp only [W0])
  exact ⟨rfl, H.tail⟩
theorem idxPkt_spec {ps : List Pkt} {P : Pkt → Bool} {cap : List Value} {f : Nat} (h : TR cPkt w0 cs s ps) (H : Hp w0 w L) (m1 : ∀ c ∈ cs, c ∈ L) (hl : ps.length < 2 ^ 62) (hf : enterOk Pg f = true)
    (hc : ∀ x ∈ ps, ∀ w, Hp w0 w L → Calls Pg f ⟨[] ++ [.agg ⟨x.enc⟩] ++ cap⟩ w fun e w' => e = .returned (.bool (P x)) ∧ Hp w0 w' L) :
    Calls Pg 54 ⟨[s, .func (.func f) ⟨[]⟩ ⟨cap⟩]⟩ w fun e w' => e = .returned (I (idxFrom P ps 0)) ∧ Hp w0 w' L := by
  apply F54_calls
  unfold F54 F54_j2 F54_j3
  refine pv_of (lenS_tr h) ?_
  refine loop4 (F54_l1_succ _) (fun m x0 x1 x7 x8 w => ∃ i : Nat, s = x0 ∧ x1 = .func (.func f) ⟨[]⟩ ⟨cap⟩ ∧ x7 = I (ps.length : Int) ∧ x8 = I (i : Int) ∧ m + i = ps.length ∧ idxFrom P ps 0 = idxFrom P (ps.drop i) i ∧ Hp w0 w L) ?_ (m := ps.length) ⟨0, rfl, rfl, rfl, rfl, rfl, by rw [List.drop_zero], H⟩
  clear H
  rintro m k _ _ _ _ w ⟨i, rfl, rfl, rfl, rfl, hm, he, H⟩ hk
  unfold F54_b1
  refine lss_k (fun hi => ?_) (fun hi => ?_)
  · (try simp only [W0])
    have hx : ps[i]? = some ps[i] := List.getElem?_eq_getElem (by omega)
    generalize ps[i] = p at hx
    unfold F54_j4
    refine ixN_t (C := cPkt) h H m1 hx (by decide) ?_
    refine calD_k hf ?_
    refine cal_h (hc p (List.mem_of_getElem? hx) w H) ?_
    rintro _ w ⟨rfl, H⟩
    (try simp only [W0])
    rw [idxFrom_drop hx] at he
    cases hP : P p with
    | true =>
      simp only [W0]
      rw [hP] at he
      exact ⟨by rw [he]; rfl, H⟩
    | false =>
      simp only [W0]
      rw [hP] at he
      refine add_k (z := ((i + 1 : Nat) : Int)) (by omega) (by omega) (by omega) ?_
      exact hk (m - 1) _ _ _ _ _ (by omega) ⟨i + 1, rfl, rfl, rfl, rfl, by omega, he, H⟩
  · (try simp only [W0])
    unfold F54_j1
    exact ⟨by rw [he, List.drop_of_length_le (by omega)]; rfl, H⟩
theorem equiv_spec {a b : List Rul} {ps : List Pkt} {sa sb : Value} (ha : TR cRul w0 cs sa a) (hb : TR cRul w0 cs2 sb b) (hps : TR cPkt w0 cs3 s3 ps) (hoka : ∀ r ∈ a, r.Ok) (hokb : ∀ r ∈ b, r.Ok) (hpk : ∀ p ∈ ps, p.Ok) (hn : a.length ≤ 20) (hn2 : b.length ≤ 20) (hn3 : ps.length ≤ 40)
    (H : Hp w0 w L) (m1 : ∀ c ∈ cs, c ∈ L) (m2 : ∀ c ∈ cs2, c ∈ L) (m3 : ∀ c ∈ cs3, c ∈ L) :
    Calls Pg 24 ⟨[sa, sb, s3]⟩ w fun e w' => e = .returned (.tuple ⟨[I (equiv a b ps).1, I (equiv a b ps).2]⟩) ∧ Hp w0 w' L := by
  obtain ⟨ka, rfl⟩ := ha.sh
  obtain ⟨kb, rfl⟩ := hb.sh
  generalize hQ : (fun (e : Ending) (w' : World) => e = .returned (.tuple ⟨[I (equiv a b ps).1, I (equiv a b ps).2]⟩) ∧ Hp w0 w' L : ER) = Q
  have fin : ∀ (r : Int × Int) (w' : World) (A : List Chunk), equiv a b ps = r → Hp w0 w' (A ++ L) → Q (.returned (.tuple ⟨[I r.1, I r.2]⟩)) w' := by
    intro r w' A h1 h2
    subst hQ; rw [h1]; exact ⟨rfl, h2.right⟩
  have ca : checkAll a = firstBad a := by rw [checkAll, if_neg (by omega)]
  have cb : checkAll b = firstBad b := by rw [checkAll, if_neg (by omega)]
  apply F24_calls
  unfold F24
  have bxs : ∀ (k : Sh) {w : World} {L : List Chunk} {K : VK} (H : Hp w0 w L) (g : ∀ w' b, Hp w0 w' (⟨b, .t 43, [k.val]⟩ :: L) → K (ptr b 0) w'), bx 43 k.val K w := by
    intro k w L K H g
    have e : k.val.cells.toList = [k.val] := rfl
    refine bx_h H fun w' b H' => ?_
    rw [e] at H'; exact g w' b H'
  refine bxs ka H fun w x3 H => ?_
  refine bxs kb H fun w x4 H => ?_
  refine ld_m H has (o := 0) (v := ka.val) rfl ?_
  refine pv_of (lenS_tr ha) ?_
  refine gtr_n (by omega) ?_
  (try simp only [W0])
  refine ld_m H has (o := 0) (v := kb.val) rfl ?_
  (try simp only [W0])
  refine pv_of (lenS_tr hb) ?_
  (try simp only [W0])
  refine gtr_n (by omega) ?_
  (try simp only [W0])
  unfold F24_j1 F24_j7
  refine ld_m H has (o := 0) (v := ka.val) rfl ?_
  refine ld_m H has (o := 0) (v := kb.val) rfl ?_
  refine lit_t (C := cS) [ka, kb] elRulss H rfl (by decide) (by decide) rfl fun w s9 c9 H h9 => ?_
  refine pv_of (lenS_ts h9) ?_
  have mm : ∀ {c : Chunk}, c ∈ L → c ∈ c9 ++ (⟨x4, .t 43, [kb.val]⟩ :: ⟨x3, .t 43, [ka.val]⟩ :: L) := fun h => List.mem_append_right _ (List.mem_cons_of_mem _ (List.mem_cons_of_mem _ h))
  have A0 : ∀ {w : World}, Hp w0 w (c9 ++ (⟨x4, .t 43, [kb.val]⟩ :: ⟨x3, .t 43, [ka.val]⟩ :: L)) → Hp w0 w ((c9 ++ [⟨x4, .t 43, [kb.val]⟩, ⟨x3, .t 43, [ka.val]⟩]) ++ L) := fun H => by simpa using H
  unfold F24_j8
  refine ⟨3, ?_⟩
  show F24_l2 Q 3 s3 (ptr x3 0) (ptr x4 0) s9 (I 2) (I 0) w
  rw [F24_l2_succ]
  unfold F24_b2
  refine lss_y (by decide) ?_
  (try simp only [W0])
  unfold F24_j9
  refine ix1_t (C := cS) (i := 0) h9.tr H (fun c hc => List.mem_append_left _ hc) rfl rfl rfl ?_
  refine cal_h (checkAll_spec ha hoka (by omega) H (fun c hc => mm (m1 c hc))) ?_
  rintro _ w ⟨rfl, H⟩
  (try simp only [W0])
  rw [ca]
  refine neq_k (fun h1 => ?_) (fun h1 => ?_)
  · (try simp only [W0])
    exact fin (0, firstBad a) w _ (by unfold equiv; rw [if_pos h1]) (A0 H)
  (try simp only [W0])
  refine add_k (z := 1) (by decide) (by decide) (by decide) ?_
  rw [F24_l2_succ]
  unfold F24_b2
  refine lss_y (by decide) ?_
  (try simp only [W0])
  unfold F24_j9
  refine ix1_t (C := cS) (i := 1) h9.tr H (fun c hc => List.mem_append_left _ hc) rfl rfl rfl ?_
  refine cal_h (checkAll_spec hb hokb (by omega) H (fun c hc => mm (m2 c hc))) ?_
  rintro _ w ⟨rfl, H⟩
  (try simp only [W0])
  rw [cb]
  have h1' : firstBad a = 0 := by simpa using h1
  refine neq_k (fun h2 => ?_) (fun h2 => ?_)
  · (try simp only [W0])
    exact fin (0, firstBad b) w _ (by unfold equiv; rw [if_neg (by simp [h1']), if_pos h2]) (A0 H)
  have h2' : firstBad b = 0 := by simpa using h2
  (try simp only [W0])
  refine add_k (z := 2) (by decide) (by decide) (by decide) ?_
  rw [F24_l2_succ]
  unfold F24_b2
  refine lss_n (by decide) ?_
  (try simp only [W0])
  unfold F24_j2 F24_j4
  refine pv_of (lenS_tr hps) ?_
  unfold F24_j5
  refine loop6 (F24_l1_succ _) (fun m x2 y3 y4 x36 x37 x38 w => ∃ i : Nat, s3 = x2 ∧ y3 = ptr x3 0 ∧ y4 = ptr x4 0 ∧ s3 = x36 ∧ x37 = I (ps.length : Int) ∧ x38 = I (i : Int) ∧ m + i = ps.length ∧ firstBadP ps = firstBadP (ps.drop i) ∧
    Hp w0 w (c9 ++ (⟨x4, .t 43, [kb.val]⟩ :: ⟨x3, .t 43, [ka.val]⟩ :: L))) ?_ (m := ps.length) ⟨0, rfl, rfl, rfl, rfl, rfl, rfl, rfl, by rw [List.drop_zero], H⟩
  clear H
  rintro m k z2 _ _ z36 _ _ w ⟨i, e2, rfl, rfl, e36, rfl, rfl, hm, he, H⟩ hk
  rw [← e2, ← e36]
  unfold F24_b1
  refine lss_k (fun hi => ?_) (fun hi => ?_)
  · (try simp only [W0])
    have hx : ps[i]? = some ps[i] := List.getElem?_eq_getElem (by omega)
    generalize ps[i] = p at hx
    unfold F24_j6
    refine ixN_t (C := cPkt) hps H (fun c hc => mm (m3 c hc)) hx (by decide) ?_
    refine al_m (ys := pkt0.enc) H (by kernel_rfl) fun w b4 H => ?_
    refine stA_m (vs := p.enc) H updd rfl rfl p.enc_sc fun w H => ?_
    refine ldA_m (l := p.enc) H has rfl ?_
    refine cal_h (pcheck_spec H) ?_
    rintro _ w ⟨rfl, H⟩
    (try simp only [W0])
    rw [firstBadP_drop hx] at he
    refine neq_k (fun h3 => ?_) (fun h3 => ?_)
    · (try simp only [W0])
      rw [if_pos h3] at he
      exact fin (0, p.check) w _ (by unfold equiv; rw [if_neg (by simp [h1']), if_neg (by simp [h2']), he, if_pos h3]) (A0 H.tail)
    · (try simp only [W0])
      rw [if_neg (by simpa using h3)] at he
      refine add_k (z := ((i + 1 : Nat) : Int)) (by omega) (by omega) (by omega) ?_
      exact hk (m - 1) _ _ _ _ _ _ _ (by omega) ⟨i + 1, rfl, rfl, rfl, rfl, rfl, rfl, by omega, he, H.tail⟩
  · (try simp only [W0])
    rw [List.drop_of_length_le (by omega)] at he
    have hpc : firstBadP ps = 0 := he
    unfold F24_j3
    refine cal_h (idxPkt_spec (P := differ a b) (f := 55) hps H (fun c hc => mm (m3 c hc)) (by omega) (by kernel_rfl) (fun p hp w H => ?_)) ?_
    · exact equiv1_spec ha hb (fun r hr => ⟨hoka r hr, (firstBad_iff a).1 h1' r hr⟩) (fun r hr => ⟨hokb r hr, (firstBad_iff b).1 h2' r hr⟩) (hpk p hp) (by omega) (by omega) H (fun c hc => mm (m1 c hc)) (fun c hc => mm (m2 c hc)) (by unfold Has; simp) (by unfold Has; simp)
    rintro _ w ⟨rfl, H⟩
    (try simp only [W0])
    exact fin (idxFrom (differ a b) ps 0, 0) w _ (by unfold equiv; rw [if_neg (by simp [h1']), if_neg (by simp [h2']), if_neg (by simp [hpc])]) (A0 H)
end
end Go.Proofs.Ytmmbepdghpjgeaa.Den
