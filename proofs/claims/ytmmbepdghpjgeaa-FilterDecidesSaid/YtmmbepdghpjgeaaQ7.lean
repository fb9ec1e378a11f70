/- Packet filter: Equivalent of the program and of the reference, walked. Conditions: none. -/
import Derived.Laws.Strings
import Derived.Tactics
import Derived.Tactics2
import Derived.Defers
import Derived.Recover
import Derived.Laws.Pointers
import Derived.Test.YtmmbepdghpjgeaaQ6
section
set_option linter.unusedVariables false
set_option linter.unusedSimpArgs false
set_option maxRecDepth 8000
set_option maxHeartbeats 1000000
namespace Go.Proofs.Ytmmbepdghpjgeaa.Den
open Go Go.RowKit
theorem elGRul : ElT 72 38 cRul.sz 120 rul0.enc := ⟨by kernel_rfl, by kernel_rfl, rfl⟩
def pkt0 : Pkt := ⟨0, 0, 0, 0, 0, 0, 0, false⟩
theorem elGPkt : ElT 66 67 cPkt.sz 56 pkt0.enc := ⟨by kernel_rfl, by kernel_rfl, rfl⟩
theorem elRulss : ElT 130 43 cS.sz 24 [.slice none 0 0] := ⟨by kernel_rfl, by kernel_rfl, rfl⟩
theorem elGRulss : ElT 132 72 cS.sz 24 [.slice none 0 0] := ⟨by kernel_rfl, by kernel_rfl, rfl⟩
def firstBadP : List Pkt → Int
  | [] => 0
  | p :: l => if p.check ≠ 0 then p.check else firstBadP l
theorem firstBadP_drop {l : List Pkt} {i : Nat} {r : Pkt} (h : l[i]? = some r) : firstBadP (l.drop i) = if r.check ≠ 0 then r.check else firstBadP (l.drop (i + 1)) := by
  obtain ⟨h1, h2⟩ := List.getElem?_eq_some_iff.1 h
  rw [List.drop_eq_getElem_cons h1, h2]; rfl
theorem firstBadP_iff : ∀ l : List Pkt, firstBadP l = 0 ↔ ∀ r ∈ l, r.check = 0
  | [] => by simp [firstBadP]
  | r :: l => by
    unfold firstBadP
    by_cases h : r.check = 0
    · rw [if_neg (by simp [h]), firstBadP_iff l]
      simp [h]
    · rw [if_pos h]
      simp [h]
/-- The place of the first packet with a property, from place i on; or -1. -/
def idxFrom (P : Pkt → Bool) : List Pkt → Nat → Int
  | [], _ => -1
  | p :: l, i => if P p then (i : Int) else idxFrom P l (i + 1)
theorem idxFrom_drop {P : Pkt → Bool} {l : List Pkt} {i : Nat} {r : Pkt} (h : l[i]? = some r) : idxFrom P (l.drop i) i = if P r then (i : Int) else idxFrom P (l.drop (i + 1)) (i + 1) := by
  obtain ⟨h1, h2⟩ := List.getElem?_eq_some_iff.1 h
  rw [List.drop_eq_getElem_cons h1, h2]; rfl
def differ (a b : List Rul) (p : Pkt) : Bool := decide (act0 a p ≠ act0 b p)
def equiv (a b : List Rul) (ps : List Pkt) : Int × Int :=
  if firstBad a ≠ 0 then (0, firstBad a) else if firstBad b ≠ 0 then (0, firstBad b) else if firstBadP ps ≠ 0 then (0, firstBadP ps) else (idxFrom (differ a b) ps 0, 0)
theorem act0_is {l : List Rul} {p : Pkt} (hok : ∀ r ∈ l, r.check = 0) : act0 l p = 1 ∨ act0 l p = 2 := by
  unfold act0
  split
  · exact .inl rfl
  · rcases deciding_lt (l := l) (p := p) with h | ⟨h1, h2, r, h3, h4⟩
    · omega
    · rw [List.getD_eq_getElem?_getD, h3]; exact check_act (hok r (List.mem_of_getElem? h3))
section
variable {w w' w0 : World} {L L' F cs cs2 cs3 A X Y : List Chunk} {s s2 s3 : Value} {K : VK} {R : ER} {b i j : Nat}
theorem decided_spec {l : List Rul} {p : Pkt} (hl : TR cRul w0 cs s l) (hok : ∀ r ∈ l, r.Ok ∧ r.check = 0) (hp : p.Ok) (hn : l.length < 2 ^ 62) (H : Hp w0 w L) (m1 : ∀ c ∈ cs, c ∈ L) :
    Calls Pg 56 ⟨[s, .agg ⟨p.enc⟩]⟩ w fun e w' => e = .returned (I (act0 l p)) ∧ Hp w0 w' L := by
  apply F56_calls
  unfold F56
  refine bx_m H fun w b3 H => ?_
  refine ldA_m (l := p.enc) H has rfl ?_
  refine cal_h (deciding_spec hl hok hp (by omega) H (fun c hc => List.mem_cons_of_mem _ (m1 c hc))) ?_
  rintro _ w ⟨rfl, H⟩
  (try simp only [W0])
  refine geq_k (fun h => ?_) (fun h => ?_)
  · (try simp only [W0])
    rcases deciding_lt (l := l) (p := p) with h0 | ⟨h1, h2, r, h3, h4⟩
    · omega
    obtain ⟨i, hi⟩ : ∃ i : Nat, deciding l p = (i : Int) := ⟨(deciding l p).toNat, by omega⟩
    rw [hi] at h3 ⊢
    rw [Int.toNat_natCast] at h3
    refine ixF_t (C := cRul) (f := 0) (v := I r.act) hl H (fun c hc => List.mem_cons_of_mem _ (m1 c hc)) h3 rfl ?_
    refine ⟨?_, H.tail⟩
    unfold act0
    rw [if_neg (by omega), hi, Int.toNat_natCast, List.getD_eq_getElem?_getD, h3]; rfl
  · (try simp only [W0])
    exact ⟨by unfold act0; rw [if_pos (by omega)], H.tail⟩
theorem equiv1_spec {a b : List Rul} {p : Pkt} {x1 x2 : Nat} {sa sb : Value} (ha : TR cRul w0 cs sa a) (hb : TR cRul w0 cs2 sb b) (hok : ∀ r ∈ a, r.Ok ∧ r.check = 0) (hok2 : ∀ r ∈ b, r.Ok ∧ r.check = 0) (hp : p.Ok) (hn : a.length < 2 ^ 62) (hn2 : b.length < 2 ^ 62)
    (H : Hp w0 w L) (m1 : ∀ c ∈ cs, c ∈ L) (m2 : ∀ c ∈ cs2, c ∈ L) (h1 : Has L x1 (.t 43) [sa]) (h2 : Has L x2 (.t 43) [sb]) :
    Calls Pg 55 ⟨[.agg ⟨p.enc⟩, ptr x1 0, ptr x2 0]⟩ w fun e w' => e = .returned (.bool (differ a b p)) ∧ Hp w0 w' L := by
  apply F55_calls
  unfold F55
  refine bx_m H fun w b3 H => ?_
  refine drew_k H fun w H => ?_
  refine ld_m H h1.cons (o := 0) (v := sa) rfl ?_
  refine ldA_m (l := p.enc) H has rfl ?_
  have c1 : w.cell? ⟨x2, 0, none⟩ = some sb := H.cellM h2.cons rfl
  have c2 : cellsAt w ⟨b3, 0, none⟩ 0 8 = some p.enc := H.cellsM has rfl
  simp only [W0]
  refine cal_h (decided_spec ha hok hp hn H (fun c hc => List.mem_cons_of_mem _ (m1 c hc))) ?_
  rintro _ w ⟨rfl, H⟩
  (try simp only [W0])
  refine ldS_m H h2.cons (o := 0) (v := sb) rfl (by intro x hx; rw [List.mem_singleton.1 hx]; exact c1) ?_
  refine ldNS_m (l := p.enc) H has rfl (by intro x hx; rw [List.mem_singleton.1 hx]; exact c2) ?_
  (try simp only [W0])
  refine cal_h (decided_spec hb hok2 hp hn2 H (fun c hc => List.mem_cons_of_mem _ (m2 c hc))) ?_
  rintro _ w ⟨rfl, H⟩
  (try simp only [W0])
  rw [bin_neq]
  (try simp only [W0])
  exact ⟨rfl, H.tail⟩
theorem idxPkt_spec {ps : List Pkt} {P : Pkt → Bool} {cap : List Value} {f : Nat} (h : TR cPkt w0 cs s ps) (H : Hp w0 w L) (m1 : ∀ c ∈ cs, c ∈ L) (hl : ps.length < 2 ^ 62) (hf : enterOk Pg f = true)
    (hc : ∀ x ∈ ps, ∀ w, Hp w0 w L → Calls Pg f ⟨[] ++ [.agg ⟨x.enc⟩] ++ cap⟩ w fun e w' => e = .returned (.bool (P x)) ∧ Hp w0 w' L) :
    Calls Pg 54 ⟨[s, .func (.func f) ⟨[]⟩ ⟨cap⟩]⟩ w fun e w' => e = .returned (I (idxFrom P ps 0)) ∧ Hp w0 w' L := by
  apply F54_calls
  unfold F54 F54_j2 F54_j3
  refine pv_of (lenS_tr h) ?_
  refine loop4 (F54_l1_succ _) (fun m x0 x1 x7 x8 w => ∃ i : Nat, s = x0 ∧ x1 = .func (.func f) ⟨[]⟩ ⟨cap⟩ ∧ x7 = I (ps.length : Int) ∧ x8 = I (i : Int) ∧ m + i = ps.length ∧ idxFrom P ps 0 = idxFrom P (ps.drop i) i ∧ Hp w0 w L) ?_ (m := ps.length) ⟨0, rfl, rfl, rfl, rfl, rfl, by rw [List.drop_zero], H⟩
  clear H
  rintro m k _ _ _ _ w ⟨i, rfl, rfl, rfl, rfl, hm, he, H⟩ hk
  unfold F54_b1
  refine lss_k (fun hi => ?_) (fun hi => ?_)
  · (try simp only [W0])
    have hx : ps[i]? = some ps[i] := List.getElem?_eq_getElem (by omega)
    generalize ps[i] = p at hx
    unfold F54_j4
    refine ixN_t (C := cPkt) h H m1 hx (by decide) ?_
    refine calD_k hf ?_
    refine cal_h (hc p (List.mem_of_getElem? hx) w H) ?_
    rintro _ w ⟨rfl, H⟩
    (try simp only [W0])
    rw [idxFrom_drop hx] at he
    cases hP : P p with
    | true =>
      simp only [W0]
      rw [hP] at he
      exact ⟨by rw [he]; rfl, H⟩
    | false =>
      simp only [W0]
      rw [hP] at he
      refine add_k (z := ((i + 1 : Nat) : Int)) (by omega) (by omega) (by omega) ?_
      exact hk (m - 1) _ _ _ _ _ (by omega) ⟨i + 1, rfl, rfl, rfl, rfl, by omega, he, H⟩
  · (try simp only [W0])
    unfold F54_j1
    exact ⟨by rw [he, List.drop_of_length_le (by omega)]; rfl, H⟩
theorem equiv_spec {a b : List Rul} {ps : List Pkt} {sa sb : Value} (ha : TR cRul w0 cs sa a) (hb : TR cRul w0 cs2 sb b) (hps : TR cPkt w0 cs3 s3 ps) (hoka : ∀ r ∈ a, r.Ok) (hokb : ∀ r ∈ b, r.Ok) (hpk : ∀ p ∈ ps, p.Ok) (hn : a.length ≤ 20) (hn2 : b.length ≤ 20) (hn3 : ps.length ≤ 40)
    (H : Hp w0 w L) (m1 : ∀ c ∈ cs, c ∈ L) (m2 : ∀ c ∈ cs2, c ∈ L) (m3 : ∀ c ∈ cs3, c ∈ L) :
    Calls Pg 24 ⟨[sa, sb, s3]⟩ w fun e w' => e = .returned (.tuple ⟨[I (equiv a b ps).1, I (equiv a b ps).2]⟩) ∧ Hp w0 w' L := by
  obtain ⟨ka, rfl⟩ := ha.sh
  obtain ⟨kb, rfl⟩ := hb.sh
  generalize hQ : (fun (e : Ending) (w' : World) => e = .returned (.tuple ⟨[I (equiv a b ps).1, I (equiv a b ps).2]⟩) ∧ Hp w0 w' L : ER) = Q
  have fin : ∀ (r : Int × Int) (w' : World) (A : List Chunk), equiv a b ps = r → Hp w0 w' (A ++ L) → Q (.returned (.tuple ⟨[I r.1, I r.2]⟩)) w' := by
    intro r w' A h1 h2
    subst hQ; rw [h1]; exact ⟨rfl, h2.right⟩
  have ca : checkAll a = firstBad a := by rw [checkAll, if_neg (by omega)]
  have cb : checkAll b = firstBad b := by rw [checkAll, if_neg (by omega)]
  apply F24_calls
  unfold F24
  have bxs : ∀ (k : Sh) {w : World} {L : List Chunk} {K : VK} (H : Hp w0 w L) (g : ∀ w' b, Hp w0 w' (⟨b, .t 43, [k.val]⟩ :: L) → K (ptr b 0) w'), bx 43 k.val K w := by
    intro k w L K H g
    have e : k.val.cells.toList = [k.val] := rfl
    refine bx_h H fun w' b H' => ?_
    rw [e] at H'; exact g w' b H'
  refine bxs ka H fun w x3 H => ?_
  refine bxs kb H fun w x4 H => ?_
  refine ld_m H has (o := 0) (v := ka.val) rfl ?_
  refine pv_of (lenS_tr ha) ?_
  refine gtr_n (by omega) ?_
  (try simp only [W0])
  refine ld_m H has (o := 0) (v := kb.val) rfl ?_
  (try simp only [W0])
  refine pv_of (lenS_tr hb) ?_
  (try simp only [W0])
  refine gtr_n (by omega) ?_
  (try simp only [W0])
  unfold F24_j1 F24_j7
  refine ld_m H has (o := 0) (v := ka.val) rfl ?_
  refine ld_m H has (o := 0) (v := kb.val) rfl ?_
  refine lit_t (C := cS) [ka, kb] elRulss H rfl (by decide) (by decide) rfl fun w s9 c9 H h9 => ?_
  refine pv_of (lenS_ts h9) ?_
  have mm : ∀ {c : Chunk}, c ∈ L → c ∈ c9 ++ (⟨x4, .t 43, [kb.val]⟩ :: ⟨x3, .t 43, [ka.val]⟩ :: L) := fun h => List.mem_append_right _ (List.mem_cons_of_mem _ (List.mem_cons_of_mem _ h))
  have A0 : ∀ {w : World}, Hp w0 w (c9 ++ (⟨x4, .t 43, [kb.val]⟩ :: ⟨x3, .t 43, [ka.val]⟩ :: L)) → Hp w0 w ((c9 ++ [⟨x4, .t 43, [kb.val]⟩, ⟨x3, .t 43, [ka.val]⟩]) ++ L) := fun H => by simpa using H
  unfold F24_j8
  refine ⟨3, ?_⟩
  show F24_l2 Q 3 s3 (ptr x3 0) (ptr x4 0) s9 (I 2) (I 0) w
  rw [F24_l2_succ]
  unfold F24_b2
  refine lss_y (by decide) ?_
  (try simp only [W0])
  unfold F24_j9
  refine ix1_t (C := cS) (i := 0) h9.tr H (fun c hc => List.mem_append_left _ hc) rfl rfl rfl ?_
  refine cal_h (checkAll_spec ha hoka (by omega) H (fun c hc => mm (m1 c hc))) ?_
  rintro _ w ⟨rfl, H⟩
  (try simp only [W0])
  rw [ca]
  refine neq_k (fun h1 => ?_) (fun h1 => ?_)
  · (try simp only [W0])
    exact fin (0, firstBad a) w _ (by unfold equiv; rw [if_pos h1]) (A0 H)
  (try simp only [W0])
  refine add_k (z := 1) (by decide) (by decide) (by decide) ?_
  rw [F24_l2_succ]
  unfold F24_b2
  refine lss_y (by decide) ?_
  (try simp only [W0])
  unfold F24_j9
  refine ix1_t (C := cS) (i := 1) h9.tr H (fun c hc => List.mem_append_left _ hc) rfl rfl rfl ?_
  refine cal_h (checkAll_spec hb hokb (by omega) H (fun c hc => mm (m2 c hc))) ?_
  rintro _ w ⟨rfl, H⟩
  (try simp only [W0])
  rw [cb]
  have h1' : firstBad a = 0 := by simpa using h1
  refine neq_k (fun h2 => ?_) (fun h2 => ?_)
  · (try simp only [W0])
    exact fin (0, firstBad b) w _ (by unfold equiv; rw [if_neg (by simp [h1']), if_pos h2]) (A0 H)
  have h2' : firstBad b = 0 := by simpa using h2
  (try simp only [W0])
  refine add_k (z := 2) (by decide) (by decide) (by decide) ?_
  rw [F24_l2_succ]
  unfold F24_b2
  refine lss_n (by decide) ?_
  (try simp only [W0])
  unfold F24_j2 F24_j4
  refine pv_of (lenS_tr hps) ?_
  unfold F24_j5
  refine loop6 (F24_l1_succ _) (fun m x2 y3 y4 x36 x37 x38 w => ∃ i : Nat, s3 = x2 ∧ y3 = ptr x3 0 ∧ y4 = ptr x4 0 ∧ s3 = x36 ∧ x37 = I (ps.length : Int) ∧ x38 = I (i : Int) ∧ m + i = ps.length ∧ firstBadP ps = firstBadP (ps.drop i) ∧
    Hp w0 w (c9 ++ (⟨x4, .t 43, [kb.val]⟩ :: ⟨x3, .t 43, [ka.val]⟩ :: L))) ?_ (m := ps.length) ⟨0, rfl, rfl, rfl, rfl, rfl, rfl, rfl, by rw [List.drop_zero], H⟩
  clear H
  rintro m k z2 _ _ z36 _ _ w ⟨i, e2, rfl, rfl, e36, rfl, rfl, hm, he, H⟩ hk
  rw [← e2, ← e36]
  unfold F24_b1
  refine lss_k (fun hi => ?_) (fun hi => ?_)
  · (try simp only [W0])
    have hx : ps[i]? = some ps[i] := List.getElem?_eq_getElem (by omega)
    generalize ps[i] = p at hx
    unfold F24_j6
    refine ixN_t (C := cPkt) hps H (fun c hc => mm (m3 c hc)) hx (by decide) ?_
    refine al_m (ys := pkt0.enc) H (by kernel_rfl) fun w b4 H => ?_
    refine stA_m (vs := p.enc) H updd rfl rfl p.enc_sc fun w H => ?_
    refine ldA_m (l := p.enc) H has rfl ?_
    refine cal_h (pcheck_spec H) ?_
    rintro _ w ⟨rfl, H⟩
    (try simp only [W0])
    rw [firstBadP_drop hx] at he
    refine neq_k (fun h3 => ?_) (fun h3 => ?_)
    · (try simp only [W0])
      rw [if_pos h3] at he
      exact fin (0, p.check) w _ (by unfold equiv; rw [if_neg (by simp [h1']), if_neg (by simp [h2']), he, if_pos h3]) (A0 H.tail)
    · (try simp only [W0])
      rw [if_neg (by simpa using h3)] at he
      refine add_k (z := ((i + 1 : Nat) : Int)) (by omega) (by omega) (by omega) ?_
      exact hk (m - 1) _ _ _ _ _ _ _ (by omega) ⟨i + 1, rfl, rfl, rfl, rfl, rfl, rfl, by omega, he, H.tail⟩
  · (try simp only [W0])
    rw [List.drop_of_length_le (by omega)] at he
    have hpc : firstBadP ps = 0 := he
    unfold F24_j3
    refine cal_h (idxPkt_spec (P := differ a b) (f := 55) hps H (fun c hc => mm (m3 c hc)) (by omega) (by kernel_rfl) (fun p hp w H => ?_)) ?_
    · exact equiv1_spec ha hb (fun r hr => ⟨hoka r hr, (firstBad_iff a).1 h1' r hr⟩) (fun r hr => ⟨hokb r hr, (firstBad_iff b).1 h2' r hr⟩) (hpk p hp) (by omega) (by omega) H (fun c hc => mm (m1 c hc)) (fun c hc => mm (m2 c hc)) (by unfold Has; simp) (by unfold Has; simp)
    rintro _ w ⟨rfl, H⟩
    (try simp only [W0])
    exact fin (idxFrom (differ a b) ps 0, 0) w _ (by unfold equiv; rw [if_neg (by simp [h1']), if_neg (by simp [h2']), if_neg (by simp [hpc])]) (A0 H)
end
end Go.Proofs.Ytmmbepdghpjgeaa.Den
end

section
set_option linter.unusedVariables false
set_option linter.unusedSimpArgs false
set_option maxRecDepth 8000
namespace Go.Proofs.Ytmmbepdghpjgeaa.Den
open Go Go.RowKit
theorem bts_len (S : ByteArray) : (bts S).length = S.size := by unfold bts; rw [List.length_map]; rfl
theorem str_get (S : ByteArray) (i : Nat) (h : i < S.size) : ∃ b : UInt8, S[i]? = some b ∧ chr S i = b.toNat := by
  have h' : i < S.data.size := h
  refine ⟨S.data[i], ?_, ?_⟩
  · rw [getElem?_pos S i h]; rfl
  · unfold chr bts
    rw [List.getD_eq_getElem?_getD, List.getElem?_map, Array.getElem?_toList, Array.getElem?_eq_getElem h']; rfl
theorem ixStr_chr {S : ByteArray} {i : Nat} (h : i < S.size) : ixStr (.string S) (I (i : Int)) = some (U8 (chr S i : Int)) := by
  obtain ⟨b, h1, h2⟩ := str_get S i h
  have h1' : S[(i : Int).toNat]? = some b := h1
  simp only [ixStr, Int.natCast_nonneg, if_true, h1', h2]
theorem chr_out {S : ByteArray} {i : Nat} (h : S.size ≤ i) : chr S i = 10 := by
  unfold chr
  rw [List.getD_eq_getElem?_getD, List.getElem?_eq_none (by rw [bts_len]; exact h)]; rfl
theorem lenStr_mk (S : ByteArray) : lenStr (.string S) = some (I (S.size : Int)) := rfl
section
variable {w w' w0 : World} {L L' F cs A : List Chunk} {s : Value} {K : VK} {R : ER} {b i at' : Nat} {S : ByteArray}
theorem fchar_spec (H : Hp w0 w L) (hm : Has L b (.t 102) [.string S, I (at' : Int)]) :
    Calls Pg 82 ⟨[ptr b 0, I (i : Int)]⟩ w fun e w' => e = .returned (U8 (chr S i : Int)) ∧ Hp w0 w' L := by
  apply F82_calls
  unfold F82
  simp only [W0]
  refine ld_m H hm (v := .string S) rfl ?_
  refine pv_of (lenStr_mk S) ?_
  refine lss_k (fun h => ?_) (fun h => ?_)
  · simp only [W0]
    refine ld_m H hm (v := .string S) rfl ?_
    exact pv_of (ixStr_chr (by omega)) ⟨(by first | rfl | trivial), H⟩
  · simp only [W0]
    exact ⟨by rw [chr_out (by omega)]; rfl, H⟩
theorem fends_spec (H : Hp w0 w L) (hm : Has L b (.t 102) [.string S, I (at' : Int)]) :
    Calls Pg 81 ⟨[ptr b 0, I (i : Int)]⟩ w fun e w' => e = .returned (.bool (endsP S i)) ∧ Hp w0 w' L := by
  apply F81_calls
  unfold F81
  simp only [W0]
  refine ld_m H hm (v := .string S) rfl ?_
  refine pv_of (lenStr_mk S) ?_
  refine geq_k (fun h => ?_) (fun h => ?_)
  · simp only [W0]
    exact ⟨by simp [endsP, show S.size ≤ i by omega], H⟩
  · simp only [W0]
    refine ld_m H hm (v := .string S) rfl ?_
    try simp only [W0]
    refine pv_of (ixStr_chr (by omega)) ?_
    rw [bin_eql]; simp only [W0]
    refine ⟨?_, H⟩
    have h2 : ¬ S.size ≤ i := by omega
    have : (decide ((chr S i : Int) = 32)) = endsP S i := by
      unfold endsP; rw [Bool.eq_iff_iff]; simp [h2]; omega
    rw [this]
theorem fsign_spec {c j : Nat} (H : Hp w0 w L) (hu : Upd L b (.t 102) [.string S, I (i : Int)] (.t 102) [.string S, I (j : Int)] L') (hc : signP S i c = some j) (hi : i < 2 ^ 60) :
    Calls Pg 83 ⟨[ptr b 0, U8 (c : Int)]⟩ w fun e w' => e = .returned (.tuple ⟨[]⟩) ∧ Hp w0 w' L' := by
  unfold signP at hc
  split at hc
  · rename_i hcc
    injection hc with hc
    subst hc
    apply F83_calls
    unfold F83 F83_j2
    simp only [W0]
    refine ld_m H hu.has (v := I (i : Int)) rfl ?_
    refine cal_h (fchar_spec H hu.has) ?_
    rintro _ w ⟨rfl, H⟩
    simp only [W0]
    refine neq_n (by rw [hcc]; simp) ?_
    simp only [W0]
    unfold F83_j1
    simp only [W0]
    refine ld_m H hu.has (v := I (i : Int)) rfl ?_
    refine add_k (z := ((i + 1 : Nat) : Int)) (by omega) (by omega) (by omega) ?_
    try simp only [W0]
    refine st_m H hu (by simp) rfl fun w H => ⟨(by first | rfl | trivial), H⟩
  · cases hc
theorem fmore_spec {m : Bool} {j : Nat} (H : Hp w0 w L) (hu : Upd L b (.t 102) [.string S, I (i : Int)] (.t 102) [.string S, I (j : Int)] L') (hc : moreP S i = some (m, j)) (hi : i < 2 ^ 60) :
    Calls Pg 64 ⟨[ptr b 0]⟩ w fun e w' => e = .returned (.bool m) ∧ Hp w0 w' L' := by
  apply F64_calls
  unfold F64
  refine drew_k H fun w H => ?_
  simp only [W0]
  refine ld_m H hu.has (v := I (i : Int)) rfl ?_
  try simp only [W0]
  refine ld_m H hu.has (v := .string S) rfl ?_
  refine pv_of (lenStr_mk S) ?_
  unfold moreP at hc
  refine geq_k (fun h => ?_) (fun h => ?_)
  · rw [if_pos (by omega)] at hc
    injection hc with hc
    obtain ⟨rfl, rfl⟩ := Prod.mk.inj hc
    simp only [W0]
    refine ⟨(by first | rfl | trivial), ?_⟩
    obtain ⟨X, Y, rfl, rfl⟩ := hu
    exact H
  · rw [if_neg (by omega)] at hc
    cases hs : signP S i 32 with
    | none => rw [hs] at hc; cases hc
    | some j' =>
      rw [hs] at hc
      injection hc with hc
      obtain ⟨rfl, rfl⟩ := Prod.mk.inj hc
      simp only [W0]
      refine cal_h (fsign_spec (c := 32) H hu hs hi) ?_
      rintro _ w ⟨rfl, H⟩
      simp only [W0]
      exact ⟨(by first | rfl | trivial), H⟩
end
end Go.Proofs.Ytmmbepdghpjgeaa.Den
end

section
set_option linter.unusedVariables false
set_option linter.unusedSimpArgs false
set_option maxRecDepth 8000
namespace Go.Proofs.Ytmmbepdghpjgeaa.Den
open Go Go.RowKit
/-- Does a number with these first digits fit? -/
def ExtOK (d : Nat) (low high no : Int) : Prop :=
  if d = 0 then low ≤ 0 ∧ no ≠ 0 else ∃ k m : Nat, m < 10 ^ k ∧ low ≤ ((d * 10 ^ k + m : Nat) : Int) ∧ ((d * 10 ^ k + m : Nat) : Int) ≤ high ∧ ((d * 10 ^ k + m : Nat) : Int) ≠ no
theorem chr_drop {S : ByteArray} {i t : Nat} : chr S (i + t) = ((bts S).drop i).getD t 10 := by
  unfold chr; rw [List.getD_eq_getElem?_getD, List.getD_eq_getElem?_getD, List.getElem?_drop]
theorem valOf_snoc (l : List Nat) (x : Nat) : valOf (l ++ [x]) = 10 * valOf l + (x - 48) := by simp [valOf, List.foldl_append]
theorem valOf_take {l : List Nat} {t x : Nat} (h : l[t]? = some x) : valOf (l.take (t + 1)) = 10 * valOf (l.take t) + (x - 48) := by
  rw [List.take_add_one, h]; exact valOf_snoc _ _
theorem foldl_val (l : List Nat) (hl : ∀ x ∈ l, x - 48 < 10) : ∀ a, ∃ m, m < 10 ^ l.length ∧ l.foldl (fun n d => 10 * n + (d - 48)) a = a * 10 ^ l.length + m := by
  induction l with
  | nil => intro a; exact ⟨0, by simp, by simp⟩
  | cons x l ih =>
    intro a
    obtain ⟨m, hm, e⟩ := ih (fun y hy => hl y (by simp [hy])) (10 * a + (x - 48))
    have hx := hl x (by simp)
    refine ⟨(x - 48) * 10 ^ l.length + m, ?_, ?_⟩
    · rw [List.length_cons, Nat.pow_succ]
      have : (x - 48) * 10 ^ l.length ≤ 9 * 10 ^ l.length := Nat.mul_le_mul_right _ (by omega)
      omega
    · rw [List.foldl_cons, e, List.length_cons, Nat.pow_succ, Nat.add_mul]
      have : 10 * a * 10 ^ l.length = a * (10 ^ l.length * 10) := by rw [Nat.mul_comm 10 a, Nat.mul_assoc, Nat.mul_comm 10]
      omega
theorem valOf_split {l : List Nat} (hl : ∀ x ∈ l, x - 48 < 10) (t : Nat) : ∃ m, m < 10 ^ (l.length - t) ∧ valOf l = valOf (l.take t) * 10 ^ (l.length - t) + m := by
  obtain ⟨m, h1, h2⟩ := foldl_val (l.drop t) (fun x hx => hl x (List.mem_of_mem_drop hx)) (valOf (l.take t))
  refine ⟨m, by simpa using h1, ?_⟩
  have : valOf l = (l.drop t).foldl (fun n d => 10 * n + (d - 48)) (valOf (l.take t)) := by
    unfold valOf; rw [← List.foldl_append, List.take_append_drop]
  rw [this, h2]; simp
theorem takeWhile_get {p : Nat → Bool} : ∀ (l : List Nat) (t : Nat), t < (l.takeWhile p).length → ∃ x, l[t]? = some x ∧ (l.takeWhile p)[t]? = some x ∧ p x = true
  | [], t, h => by simp at h
  | a :: l, t, h => by
    rw [List.takeWhile_cons] at h ⊢
    by_cases ha : p a
    · simp only [ha, if_true] at h ⊢
      cases t with
      | zero => exact ⟨a, rfl, rfl, ha⟩
      | succ t => exact takeWhile_get l t (by simpa using h)
    · simp [ha] at h
theorem takeWhile_end {p : Nat → Bool} : ∀ (l : List Nat) (x : Nat), l[(l.takeWhile p).length]? = some x → p x = false
  | [], x, h => by simp at h
  | a :: l, x, h => by
    rw [List.takeWhile_cons] at h
    by_cases ha : p a
    · simp only [ha, if_true, List.length_cons, List.getElem?_cons_succ] at h
      exact takeWhile_end l x h
    · simp only [ha, Bool.false_eq_true, if_false, List.length_nil, List.getElem?_cons_zero, Option.some.injEq] at h
      subst h; simpa using ha
theorem digitsOf_ne {l : List Nat} (h : l.head? ≠ some 48) : digitsOf l = l.takeWhile isDig := by
  unfold digitsOf; split
  · simp at h
  · rfl
theorem digitsOf_get (l : List Nat) (t : Nat) (h : t < (digitsOf l).length) : ∃ x, l[t]? = some x ∧ (digitsOf l)[t]? = some x ∧ isDig x = true ∧ (t = 0 ∨ 0 < valOf ((digitsOf l).take t)) := by
  by_cases hl : l.head? = some 48
  · cases l with
    | nil => simp at hl
    | cons a l =>
      simp at hl; subst hl
      simp only [digitsOf, List.length_cons, List.length_nil] at h ⊢
      obtain rfl : t = 0 := by omega
      exact ⟨48, rfl, rfl, by decide, .inl rfl⟩
  · rw [digitsOf_ne hl] at h ⊢
    obtain ⟨x, h1, h2, h3⟩ := takeWhile_get l t h
    refine ⟨x, h1, h2, h3, ?_⟩
    cases t with
    | zero => exact .inl rfl
    | succ t =>
      right
      obtain ⟨a, g1, g2, g3⟩ := takeWhile_get (p := isDig) l 0 (Nat.lt_trans (Nat.succ_pos t) h)
      have ha : a ≠ 48 := by
        rintro rfl
        cases l with
        | nil => simp at g1
        | cons c l => simp at g1; subst g1; simp at hl
      have hd : 48 < a := by unfold isDig at g3; simp at g3; omega
      obtain ⟨m, e1, e2⟩ := foldl_val (((l.takeWhile isDig).take (t + 1)).drop 1) (by
        intro x hx
        have hx := List.mem_of_mem_take (List.mem_of_mem_drop hx)
        have hd := List.all_eq_true.1 (List.all_takeWhile (p := isDig) (l := l)) x hx
        unfold isDig at hd; simp at hd; omega) (a - 48)
      have hsp : valOf ((l.takeWhile isDig).take (t + 1)) = (((l.takeWhile isDig).take (t + 1)).drop 1).foldl (fun n d => 10 * n + (d - 48)) (a - 48) := by
        cases htw : l.takeWhile isDig with
        | nil => rw [htw] at g2; simp at g2
        | cons c l' => rw [htw] at g2; simp at g2; subst g2; simp [valOf]
      rw [hsp, e2]
      have : 0 < (a - 48) * 10 ^ (((l.takeWhile isDig).take (t + 1)).drop 1).length := Nat.mul_pos (by omega) (Nat.pow_pos (by omega))
      omega
theorem digitsOf_end (l : List Nat) : isDig (l.getD (digitsOf l).length 10) = false ∨ ((digitsOf l).length ≠ 0 ∧ valOf (digitsOf l) = 0) := by
  by_cases hl : l.head? = some 48
  · right
    cases l with
    | nil => simp at hl
    | cons a l => simp at hl; subst hl; simp [digitsOf, valOf]
  · left
    rw [digitsOf_ne hl, List.getD_eq_getElem?_getD]
    cases hx : l[(l.takeWhile isDig).length]? with
    | none => rfl
    | some x => exact takeWhile_end l x hx
theorem digitsOf_small {l : List Nat} : ∀ x ∈ digitsOf l, x - 48 < 10 := by
  intro x hx
  obtain ⟨t, ht, e⟩ := List.getElem_of_mem hx
  obtain ⟨y, h1, h2, h3, h4⟩ := digitsOf_get l t ht
  rw [List.getElem?_eq_getElem ht, e] at h2
  injection h2 with h2; subst h2
  unfold isDig at h3; simp at h3; omega
theorem valid_prefix {l : List Nat} {low high no : Int} {t : Nat} (ht : t < (digitsOf l).length) (h1 : low ≤ (valOf (digitsOf l) : Int)) (h2 : (valOf (digitsOf l) : Int) ≤ high) (h3 : (valOf (digitsOf l) : Int) ≠ no) :
    ExtOK (valOf ((digitsOf l).take (t + 1))) low high no ∧ valOf ((digitsOf l).take (t + 1)) ≤ valOf (digitsOf l) := by
  obtain ⟨m, e1, e2⟩ := valOf_split (digitsOf_small (l := l)) (t + 1)
  have hp : 0 < 10 ^ ((digitsOf l).length - (t + 1)) := Nat.pow_pos (by omega)
  refine ⟨?_, ?_⟩
  · unfold ExtOK
    split
    · rename_i h0
      have hlen : (digitsOf l).length = t + 1 := by
        rcases Nat.lt_or_ge (t + 1) (digitsOf l).length with h | h
        · obtain ⟨y, g1, g2, g3, g4⟩ := digitsOf_get l (t + 1) h
          rcases g4 with g4 | g4 <;> omega
        · omega
      rw [List.take_of_length_le (by omega)] at h0
      rw [h0] at h1 h3
      exact ⟨h1, fun h => h3 h.symm⟩
    · exact ⟨_, m, e1, by rw [← e2]; exact h1, by rw [← e2]; exact h2, by rw [← e2]; exact h3⟩
  · rw [e2]
    have := Nat.le_mul_of_pos_right (valOf ((digitsOf l).take (t + 1))) hp
    omega
section
variable {w w' w0 : World} {L L' F cs A : List Chunk} {s : Value} {K : VK} {R : ER} {b i at' : Nat} {S : ByteArray}
theorem mul_k {x y z : Int} {K : VK} {w : World} (h1 : -9223372036854775808 ≤ x * y) (h2 : x * y ≤ 9223372036854775807) (hz : x * y = z) (g : K (I z) w) : pv (bin .mul (I x) (I y)) K w := by
  rw [bin_mul, pv_some, wrap64_id h1 h2, hz]; exact g
theorem goes_spec {d : Nat} {low high no : Int} (H : Hp w0 w L) (hl : 0 ≤ low) (hh : 0 ≤ high) (hh2 : high ≤ 65535) (hd : d ≤ 1000000) (hlow : low ≤ 65535) :
    Calls Pg 103 ⟨[I (d : Int), I low, I high, I no]⟩ w fun e w' => ∃ v, e = .returned (.bool v) ∧ Hp w0 w' L ∧ (ExtOK d low high no → v = true) := by
  apply F103_calls
  unfold F103
  refine eql_k (fun h0 => ?_) (fun h0 => ?_)
  · obtain rfl : d = 0 := by omega
    simp only [W0]
    refine leq_k (fun h1 => ?_) (fun h1 => ?_)
    · simp only [W0]
      rw [bin_neq]; simp only [W0]
      exact ⟨_, (by first | rfl | trivial), H, fun hx => by simp [ExtOK] at hx; simp [hx.2]⟩
    · simp only [W0]
      exact ⟨_, (by first | rfl | trivial), H, fun hx => absurd (by simpa [ExtOK] using hx.1) h1⟩
  · simp only [W0]
    unfold F103_j1 F103_j3 F103_j4
    refine loop5 (F103_l1_succ _) (fun m x0 x1 x2 x3 x9 w => ∃ k : Nat, x0 = I (d : Int) ∧ x1 = I low ∧ x2 = I high ∧ x3 = I no ∧ x9 = I ((10 ^ k : Nat) : Int) ∧ m + 10 ^ k = 1000000 ∧
      (∀ k' m' : Nat, m' < 10 ^ k' → low ≤ ((d * 10 ^ k' + m' : Nat) : Int) → ((d * 10 ^ k' + m' : Nat) : Int) ≤ high → ((d * 10 ^ k' + m' : Nat) : Int) ≠ no → k ≤ k') ∧ Hp w0 w L) ?_ (m := 999999) ⟨0, rfl, rfl, rfl, rfl, rfl, by simp, fun _ _ _ _ _ _ => Nat.zero_le _, H⟩
    clear H
    rintro m kk _ _ _ _ _ w ⟨k, rfl, rfl, rfl, rfl, rfl, hm, hk, H⟩ hkk
    unfold F103_b1
    have hp : 0 < 10 ^ k := Nat.pow_pos (by omega)
    have hpd : 10 ^ k ≤ d * 10 ^ k := Nat.le_mul_of_pos_left _ (by omega)
    have hub : d * 10 ^ k ≤ 1000000 * 1000000 := Nat.mul_le_mul hd (by omega)
    have hmc : (d : Int) * ((10 ^ k : Nat) : Int) = ((d * 10 ^ k : Nat) : Int) := by push_cast; rfl
    generalize hP : 10 ^ k = P at *
    generalize hQ : d * P = Q at *
    refine mul_k (by rw [hmc]; omega) (by rw [hmc]; omega) hmc ?_
    refine leq_k (fun h1 => ?_) (fun h1 => ?_)
    · simp only [W0]
      unfold F103_j5
      refine mul_k (by rw [hmc]; omega) (by rw [hmc]; omega) hmc ?_
      refine max_a ?_
      refine mul_k (by rw [hmc]; omega) (by rw [hmc]; omega) hmc ?_
      refine add_k (by omega) (by omega) rfl ?_
      refine sub_k (by omega) (by omega) rfl ?_
      refine min_a ?_
      have key : ∀ m' : Nat, m' < 10 ^ k → low ≤ ((d * 10 ^ k + m' : Nat) : Int) → ((d * 10 ^ k + m' : Nat) : Int) ≤ high → ((d * 10 ^ k + m' : Nat) : Int) ≠ no → max low (Q : Int) < min high ((Q : Int) + P - 1) ∨ (max low (Q : Int) = min high ((Q : Int) + P - 1) ∧ max low (Q : Int) ≠ no) := by
        intro m' g1 g2 g3 g4
        rw [hP] at *; rw [hQ] at *
        omega
      have fin : ¬ (max low (Q : Int) < min high ((Q : Int) + P - 1) ∨ (max low (Q : Int) = min high ((Q : Int) + P - 1) ∧ max low (Q : Int) ≠ no)) → pv (bin .mul (I (P : Int)) (.int .i64 10)) (fun v17 => kk (I (d : Int)) (I low) (I high) (I no) v17) w := by
        intro hn
        refine mul_k (z := ((10 ^ (k + 1) : Nat) : Int)) (by omega) (by omega) (by rw [Nat.pow_succ, hP]; push_cast; rfl) ?_
        refine hkk (1000000 - 10 ^ (k + 1)) _ _ _ _ _ _ (by rw [Nat.pow_succ, hP]; omega) ⟨k + 1, rfl, rfl, rfl, rfl, rfl, by rw [Nat.pow_succ, hP]; omega, ?_, H⟩
        intro k' m' g1 g2 g3 g4
        have := hk k' m' g1 g2 g3 g4
        rcases Nat.lt_or_ge k k' with h | h
        · omega
        · obtain rfl : k = k' := by omega
          exact absurd (key m' g1 g2 g3 g4) hn
      refine lss_k (fun h2 => ?_) (fun h2 => ?_)
      · simp only [W0]
        exact ⟨_, (by first | rfl | trivial), H, fun _ => rfl⟩
      · simp only [W0]
        refine eql_k (fun h3 => ?_) (fun h3 => ?_)
        · simp only [W0]
          refine neq_k (fun h4 => ?_) (fun h4 => ?_)
          · simp only [W0]
            exact ⟨_, (by first | rfl | trivial), H, fun _ => rfl⟩
          · simp only [W0]
            exact fin (by rintro (h | h); exact h2 h; exact h.2 h4)
        · simp only [W0]
          exact fin (by rintro (h | h); exact h2 h; exact h3 h.1)
    · simp only [W0]
      unfold F103_j2
      refine ⟨_, rfl, H, fun hx => ?_⟩
      unfold ExtOK at hx
      rw [if_neg (by omega)] at hx
      obtain ⟨k', m', g1, g2, g3, g4⟩ := hx
      have h5 := hk k' m' g1 g2 g3 g4
      have h6 : P ≤ 10 ^ k' := by rw [← hP]; exact Nat.pow_le_pow_right (by omega) h5
      have h7 : Q ≤ d * 10 ^ k' := by rw [← hQ]; exact Nat.mul_le_mul_left _ h6
      omega
end
end Go.Proofs.Ytmmbepdghpjgeaa.Den
end

section
set_option linter.unusedVariables false
set_option linter.unusedSimpArgs false
set_option maxRecDepth 8000
namespace Go.Proofs.Ytmmbepdghpjgeaa.Den
open Go Go.RowKit
section
variable {w w' w0 : World} {L L' F cs A X Y : List Chunk} {s : Value} {K : VK} {R : ER} {b i j at' : Nat} {S : ByteArray}
theorem hasP {t : Tag} {l : List Value} : Has (X ++ ⟨b, t, l⟩ :: Y) b t l := by unfold Has; simp
theorem updP {t t' : Tag} {l l' : List Value} : Upd (X ++ ⟨b, t, l⟩ :: Y) b t l t' l' (X ++ ⟨b, t', l'⟩ :: Y) := ⟨X, Y, rfl, rfl⟩
theorem chr_lt (S : ByteArray) (i : Nat) : chr S i < 256 := by
  unfold chr; rw [List.getD_eq_getElem?_getD]
  cases h : (bts S)[i]? with
  | none => decide
  | some x =>
    have hx := List.mem_of_getElem? h
    unfold bts at hx
    obtain ⟨u, _, rfl⟩ := List.mem_map.1 hx
    exact u.toNat_lt
theorem u8_sub {c : Nat} (h1 : 48 ≤ c) (h2 : c < 256) : bin .sub (U8 (c : Int)) (.int .u8 48) = some (U8 ((c - 48 : Nat) : Int)) := by
  rw [bin_sub]
  have : IntKind.u8.wrap ((c : Int) - 48) = ((c - 48 : Nat) : Int) := by
    have e1 : (2 ^ IntKind.u8.bits : Int) = 256 := by decide
    simp only [IntKind.wrap, e1, IntKind.signed, Bool.false_and, Bool.false_eq_true, if_false]
    omega
  rw [this]
theorem cv_u8 {c : Nat} (h2 : c < 256) : cvI .i64 (U8 (c : Int)) = some (I (c : Int)) := by
  simp only [cvI]; rw [wrap64_id (by omega) (by omega)]
theorem fnumber_spec {low high no : Int} {n : Nat} (H : Hp w0 w L) (hu : Upd L b (.t 102) [.string S, I (i : Int)] (.t 102) [.string S, I (j : Int)] L') (hn : numP S i low high no = some (n, j))
    (hl : 0 ≤ low) (hlow : low ≤ 65535) (hh : 0 ≤ high) (hh2 : high ≤ 65535) (hS : S.size ≤ 1000) (hi : i ≤ S.size) :
    Calls Pg 90 ⟨[ptr b 0, I low, I high, I no]⟩ w fun e w' => e = .returned (I (n : Int)) ∧ Hp w0 w' L' := by
  obtain ⟨X, Y, rfl, rfl⟩ := hu
  unfold numP at hn
  simp only at hn
  split at hn
  · cases hn
  rename_i hv
  injection hn with hn
  obtain ⟨rfl, rfl⟩ := Prod.mk.inj hn
  clear hn
  generalize hd : digitsOf ((bts S).drop i) = d at *
  have hv1 : d ≠ [] := fun h => hv (.inl h)
  have hv2 : low ≤ (valOf d : Int) := by have := fun h => hv (.inr (.inl h)); omega
  have hv3 : (valOf d : Int) ≤ high := by have := fun h => hv (.inr (.inr (.inl h))); omega
  have hv4 : (valOf d : Int) ≠ no := fun h => hv (.inr (.inr (.inr h)))
  have hlen : i + d.length ≤ S.size := by
    rcases Nat.eq_zero_or_pos d.length with h | h
    · omega
    · obtain ⟨x, h1, _⟩ := digitsOf_get ((bts S).drop i) (d.length - 1) (by rw [hd]; omega)
      have := (List.getElem?_eq_some_iff.1 h1).1
      rw [List.length_drop, bts_len] at this; omega
  generalize hQ : (fun (e : Ending) (w' : World) => e = .returned (I (valOf d : Int)) ∧ Hp w0 w' (X ++ ⟨b, .t 102, [.string S, I ((i + d.length : Nat) : Int)]⟩ :: Y) : ER) = Q
  apply F90_calls
  unfold F90
  refine drew_k H fun w H => ?_
  try simp only [W0]
  refine ld_m H hasP (v := I (i : Int)) rfl ?_
  unfold F90_j4
  refine loop6 (F90_l1_succ _) (fun m x0 x1 x2 x3 x9 x10 w => ∃ t : Nat, x0 = ptr b 0 ∧ x1 = I low ∧ x2 = I high ∧ x3 = I no ∧ x9 = I (valOf (d.take t) : Int) ∧ x10 = I (i : Int) ∧ m + t = d.length ∧
    Hp w0 w (X ++ ⟨b, .t 102, [.string S, I ((i + t : Nat) : Int)]⟩ :: Y)) ?_ (m := d.length) ⟨0, rfl, rfl, rfl, rfl, rfl, rfl, rfl, H⟩
  clear H
  rintro m k _ _ _ _ _ _ w ⟨t, rfl, rfl, rfl, rfl, rfl, rfl, hm, H⟩ hk
  unfold F90_b1
  try simp only [W0]
  refine ld_m H hasP (v := I ((i + t : Nat) : Int)) rfl ?_
  refine cal_h (fchar_spec H hasP) ?_
  rintro _ w ⟨rfl, H⟩
  try simp only [W0]
  have hgo : isDig (chr S (i + t)) = true → (t = 0 ∨ 0 < valOf (d.take t)) → t < d.length → F90_j5 Q k (ptr b 0) (I low) (I high) (I no) (I (valOf (d.take t) : Int)) (I (i : Int)) (U8 (chr S (i + t) : Int)) w := by
    intro _ _ ht
    obtain ⟨x, h1, h2, h3, h4⟩ := digitsOf_get ((bts S).drop i) t (by rw [hd]; exact ht)
    rw [hd] at h2 h4
    have hc : chr S (i + t) = x := by rw [chr_drop, List.getD_eq_getElem?_getD, h1]; rfl
    obtain ⟨hext, hle⟩ := valid_prefix (l := (bts S).drop i) (t := t) (by rw [hd]; exact ht) (by rw [hd]; exact hv2) (by rw [hd]; exact hv3) (by rw [hd]; exact hv4)
    rw [hd] at hext hle
    have hval := valOf_take h2
    unfold isDig at h3
    simp only [Bool.and_eq_true, decide_eq_true_eq] at h3
    unfold F90_j5
    rw [hc]
    refine mul_k (z := ((10 * valOf (d.take t) : Nat) : Int)) (by omega) (by omega) (by push_cast; rfl) ?_
    refine pv_of (u8_sub h3.1 (by omega)) ?_
    refine pv_of (cv_u8 (by omega)) ?_
    refine add_k (z := ((valOf (d.take (t + 1)) : Nat) : Int)) (by omega) (by omega) (by omega) ?_
    refine cal_h (goes_spec H hl hh hh2 (by omega) hlow) ?_
    rintro _ w ⟨v, rfl, H, hv⟩
    obtain rfl := hv hext
    try simp only [W0]
    unfold F90_j6
    try simp only [W0]
    refine ld_m H hasP (v := I ((i + t : Nat) : Int)) rfl ?_
    refine add_k (z := ((i + (t + 1) : Nat) : Int)) (by omega) (by omega) (by omega) ?_
    try simp only [W0]
    refine st_m H updP (by simp) rfl fun w H => ?_
    exact hk (m - 1) _ _ _ _ _ _ _ (by omega) ⟨t + 1, rfl, rfl, rfl, rfl, rfl, rfl, by omega, H⟩
  have hend : t = d.length → F90_j1 Q (ptr b 0) (I low) (I no) (I (valOf (d.take t) : Int)) (I (i : Int)) w := by
    rintro rfl
    have hne : d.length ≠ 0 := fun h => hv1 (List.length_eq_zero_iff.1 h)
    unfold F90_j1 F90_j3
    rw [List.take_length]
    try simp only [W0]
    refine ld_m H hasP (v := I ((i + d.length : Nat) : Int)) rfl ?_
    refine eql_n (by omega) ?_
    try simp only [W0]
    refine lss_n (by omega) ?_
    try simp only [W0]
    refine eql_n hv4 ?_
    try simp only [W0]
    subst hQ
    exact ⟨rfl, H⟩
  rcases Nat.lt_or_ge t d.length with ht | ht
  · obtain ⟨x, h1, h2, h3, h4⟩ := digitsOf_get ((bts S).drop i) t (by rw [hd]; exact ht)
    rw [hd] at h2 h4
    have hc : chr S (i + t) = x := by rw [chr_drop, List.getD_eq_getElem?_getD, h1]; rfl
    have h3' := h3
    unfold isDig at h3'
    simp only [Bool.and_eq_true, decide_eq_true_eq] at h3'
    have hg := hgo (by rw [hc]; exact h3) h4 ht
    refine geq_y (by omega) ?_
    try simp only [W0]
    refine leq_y (by omega) ?_
    try simp only [W0]
    refine ld_m H hasP (v := I ((i + t : Nat) : Int)) rfl ?_
    try simp only [W0]
    refine eql_k (fun h0 => ?_) (fun h0 => ?_)
    · simp only [W0]; exact hg
    · simp only [W0]
      refine gtr_y (by omega) ?_
      simp only [W0]; exact hg
  · obtain rfl : t = d.length := by omega
    have he := hend rfl
    have hds := digitsOf_end ((bts S).drop i)
    rw [hd, ← chr_drop] at hds
    rw [List.take_length] at he ⊢
    have hne : d.length ≠ 0 := fun h => hv1 (List.length_eq_zero_iff.1 h)
    refine geq_k (fun h0 => ?_) (fun h0 => ?_)
    · simp only [W0]
      refine leq_k (fun h5 => ?_) (fun h5 => ?_)
      · simp only [W0]
        refine ld_m H hasP (v := I ((i + d.length : Nat) : Int)) rfl ?_
        try simp only [W0]
        refine eql_n (by omega) ?_
        try simp only [W0]
        have hz : valOf d = 0 := by
          rcases hds with h | h
          · unfold isDig at h
            rw [decide_eq_true (by omega : 48 ≤ chr S (i + d.length)), decide_eq_true (by omega : chr S (i + d.length) ≤ 57)] at h
            simp at h
          · exact h.2
        refine gtr_n (by omega) ?_
        simp only [W0]; exact he
      · simp only [W0]; exact he
    · simp only [W0]; exact he
end
end Go.Proofs.Ytmmbepdghpjgeaa.Den
end

section
set_option linter.unusedVariables false
set_option linter.unusedSimpArgs false
set_option maxRecDepth 8000
set_option maxHeartbeats 1000000
namespace Go.Proofs.Ytmmbepdghpjgeaa.Den
open Go Go.RowKit
section
variable {w w' w0 : World} {L L' F cs A X Y : List Chunk} {s : Value} {K : VK} {R : ER} {b i j at' : Nat} {S : ByteArray}
theorem sign_le {c : Nat} (h : signP S i c = some j) (hc : c ≠ 10) : j = i + 1 ∧ j ≤ S.size := by
  unfold signP at h
  split at h
  · rename_i h1
    injection h with h
    refine ⟨h.symm, ?_⟩
    rcases Nat.lt_or_ge i S.size with g | g
    · omega
    · rw [chr_out g] at h1; exact absurd h1.symm hc
  · cases h
theorem num_le {low high no : Int} {n : Nat} (h : numP S i low high no = some (n, j)) (hi : i ≤ S.size) : j ≤ S.size ∧ i < j ∧ low ≤ (n : Int) ∧ (n : Int) ≤ high ∧ (n : Int) ≠ no := by
  unfold numP at h
  simp only at h
  split at h
  · cases h
  rename_i hv
  injection h with h
  obtain ⟨rfl, rfl⟩ := Prod.mk.inj h
  have hne : (digitsOf ((bts S).drop i)).length ≠ 0 := fun h => hv (.inl (List.length_eq_zero_iff.1 h))
  obtain ⟨x, h1, _⟩ := digitsOf_get ((bts S).drop i) ((digitsOf ((bts S).drop i)).length - 1) (by omega)
  have := (List.getElem?_eq_some_iff.1 h1).1
  rw [List.length_drop, bts_len] at this
  refine ⟨by omega, by omega, ?_, ?_, fun h => hv (.inr (.inr (.inr h)))⟩
  · have := fun h => hv (.inr (.inl h)); omega
  · have := fun h => hv (.inr (.inr (.inl h))); omega
theorem fcounted_spec {n : Nat} (H : Hp w0 w L) (hu : Upd L b (.t 102) [.string S, I (i : Int)] (.t 102) [.string S, I (j : Int)] L') (hn : countP S i = some (n, j)) (hS : S.size ≤ 1000) (hi : i ≤ S.size) :
    Calls Pg 84 ⟨[ptr b 0]⟩ w fun e w' => e = .returned (I (n : Int)) ∧ Hp w0 w' L' := by
  obtain ⟨X, Y, rfl, rfl⟩ := hu
  unfold countP at hn
  simp only [Option.bind_eq_bind, Option.bind_eq_some_iff] at hn
  obtain ⟨i1, h1, ⟨n', i2⟩, h2, h3⟩ := hn
  simp only at h3
  split at h3
  · rename_i hend
    injection h3 with h3
    obtain ⟨rfl, rfl⟩ := Prod.mk.inj h3
    have hs := sign_le h1 (by decide)
    have hq := num_le h2 hs.2
    apply F84_calls
    unfold F84
    refine cal_h (fsign_spec (c := 32) H updP h1 (by omega)) ?_
    rintro _ w ⟨rfl, H⟩
    simp only [W0]
    refine cal_h (fnumber_spec H updP h2 (by decide) (by decide) (by decide) (by decide) hS hs.2) ?_
    rintro _ w ⟨rfl, H⟩
    simp only [W0]
    unfold F84_j2
    simp only [W0]
    refine ld_m H hasP (v := I (i2 : Int)) rfl ?_
    refine cal_h (fends_spec H hasP) ?_
    rintro _ w ⟨rfl, H⟩
    rw [hend]
    simp only [W0]
    unfold F84_j1
    exact ⟨rfl, H⟩
  · cases h3
theorem fports_spec {r : Rng} (H : Hp w0 w L) (hu : Upd L b (.t 102) [.string S, I (i : Int)] (.t 102) [.string S, I (j : Int)] L') (hn : portsP S i = some (r, j)) (hS : S.size ≤ 1000) (hi : i ≤ S.size) :
    Calls Pg 92 ⟨[ptr b 0]⟩ w fun e w' => e = .returned (.agg ⟨[I r.low, I r.high]⟩) ∧ Hp w0 w' L' := by
  obtain ⟨X, Y, rfl, rfl⟩ := hu
  unfold portsP at hn
  simp only [Option.bind_eq_bind, Option.bind_eq_some_iff] at hn
  obtain ⟨i1, h1, ⟨l, i2⟩, h2, i3, h3, ⟨h, i4⟩, h4, h5⟩ := hn
  simp only at h2 h3 h4 h5
  split at h5
  · rename_i hend
    injection h5 with h5
    obtain ⟨rfl, rfl⟩ := Prod.mk.inj h5
    have hs := sign_le h1 (by decide)
    have hq := num_le h2 hs.2
    have hs3 := sign_le h3 (by decide)
    have hq4 := num_le h4 hs3.2
    generalize hQ : (fun (e : Ending) (w' : World) => e = .returned (.agg ⟨[I ((⟨(l : Int), (h : Int)⟩ : Rng)).low, I ((⟨(l : Int), (h : Int)⟩ : Rng)).high]⟩) ∧ Hp w0 w' (X ++ ⟨b, .t 102, [.string S, I (i4 : Int)]⟩ :: Y) : ER) = Q
    apply F92_calls
    unfold F92
    refine al_m (ys := [I 0, I 0]) H (by kernel_rfl) fun w x2 H => ?_
    refine cal_h (fsign_spec (c := 32) H updP.cons h1 (by omega)) ?_
    rintro _ w ⟨rfl, H⟩
    simp only [W0]
    refine cal_h (fnumber_spec H updP.cons h2 (by decide) (by decide) (by decide) (by decide) hS hs.2) ?_
    rintro _ w ⟨rfl, H⟩
    simp only [W0]
    refine cal_h (fsign_spec (c := 58) H updP.cons h3 (by omega)) ?_
    rintro _ w ⟨rfl, H⟩
    simp only [W0]
    have go : ∀ no : Int, no = (if l = 0 then 65535 else -1) → F92_j1 Q (ptr b 0) (ptr x2 0) (I (l : Int)) (I no) w := by
      rintro no rfl
      unfold F92_j1
      refine cal_h (fnumber_spec H updP.cons h4 (by omega) (by omega) (by decide) (by decide) hS hs3.2) ?_
      rintro _ w ⟨rfl, H⟩
      simp only [W0]
      refine bld_a ?_
      refine al_m (ys := [I 0, I 0]) H (by kernel_rfl) fun w x5 H => ?_
      refine stA_a fun w H => ?_
      unfold F92_j3
      simp only [W0]
      refine ld_m H hasP.cons.cons (v := I (i4 : Int)) rfl ?_
      refine cal_h (fends_spec H hasP.cons.cons) ?_
      rintro _ w ⟨rfl, H⟩
      rw [hend]
      simp only [W0]
      unfold F92_j2
      refine ldA_a ?_
      refine stA_a fun w H => ?_
      refine ldA_a ?_
      subst hQ
      exact ⟨rfl, H.tail.tail⟩
    refine eql_k (fun h0 => ?_) (fun h0 => ?_)
    · simp only [W0]
      exact go _ (by rw [if_pos (by omega)])
    · simp only [W0]
      exact go _ (by rw [if_neg (by omega)])
  · cases h5
end
end Go.Proofs.Ytmmbepdghpjgeaa.Den
end

section
set_option linter.unusedVariables false
set_option linter.unusedSimpArgs false
set_option maxRecDepth 8000
set_option maxHeartbeats 1000000
namespace Go.Proofs.Ytmmbepdghpjgeaa.Den
open Go Go.RowKit
theorem wrap32_id {a : Int} (h1 : 0 ≤ a) (h2 : a < 4294967296) : IntKind.u32.wrap a = a := by
  have e1 : (2 ^ IntKind.u32.bits : Int) = 4294967296 := by decide
  simp only [IntKind.wrap, e1, IntKind.signed, Bool.false_and, Bool.false_eq_true, if_false]
  omega
theorem shl_oct {a : Nat} (ha : a < 2 ^ 24) : bin .shl (U32 (a : Int)) (.int .u64 8) = some (U32 ((a * 256 : Nat) : Int)) := by
  have : IntKind.u32.wrap ((a : Int) * 2 ^ (min (8 : Int).toNat IntKind.u32.bits)) = ((a * 256 : Nat) : Int) := by
    have e : (2 ^ (min (8 : Int).toNat IntKind.u32.bits) : Int) = 256 := by decide
    rw [e, wrap32_id (by omega) (by omega)]; push_cast; rfl
  show (if (8 : Int) < 0 then none else some (Value.int .u32 (IntKind.u32.wrap ((a : Int) * 2 ^ (min (8 : Int).toNat IntKind.u32.bits))))) = _
  rw [if_neg (by decide), this]
theorem or_oct {a n : Nat} (ha : a < 2 ^ 24) (hn : n < 256) : bin .or (U32 ((a * 256 : Nat) : Int)) (U32 (n : Int)) = some (U32 ((a * 256 + n : Nat) : Int)) := by
  have : (BitVec.ofInt IntKind.u32.bits ((a * 256 : Nat) : Int) ||| BitVec.ofInt IntKind.u32.bits (n : Int)).toNat = a * 256 + n := by
    rw [BitVec.toNat_or, BitVec.ofInt_natCast, BitVec.ofInt_natCast, BitVec.toNat_ofNat, BitVec.toNat_ofNat]
    have e : 2 ^ IntKind.u32.bits = 4294967296 := by decide
    rw [e, Nat.mod_eq_of_lt (by omega), Nat.mod_eq_of_lt (by omega), Nat.mul_comm]
    exact (Nat.two_pow_add_eq_or_of_lt (i := 8) hn a).symm
  show (if IntKind.u32 = IntKind.u32 then bitsI .or .u32 _ _ else none) = _
  rw [if_pos rfl]
  simp only [bitsI, this]
  rw [wrap32_id (by omega) (by omega)]
section
variable {w w' w0 : World} {L L' F cs A X Y : List Chunk} {s : Value} {K : VK} {R : ER} {b i j at' : Nat} {S : ByteArray}
theorem oct_round {Q : ER} {k1 : V4} {x2 x3 a a' : Nat} {t : Int} {no : Bool} (H : Hp w0 w (⟨x3, .t 25, [U32 (a : Int), I 0, .bool no]⟩ :: ⟨x2, .t 25, [U32 0, I 0, .bool false]⟩ :: (X ++ ⟨b, .t 102, [.string S, I (i : Int)]⟩ :: Y)))
    (h : octP S i a = some (a', j)) (ha : a < 2 ^ 24) (hS : S.size ≤ 1000) (hi : i ≤ S.size) (h0 : 0 ≤ t) (h4 : t < 4)
    (k : ∀ w', Hp w0 w' (⟨x3, .t 25, [U32 (a' : Int), I 0, .bool no]⟩ :: ⟨x2, .t 25, [U32 0, I 0, .bool false]⟩ :: (X ++ ⟨b, .t 102, [.string S, I (j : Int)]⟩ :: Y)) → k1 (ptr b 0) (ptr x2 0) (ptr x3 0) (I (t + 1)) w') :
    F91_j11 Q k1 (ptr b 0) (ptr x2 0) (ptr x3 0) (I t) w := by
  unfold octP at h
  cases hn : numP S i 0 255 (-1) with
  | none => rw [hn] at h; cases h
  | some p =>
    obtain ⟨n, j'⟩ := p
    rw [hn] at h
    injection h with h
    obtain ⟨rfl, rfl⟩ := Prod.mk.inj h
    have hq := num_le hn hi
    unfold F91_j11
    refine drew_k H fun w H => ?_
    try simp only [W0]
    refine ld_a ?_
    refine pv_of (shl_oct ha) ?_
    try simp only [W0]
    refine cal_h (fnumber_spec H updP.cons.cons hn (by decide) (by decide) (by decide) (by decide) hS hi) ?_
    rintro _ w ⟨rfl, H⟩
    try simp only [W0]
    refine rd1_s ?_
    rw [wrap32_id (a := (n : Int)) (by omega) (by omega)]
    refine pv_of (or_oct ha (by omega)) ?_
    try simp only [W0]
    refine st_a fun w H => ?_
    unfold F91_j9
    refine add_k (by omega) (by omega) rfl ?_
    exact k w H
theorem oct_le {a a' : Nat} (h : octP S i a = some (a', j)) (hi : i ≤ S.size) : j ≤ S.size ∧ a' ≤ a * 256 + 255 := by
  unfold octP at h
  cases hn : numP S i 0 255 (-1) with
  | none => rw [hn] at h; cases h
  | some p =>
    obtain ⟨n, j'⟩ := p
    rw [hn] at h
    injection h with h
    obtain ⟨rfl, rfl⟩ := Prod.mk.inj h
    have hq := num_le hn hi
    exact ⟨hq.1, by simp only; omega⟩
theorem fpattern_spec {p : Pat} (H : Hp w0 w L) (hu : Upd L b (.t 102) [.string S, I (i : Int)] (.t 102) [.string S, I (j : Int)] L') (hn : patP S i = some (p, j)) (hS : S.size ≤ 1000) (hi : i ≤ S.size) :
    Calls Pg 91 ⟨[ptr b 0]⟩ w fun e w' => e = .returned (.agg ⟨p.enc⟩) ∧ Hp w0 w' L' := by
  obtain ⟨X, Y, rfl, rfl⟩ := hu
  unfold patP at hn
  simp only [Option.bind_eq_bind, Option.bind_eq_some_iff] at hn
  obtain ⟨⟨a1, i1⟩, h1, i2, h2, ⟨a2, i3⟩, h3, i4, h4, ⟨a3, i5⟩, h5, i6, h6, ⟨a4, i7⟩, h7, i8, h8, ⟨nb, i9⟩, h9, h10⟩ := hn
  simp only at h1 h2 h3 h4 h5 h6 h7 h8 h9 h10
  split at h10
  · rename_i hend
    injection h10 with h10
    obtain ⟨rfl, rfl⟩ := Prod.mk.inj h10
    generalize hno : (chr S i == 33) = no at *
    generalize hi0 : (if no = true then i + 1 else i) = i0 at *
    have hi0' : i0 ≤ S.size := by
      subst hi0; subst hno
      split
      · rename_i h
        rcases Nat.lt_or_ge i S.size with g | g
        · omega
        · rw [chr_out g] at h; simp at h
      · exact hi
    have q1 := oct_le h1 hi0'
    have q2 := sign_le h2 (by decide)
    have q3 := oct_le h3 q2.2
    have q4 := sign_le h4 (by decide)
    have q5 := oct_le h5 q4.2
    have q6 := sign_le h6 (by decide)
    have q7 := oct_le h7 q6.2
    have q8 := sign_le h8 (by decide)
    have q9 := num_le h9 q8.2
    generalize hQ : (fun (e : Ending) (w' : World) => e = .returned (.agg ⟨(⟨(a4 : Int), (nb : Int), no⟩ : Pat).enc⟩) ∧ Hp w0 w' (X ++ ⟨b, .t 102, [.string S, I (i9 : Int)]⟩ :: Y) : ER) = Q
    apply F91_calls
    unfold F91
    refine al_m (ys := [U32 0, I 0, .bool false]) H (by kernel_rfl) fun w x2 H => ?_
    refine al_m (ys := [U32 0, I 0, .bool false]) H (by kernel_rfl) fun w x3 H => ?_
    unfold F91_j12
    try simp only [W0]
    refine ld_m H hasP.cons.cons (v := I (i : Int)) rfl ?_
    refine cal_h (fchar_spec H hasP.cons.cons) ?_
    rintro _ w ⟨rfl, H⟩
    try simp only [W0]
    have go : ∀ w, Hp w0 w (⟨x3, .t 25, [U32 ((0 : Nat) : Int), I 0, .bool no]⟩ :: ⟨x2, .t 25, [U32 0, I 0, .bool false]⟩ :: (X ++ ⟨b, .t 102, [.string S, I (i0 : Int)]⟩ :: Y)) → F91_j1 Q (ptr b 0) (ptr x2 0) (ptr x3 0) w := by
      clear H
      intro w H
      unfold F91_j1 F91_j6 F91_j7
      refine ⟨5, ?_⟩
      show F91_l1 Q 5 (ptr b 0) (ptr x2 0) (ptr x3 0) (I 0) w
      rw [F91_l1_succ]
      unfold F91_b1
      refine lss_y (by decide) ?_
      try simp only [W0]
      unfold F91_j8 F91_j10
      refine gtr_n (by decide) ?_
      try simp only [W0]
      refine oct_round H h1 (by decide) hS hi0' (by decide) (by decide) fun w H => ?_
      rw [F91_l1_succ]
      unfold F91_b1
      refine lss_y (by decide) ?_
      try simp only [W0]
      unfold F91_j8 F91_j10
      refine gtr_y (by decide) ?_
      try simp only [W0]
      refine cal_h (fsign_spec (c := 46) H updP.cons.cons h2 (by omega)) ?_
      rintro _ w ⟨rfl, H⟩
      try simp only [W0]
      refine oct_round H h3 (by omega) hS q2.2 (by decide) (by decide) fun w H => ?_
      rw [F91_l1_succ]
      unfold F91_b1
      refine lss_y (by decide) ?_
      try simp only [W0]
      unfold F91_j8 F91_j10
      refine gtr_y (by decide) ?_
      try simp only [W0]
      refine cal_h (fsign_spec (c := 46) H updP.cons.cons h4 (by omega)) ?_
      rintro _ w ⟨rfl, H⟩
      try simp only [W0]
      refine oct_round H h5 (by omega) hS q4.2 (by decide) (by decide) fun w H => ?_
      rw [F91_l1_succ]
      unfold F91_b1
      refine lss_y (by decide) ?_
      try simp only [W0]
      unfold F91_j8 F91_j10
      refine gtr_y (by decide) ?_
      try simp only [W0]
      refine cal_h (fsign_spec (c := 46) H updP.cons.cons h6 (by omega)) ?_
      rintro _ w ⟨rfl, H⟩
      try simp only [W0]
      refine oct_round H h7 (by omega) hS q6.2 (by decide) (by decide) fun w H => ?_
      rw [F91_l1_succ]
      unfold F91_b1
      refine lss_n (by decide) ?_
      try simp only [W0]
      unfold F91_j2
      refine cal_h (fsign_spec (c := 47) H updP.cons.cons h8 (by omega)) ?_
      rintro _ w ⟨rfl, H⟩
      try simp only [W0]
      refine ld_a ?_
      have fin : ∀ nn : Int, nn = (if a4 = 0 ∧ no = false then 0 else -1) → F91_j3 Q (ptr b 0) (ptr x2 0) (ptr x3 0) (I nn) w := by
        rintro nn rfl
        unfold F91_j3
        refine cal_h (fnumber_spec H updP.cons.cons h9 (by decide) (by decide) (by decide) (by decide) hS q8.2) ?_
        rintro _ w ⟨rfl, H⟩
        try simp only [W0]
        refine st_a fun w H => ?_
        simp only [List.set_cons_zero, List.set_cons_succ] at H
        unfold F91_j5
        try simp only [W0]
        refine ld_m H hasP.cons.cons (v := I (i9 : Int)) rfl ?_
        refine cal_h (fends_spec H hasP.cons.cons) ?_
        rintro _ w ⟨rfl, H⟩
        rw [hend]
        try simp only [W0]
        unfold F91_j4
        refine ldA_a ?_
        refine stA_a fun w H => ?_
        refine ldA_a ?_
        subst hQ
        exact ⟨rfl, H.tail.tail⟩
      refine eql_k (fun h0 => ?_) (fun h0 => ?_)
      · simp only [W0]
        refine ld_a ?_
        try simp only [W0]
        cases no
        · simp only [W0]
          exact fin _ (by rw [if_pos ⟨by omega, rfl⟩])
        · simp only [W0]
          exact fin _ (by rw [if_neg (by simp)])
      · simp only [W0]
        exact fin _ (by rw [if_neg (by omega)])
    refine eql_k (fun h0 => ?_) (fun h0 => ?_)
    · have hn1 : no = true := by subst hno; simp; omega
      subst hn1
      simp only [if_true] at hi0
      subst hi0
      try simp only [W0]
      refine st_a fun w H => ?_
      try simp only [W0]
      refine ld_m H hasP.cons.cons (v := I (i : Int)) rfl ?_
      refine add_k (z := ((i + 1 : Nat) : Int)) (by omega) (by omega) (by omega) ?_
      try simp only [W0]
      refine st_m H updP.cons.cons (by simp) rfl fun w H => ?_
      exact go w H
    · have hn1 : no = false := by subst hno; simp; omega
      subst hn1
      simp only [Bool.false_eq_true, if_false] at hi0
      subst hi0
      try simp only [W0]
      exact go w H
  · cases h10
end
end Go.Proofs.Ytmmbepdghpjgeaa.Den
end

section
set_option linter.unusedVariables false
set_option linter.unusedSimpArgs false
set_option maxRecDepth 8000
set_option maxHeartbeats 1000000
namespace Go.Proofs.Ytmmbepdghpjgeaa.Den
open Go Go.RowKit
/-- Is a word with these first n bytes still possible? -/
def vb (run : List Nat) (n : Nat) (wd : ByteArray) : Bool := decide (n ≤ wd.size ∧ (bts wd).take n = run.take n)
def lev {α : Type} (f g : α → Bool) (q : Nat) (ws : List α) : List Bool := (ws.take q).map f ++ (ws.drop q).map g
section
variable {α : Type} {f g : α → Bool} {ws : List α} {q : Nat} {x : α}
theorem lev_len (h : q ≤ ws.length) : (lev f g q ws).length = ws.length := by simp [lev]; omega
theorem lev_get (h : ws[q]? = some x) : (lev f g q ws)[q]? = some (g x) := by
  have hq := (List.getElem?_eq_some_iff.1 h).1
  unfold lev
  rw [List.getElem?_append_right (by simp; omega)]
  have : (q - (List.map f (List.take q ws)).length) = 0 := by simp; omega
  rw [this, List.getElem?_map, List.getElem?_drop]; simp [h]
theorem lev_set (h : ws[q]? = some x) : (lev f g q ws).set q (f x) = lev f g (q + 1) ws := by
  have hq := (List.getElem?_eq_some_iff.1 h).1
  unfold lev
  rw [List.set_append_right _ _ (by simp; omega)]
  have : (q - (List.map f (List.take q ws)).length) = 0 := by simp; omega
  rw [this, List.drop_eq_getElem_cons hq, List.take_add_one, h, (List.getElem?_eq_some_iff.1 h).2]; simp
theorem lev_same (h : ws[q]? = some x) (e : f x = g x) : lev f g (q + 1) ws = lev f g q ws := by
  rw [← lev_set h, e]
  have h1 := lev_get (f := f) (g := g) h
  obtain ⟨h2, h3⟩ := List.getElem?_eq_some_iff.1 h1
  rw [← h3]; exact List.set_getElem_self h2
theorem lev_zero : lev f g 0 ws = ws.map g := by simp [lev]
theorem lev_all (h : ws.length ≤ q) : lev f g q ws = ws.map f := by unfold lev; rw [List.take_of_length_le h, List.drop_of_length_le h]; simp
end
section
variable {S : ByteArray} {i n : Nat} {wd : ByteArray}
theorem run_at (h : n < (wordAt S i).length) : (wordAt S i)[n]? = some (chr S (i + n)) ∧ chr S (i + n) ≠ 32 ∧ i + n < S.size := by
  obtain ⟨x, h1, h2, h3⟩ := takeWhile_get (p := (· != 32)) ((bts S).drop i) n h
  have hc : chr S (i + n) = x := by rw [chr_drop, List.getD_eq_getElem?_getD, h1]; rfl
  refine ⟨by rw [hc]; exact h2, by rw [hc]; simpa using h3, ?_⟩
  have := (List.getElem?_eq_some_iff.1 h1).1
  rw [List.length_drop, bts_len] at this; omega
theorem run_stop : chr S (i + (wordAt S i).length) = 32 ∨ (S.size ≤ i + (wordAt S i).length) := by
  rcases Nat.lt_or_ge (i + (wordAt S i).length) S.size with h | h
  · left
    have hl : (wordAt S i).length < ((bts S).drop i).length := by rw [List.length_drop, bts_len]; omega
    have h1 : ((bts S).drop i)[(((bts S).drop i).takeWhile (· != 32)).length]? = some (((bts S).drop i)[(wordAt S i).length]'hl) := List.getElem?_eq_getElem hl
    have := takeWhile_end ((bts S).drop i) _ h1
    rw [chr_drop, List.getD_eq_getElem?_getD, List.getElem?_eq_getElem hl]
    simpa using this
  · exact .inr h
theorem ends_run (h : n ≤ (wordAt S i).length) : endsP S (i + n) = decide (n = (wordAt S i).length) := by
  rcases Nat.lt_or_ge n (wordAt S i).length with h1 | h1
  · obtain ⟨_, h2, h3⟩ := run_at h1
    rw [decide_eq_false (by omega)]
    unfold endsP
    rw [decide_eq_false (by omega)]; simpa using h2
  · obtain rfl : n = (wordAt S i).length := by omega
    rw [decide_eq_true rfl]
    unfold endsP
    rcases run_stop (S := S) (i := i) with h2 | h2
    · simp [h2]
    · simp [h2]
theorem vb_mono {run : List Nat} (h : vb run (n + 1) wd = true) : vb run n wd = true := by
  unfold vb at *
  rw [decide_eq_true_eq] at *
  refine ⟨by omega, ?_⟩
  have := congrArg (List.take n) h.2
  rwa [List.take_take, List.take_take, Nat.min_eq_left (by omega)] at this
theorem vb_step (h : vb (wordAt S i) n wd = true) (hn : n ≤ (wordAt S i).length) (hw : ∀ x ∈ bts wd, x ≠ 32 ∧ x ≠ 10) :
    vb (wordAt S i) (n + 1) wd = (decide (n < wd.size) && decide (chr S (i + n) = chr wd n)) := by
  unfold vb at h
  rw [decide_eq_true_eq] at h
  by_cases hl : n < wd.size
  · have hl' : n < (bts wd).length := by rw [bts_len]; exact hl
    have hx : (bts wd)[n]? = some (chr wd n) := by
      unfold chr; rw [List.getD_eq_getElem?_getD, List.getElem?_eq_getElem hl']; rfl
    have hxw := hw _ (List.mem_of_getElem? hx)
    rw [Bool.eq_iff_iff]
    simp only [vb, decide_eq_true_eq, Bool.and_eq_true, hl, true_and]
    rw [List.take_add_one, List.take_add_one, hx, h.2]
    constructor
    · rintro ⟨_, h2⟩
      have h3 := List.append_cancel_left h2
      rcases Nat.lt_or_ge n (wordAt S i).length with h1 | h1
      · rw [(run_at h1).1] at h3; simp at h3; exact h3.symm
      · rw [List.getElem?_eq_none h1] at h3; simp at h3
    · intro h2
      refine ⟨by omega, ?_⟩
      rcases Nat.lt_or_ge n (wordAt S i).length with h1 | h1
      · rw [(run_at h1).1, h2]
      · obtain rfl : n = (wordAt S i).length := by omega
        rcases run_stop (S := S) (i := i) with h3 | h3
        · exact absurd (h2 ▸ h3) hxw.1
        · rw [chr_out h3] at h2; exact absurd h2.symm hxw.2
  · rw [decide_eq_false hl, Bool.false_and]
    unfold vb; rw [decide_eq_false]
    rintro ⟨h1, _⟩; omega
end
theorem elBool : ElT 155 4 cBool.sz 1 [.bool false] := ⟨by kernel_rfl, by kernel_rfl, rfl⟩
section
variable {w w' w0 : World} {L L' F cs A X Y : List Chunk} {s : Value} {K : VK} {R : ER} {b i j at' : Nat} {S : ByteArray}
theorem fchoose_spec {ws : List ByteArray} {k : Nat} (hws : TR cStr w0 cs s ws) (m1 : ∀ c ∈ cs, c ∈ L) (H : Hp w0 w L) (hu : Upd L b (.t 102) [.string S, I (i : Int)] (.t 102) [.string S, I (j : Int)] L') (hn : chooseP S i ws = some (k, j))
    (hw : ∀ wd ∈ ws, wd.size ≤ 1000 ∧ ∀ x ∈ bts wd, x ≠ 32 ∧ x ≠ 10) (hwl : ws.length ≤ 1000) (hS : S.size ≤ 1000) (hi : i ≤ S.size) :
    Calls Pg 63 ⟨[ptr b 0, s]⟩ w fun e w' => e = .returned (I (k : Int)) ∧ Hp w0 w' L' := by
  obtain ⟨X, Y, rfl, rfl⟩ := hu
  unfold chooseP at hn
  rw [Option.map_eq_some_iff] at hn
  obtain ⟨k', hk, hn⟩ := hn
  obtain ⟨rfl, rfl⟩ := Prod.mk.inj hn
  rw [List.findIdx?_eq_some_iff_getElem] at hk
  obtain ⟨hk1', hk2, hk3⟩ := hk
  have hrun : bts ws[k'] = wordAt S i := by simpa using hk2
  have hle : i + (wordAt S i).length ≤ S.size := by
    rcases Nat.eq_zero_or_pos (wordAt S i).length with h | h
    · omega
    · have := (run_at (S := S) (i := i) (n := (wordAt S i).length - 1) (by omega)).2.2; omega
  have hwk := hw _ (List.getElem_mem hk1')
  generalize hQ : (fun (e : Ending) (w' : World) => e = .returned (I (k' : Int)) ∧ Hp w0 w' (X ++ ⟨b, .t 102, [.string S, I ((i + (wordAt S i).length : Nat) : Int)]⟩ :: Y) : ER) = Q
  apply F63_calls
  unfold F63
  refine pv_of (lenS_tr hws) ?_
  refine make_t (C := cBool) (x := false) (n := ws.length) elBool rfl H rfl (by omega) (by omega) fun w s5 c5 H h5 => ?_
  have h5l : TS cBool 4 s5 (lev (fun _ => true) (fun _ => false) 0 ws) c5 := by
    rw [lev_zero]
    have : ws.map (fun _ => false) = List.replicate ws.length false := List.map_const' ..
    rw [this]; exact h5
  clear h5
  unfold F63_j16
  refine pv_of (lenS_ts h5l) ?_
  rw [lev_len (Nat.zero_le _)]
  unfold F63_j17
  refine loop5 (F63_l3_succ _) (fun m x0 x1 x5 x15 x16 w => ∃ (q : Nat) (c5 : List Chunk), x0 = ptr b 0 ∧ s = x1 ∧ s5 = x5 ∧ x15 = I (ws.length : Int) ∧ x16 = I (q : Int) ∧ m + q = ws.length ∧ TS cBool 4 s5 (lev (fun _ => true) (fun _ => false) q ws) c5 ∧
    Hp w0 w (c5 ++ (X ++ ⟨b, .t 102, [.string S, I (i : Int)]⟩ :: Y))) ?_ (m := ws.length) ⟨0, c5, rfl, rfl, rfl, rfl, rfl, rfl, h5l, H⟩
  clear H h5l c5
  rintro m kk _ _ _ _ _ w ⟨q, c5, rfl, rfl, rfl, rfl, rfl, hm, h5, H⟩ hkk
  unfold F63_b3
  refine lss_k (fun hq => ?_) (fun hq => ?_)
  · simp only [W0]
    have hx : ws[q]? = some ws[q] := List.getElem?_eq_getElem (by omega)
    refine ist1_t (x := true) h5 H Split.here (by rw [lev_len (by omega)]; omega) rfl rfl fun w c5 H h5 => ?_
    have h5' : TS cBool 4 s5 (lev (fun _ => true) (fun _ => false) (q + 1) ws) c5 := by rw [← lev_set hx]; exact h5
    refine add_k (z := ((q + 1 : Nat) : Int)) (by omega) (by omega) (by omega) ?_
    exact hkk (m - 1) _ _ _ _ _ _ (by omega) ⟨q + 1, c5, rfl, rfl, rfl, rfl, rfl, by omega, h5', H⟩
  · simp only [W0]
    rw [lev_all (by omega)] at h5
    have h5' : TS cBool 4 s5 (ws.map (vb (wordAt S i) 0)) c5 := by
      have : ws.map (vb (wordAt S i) 0) = ws.map (fun _ => true) := List.map_congr_left fun x _ => (by unfold vb; exact decide_eq_true ⟨Nat.zero_le _, by rw [List.take_zero, List.take_zero]⟩ : vb (wordAt S i) 0 x = true)
      rw [this]; exact h5
    clear h5
    unfold F63_j1 F63_j2
    refine loop4 (F63_l2_succ _) (fun m x0 x1 x5 x7 w => ∃ (n : Nat) (c5 : List Chunk), x0 = ptr b 0 ∧ s = x1 ∧ s5 = x5 ∧ x7 = I (n : Int) ∧ m + n = (wordAt S i).length ∧ TS cBool 4 s5 (ws.map (vb (wordAt S i) n)) c5 ∧
      Hp w0 w (c5 ++ (X ++ ⟨b, .t 102, [.string S, I (i : Int)]⟩ :: Y))) ?_ (m := (wordAt S i).length) ⟨0, c5, rfl, rfl, rfl, rfl, rfl, h5', H⟩
    clear H h5' c5 hkk kk hq hm q m
    rintro m k1 _ _ _ _ w ⟨n, c5, rfl, rfl, rfl, rfl, hm, h5, H⟩ hk1
    unfold F63_b1 F63_j4 F63_j8
    refine pv_of (lenS_tr hws) ?_
    unfold F63_j9
    refine loop8 (F63_l1_succ _ _) (fun m' x0 x1 x5 x7 x8 x25 x26 x27 w => ∃ (q : Nat) (sm : Bool) (c5 : List Chunk), x0 = ptr b 0 ∧ s = x1 ∧ s5 = x5 ∧ x7 = I (n : Int) ∧ x8 = .bool sm ∧ s = x25 ∧ x26 = I (ws.length : Int) ∧ x27 = I (q : Int) ∧ m' + q = ws.length ∧
      (∀ q' wd, q' < q → ws[q']? = some wd → vb (wordAt S i) (n + 1) wd = true → sm = true) ∧ (∀ q' wd, q' < q → ws[q']? = some wd → bts wd = wordAt S i → n ≠ (wordAt S i).length) ∧
      TS cBool 4 s5 (lev (vb (wordAt S i) (n + 1)) (vb (wordAt S i) n) q ws) c5 ∧
      Hp w0 w (c5 ++ (X ++ ⟨b, .t 102, [.string S, I (i : Int)]⟩ :: Y))) ?_ (m := ws.length) ⟨0, false, c5, rfl, rfl, rfl, rfl, rfl, rfl, rfl, rfl, rfl, fun _ _ h => absurd h (Nat.not_lt_zero _), fun _ _ h => absurd h (Nat.not_lt_zero _), by rw [lev_zero]; exact h5, H⟩
    clear H h5 c5
    rintro m' k2 _ _ _ _ _ _ _ _ w ⟨q, sm, c5, rfl, rfl, rfl, rfl, rfl, rfl, rfl, rfl, hm', hsm, hfd, h5, H⟩ hk2
    unfold F63_b2
    refine lss_k (fun hq => ?_) (fun hq => ?_)
    · simp only [W0]
      have hx : ws[q]? = some ws[q] := List.getElem?_eq_getElem (by omega)
      generalize ws[q] = wd at hx
      have hwd := hw wd (List.mem_of_getElem? hx)
      unfold F63_j10 F63_j12
      refine ix1_t (C := cStr) hws H (by intro c hc; exact List.mem_append_right _ (m1 c hc)) hx rfl rfl ?_
      refine ix1_t (C := cBool) h5.tr H (by intro c hc; exact List.mem_append_left _ hc) (lev_get hx) rfl rfl ?_
      have next : ∀ (sm' : Bool) (c5 : List Chunk) (w : World), (vb (wordAt S i) (n + 1) wd = true → sm' = true) → (sm = true → sm' = true) → (bts wd = wordAt S i → n ≠ (wordAt S i).length) → TS cBool 4 s5 (lev (vb (wordAt S i) (n + 1)) (vb (wordAt S i) n) (q + 1) ws) c5 →
          Hp w0 w (c5 ++ (X ++ ⟨b, .t 102, [.string S, I (i : Int)]⟩ :: Y)) → F63_j11 Q k1 k2 (ptr b 0) s s5 (I (n : Int)) (.bool sm') s (I (ws.length : Int)) (I (q : Int)) w := by
        intro sm' c5 w g1 g2 g3 g4 g5
        unfold F63_j11
        refine add_k (z := ((q + 1 : Nat) : Int)) (by omega) (by omega) (by omega) ?_
        refine hk2 (m' - 1) _ _ _ _ _ _ _ _ _ (by omega) ⟨q + 1, sm', c5, rfl, rfl, rfl, rfl, rfl, rfl, rfl, rfl, by omega, ?_, ?_, g4, g5⟩
        · intro q' wd' hq' hwd' hv
          rcases Nat.lt_or_ge q' q with h | h
          · exact g2 (hsm q' wd' h hwd' hv)
          · obtain rfl : q' = q := by omega
            rw [hx] at hwd'; injection hwd' with hwd'; subst hwd'; exact g1 hv
        · intro q' wd' hq' hwd' hv
          rcases Nat.lt_or_ge q' q with h | h
          · exact hfd q' wd' h hwd' hv
          · obtain rfl : q' = q := by omega
            rw [hx] at hwd'; injection hwd' with hwd'; subst hwd'; exact g3 hv
      cases hv : vb (wordAt S i) n wd with
      | false =>
        try simp only [W0]
        have hv1 : vb (wordAt S i) (n + 1) wd = false := by
          cases h : vb (wordAt S i) (n + 1) wd with
          | false => rfl
          | true => rw [vb_mono h] at hv; cases hv
        refine next sm c5 w (by rw [hv1]; intro h; cases h) (fun h => h) ?_ ?_ H
        · rintro h rfl
          unfold vb at hv
          have hsz : wd.size = (wordAt S i).length := by rw [← h, bts_len]
          rw [decide_eq_true ⟨by omega, by rw [h]⟩] at hv; cases hv
        · rw [lev_same hx (by rw [hv, hv1])]; exact h5
      | true =>
        try simp only [W0]
        unfold F63_j13 F63_j15
        have hnr : n ≤ (wordAt S i).length := by omega
        have hstep := vb_step hv hnr hwd.2
        have hvd := hv
        unfold vb at hvd
        rw [decide_eq_true_eq] at hvd
        refine pv_of (lenStr_mk wd) ?_
        have cont : (bts wd = wordAt S i → n ≠ (wordAt S i).length) → ∀ w, Hp w0 w (c5 ++ (X ++ ⟨b, .t 102, [.string S, I (i : Int)]⟩ :: Y)) → F63_j14 Q k1 k2 (ptr b 0) s s5 (I (n : Int)) (.bool sm) (I (q : Int)) (.string wd) s (I (ws.length : Int)) (I (q : Int)) w := by
          clear H
          intro hne w H
          unfold F63_j14
          refine drew_k H fun w H => ?_
          refine pv_of (lenStr_mk wd) ?_
          have wr : ∀ (v : Bool) (w : World), Hp w0 w (c5 ++ (X ++ ⟨b, .t 102, [.string S, I (i : Int)]⟩ :: Y)) → v = vb (wordAt S i) (n + 1) wd → pv (ixS 1 s5 (I (q : Int))) (fun v31 => st1 v31 (.bool v) fun v32 =>
              gd (.bool sm) false (pv (some s5)) fun v34 => gd (.bool sm) false (pv (some (I (q : Int)))) fun v35 => gd (.bool sm) false (pv (ixS 1 v34 v35)) fun v36 => gd (.bool sm) false (ld1 v36) fun v37 => pv (pickO (.bool sm) (.bool true) v37) fun v38 =>
              F63_j11 Q k1 k2 (ptr b 0) s s5 (I (n : Int)) v38 s (I (ws.length : Int)) (I (q : Int))) w := by
            rintro v w H rfl
            refine ist1_t (x := vb (wordAt S i) (n + 1) wd) h5 H Split.here (by rw [lev_len (by omega)]; omega) rfl rfl fun w c5 H h5 => ?_
            have hgt := h5
            rw [lev_set hx] at h5
            cases sm with
            | true =>
              try simp only [W0]
              exact next true c5 w (fun _ => rfl) (fun h => h) hne h5 H
            | false =>
              try simp only [W0]
              refine ix1_t (C := cBool) hgt.tr H (by intro c hc; exact List.mem_append_left _ hc) (List.getElem?_set_self (by rw [lev_len (by omega)]; omega)) rfl rfl ?_
              try simp only [W0]
              exact next _ c5 w (fun h => h) (fun h => by cases h) hne h5 H
          refine lss_k (fun hl => ?_) (fun hl => ?_)
          · simp only [W0]
            refine ld_m H hasP.app (v := I (i : Int)) rfl ?_
            try simp only [W0]
            refine add_k (z := ((i + n : Nat) : Int)) (by omega) (by omega) (by omega) ?_
            try simp only [W0]
            refine cal_h (fchar_spec H hasP.app) ?_
            rintro _ w ⟨rfl, H⟩
            try simp only [W0]
            refine pv_of (ixStr_chr (by omega)) ?_
            try simp only [W0]
            rw [bin_eql]
            try simp only [W0]
            refine wr _ w H ?_
            rw [hstep, decide_eq_true (show n < wd.size by omega), Bool.true_and]
            exact decide_eq_decide.2 (by omega)
          · simp only [W0]
            refine wr _ w H ?_
            rw [hstep, decide_eq_false (show ¬ n < wd.size by omega), Bool.false_and]
        refine eql_k (fun hl => ?_) (fun hl => ?_)
        · simp only [W0]
          refine ld_m H hasP.app (v := I (i : Int)) rfl ?_
          try simp only [W0]
          refine add_k (z := ((i + n : Nat) : Int)) (by omega) (by omega) (by omega) ?_
          try simp only [W0]
          refine cal_h (fends_spec H hasP.app) ?_
          rintro _ w ⟨rfl, H⟩
          rw [ends_run hnr]
          by_cases he : n = (wordAt S i).length
          · rw [decide_eq_true he]
            try simp only [W0]
            refine ld_m H hasP.app (v := I (i : Int)) rfl ?_
            refine add_k (z := ((i + n : Nat) : Int)) (by omega) (by omega) (by omega) ?_
            try simp only [W0]
            refine st_m H (updP.app) (by simp) rfl fun w H => ?_
            have hbw : bts wd = wordAt S i := by
              have := hvd.2
              rw [List.take_of_length_le (by rw [bts_len]; omega), List.take_of_length_le (by omega)] at this
              exact this
            have hqk : q = k' := by
              rcases Nat.lt_trichotomy q k' with h | h | h
              · exfalso
                have := hk3 q h
                obtain ⟨h1, h2⟩ := List.getElem?_eq_some_iff.1 hx
                rw [h2, hbw] at this; simp at this
              · exact h
              · exact absurd he (hfd k' _ h (List.getElem?_eq_getElem hk1') hrun)
            subst hqk
            subst he
            subst hQ
            exact ⟨rfl, H.right⟩
          · rw [decide_eq_false he]
            try simp only [W0]
            exact cont (fun _ => he) w H
        · simp only [W0]
          refine cont ?_ w H
          rintro h rfl
          rw [← bts_len, h] at hl; exact hl rfl
    · simp only [W0]
      have hq' : q = ws.length := by omega
      have hne := hfd k' _ (by omega) (List.getElem?_eq_getElem hk1') hrun
      have hs1 : sm = true := by
        refine hsm k' _ (by omega) (List.getElem?_eq_getElem hk1') ?_
        unfold vb
        rw [decide_eq_true_eq]
        refine ⟨?_, by rw [hrun]⟩
        rw [← bts_len, hrun]; omega
      subst hs1
      unfold F63_j5
      try simp only [W0]
      unfold F63_j6
      try simp only [W0]
      unfold F63_j3
      refine add_k (z := ((n + 1 : Nat) : Int)) (by omega) (by omega) (by omega) ?_
      rw [lev_all (by omega)] at h5
      exact hk1 (m - 1) _ _ _ _ _ (by omega) ⟨n + 1, c5, rfl, rfl, rfl, rfl, by omega, h5, H⟩
end
end Go.Proofs.Ytmmbepdghpjgeaa.Den
end

section
set_option linter.unusedVariables false
set_option linter.unusedSimpArgs false
set_option maxRecDepth 8000
set_option maxHeartbeats 1000000
namespace Go.Proofs.Ytmmbepdghpjgeaa.Den
open Go Go.RowKit
theorem elStr : ElT 104 9 cStr.sz 16 [.string ⟨⟨[]⟩⟩] := ⟨by kernel_rfl, by kernel_rfl, rfl⟩
theorem wPort_ok : wPort.size ≤ 1000 ∧ ∀ x ∈ bts wPort, x ≠ 32 ∧ x ≠ 10 := ⟨by decide, by intro x hx; have : bts wPort = [112, 111, 114, 116] := rfl; rw [this] at hx; simp at hx; rcases hx with rfl | rfl | rfl | rfl <;> decide⟩
section
variable {α : Type} {C : Cod α} {xs : List α} {w0 : World} {cs : List Chunk} {s : Value} {el lo : Nat}
theorem TS.tag (h : TS C el s xs cs) : ∀ c ∈ cs, c.t = .t el := by
  rcases h with ⟨rfl, _⟩ | ⟨b, cap, rest, rfl, rfl, _⟩
  · intro c hc; cases hc
  · intro c hc; rw [List.mem_singleton.1 hc]
theorem slRfrom_t (hz : 0 < C.sz) (h : TR C w0 cs s xs) (h1 : lo ≤ xs.length) : ∃ s', slS C.sz s (some (I (lo : Int))) none = some s' ∧ TR C w0 cs s' (xs.drop lo) := by
  obtain ⟨s', h3, h4⟩ := slR_t hz h h1 (Nat.le_refl _)
  rw [List.take_of_length_le (by simp)] at h4
  refine ⟨s', ?_, h4⟩
  rw [← h3]
  have key : ∀ (a : Option Addr) (n c : Nat), n ≤ c → slS C.sz (.slice a n c) (some (I (lo : Int))) none = slS C.sz (.slice a n c) (some (I (lo : Int))) (some (I (n : Int))) := by
    intro a n c hc
    have e : (n : Int) ≤ (c : Int) := by omega
    simp [slS, boundO, e]
  rcases h with (⟨c, rfl, h0, _⟩ | ⟨a, c, rfl, hc, _⟩) | ⟨b, o, c, e, l, rfl, hc, _⟩
  · have h00 : xs.length = 0 := by
      rcases Nat.mul_eq_zero.1 h0 with h | h
      · exact h
      · omega
    rw [h00]; exact key _ _ _ (Nat.zero_le _)
  · exact key _ _ _ hc
  · exact key _ _ _ hc
end
section
variable {w w' w0 : World} {L L' F cs A X Y : List Chunk} {s : Value} {K : VK} {R : ER} {b i j at' : Nat} {S : ByteArray}
theorem mem_par {t : Nat} {l l' : List Value} (m : ∀ c ∈ cs, c ∈ X ++ ⟨b, .t t, l⟩ :: Y) (mt : ∀ c ∈ cs, c.t ≠ .t t) : ∀ c ∈ cs, c ∈ X ++ ⟨b, .t t, l'⟩ :: Y := by
  intro c hc
  have h1 := m c hc
  have h2 := mt c hc
  simp only [List.mem_append, List.mem_cons] at h1 ⊢
  rcases h1 with h | h | h
  · exact .inl h
  · subst h; exact absurd rfl h2
  · exact .inr (.inr h)
theorem more_le {m : Bool} (h : moreP S i = some (m, j)) (hi : i ≤ S.size) : j ≤ S.size ∧ i ≤ j := by
  unfold moreP at h
  split at h
  · injection h with h
    obtain ⟨rfl, rfl⟩ := Prod.mk.inj h; exact ⟨hi, Nat.le_refl _⟩
  · cases hs : signP S i 32 with
    | none => rw [hs] at h; cases h
    | some j' =>
      rw [hs] at h
      injection h with h
      obtain ⟨rfl, rfl⟩ := Prod.mk.inj h
      have := sign_le hs (by decide); omega
theorem choose_le {ws : List ByteArray} {k : Nat} (h : chooseP S i ws = some (k, j)) (hi : i ≤ S.size) : j ≤ S.size ∧ k < ws.length := by
  unfold chooseP at h
  rw [Option.map_eq_some_iff] at h
  obtain ⟨k', hk, hn⟩ := h
  obtain ⟨rfl, rfl⟩ := Prod.mk.inj hn
  rw [List.findIdx?_eq_some_iff_getElem] at hk
  obtain ⟨hk1, _⟩ := hk
  refine ⟨?_, hk1⟩
  rcases Nat.eq_zero_or_pos (wordAt S i).length with h | h
  · omega
  · have := (run_at (S := S) (i := i) (n := (wordAt S i).length - 1) (by omega)).2.2; omega
theorem ports_le {r : Rng} (hn : portsP S i = some (r, j)) (hi : i ≤ S.size) : j ≤ S.size := by
  unfold portsP at hn
  simp only [Option.bind_eq_bind, Option.bind_eq_some_iff] at hn
  obtain ⟨i1, h1, ⟨l, i2⟩, h2, i3, h3, ⟨h, i4⟩, h4, h5⟩ := hn
  simp only at h2 h3 h4 h5
  split at h5
  · injection h5 with h5
    obtain ⟨rfl, rfl⟩ := Prod.mk.inj h5
    exact (num_le h4 (sign_le h3 (by decide)).2).1
  · cases h5
theorem pat_le {p : Pat} (hn : patP S i = some (p, j)) (hi : i ≤ S.size) : j ≤ S.size := by
  unfold patP at hn
  simp only [Option.bind_eq_bind, Option.bind_eq_some_iff] at hn
  obtain ⟨⟨a1, i1⟩, h1, i2, h2, ⟨a2, i3⟩, h3, i4, h4, ⟨a3, i5⟩, h5, i6, h6, ⟨a4, i7⟩, h7, i8, h8, ⟨nb, i9⟩, h9, h10⟩ := hn
  simp only at h8 h9 h10
  split at h10
  · injection h10 with h10
    obtain ⟨rfl, rfl⟩ := Prod.mk.inj h10
    exact (num_le h9 (sign_le h8 (by decide)).2).1
  · cases h10
def tailP (S : ByteArray) (next : List ByteArray) (a : Pat) (i : Nat) : Option (Pat × Rng × Int × Nat) := do
  let (r, i) ← portsP S i
  let (m, i) ← moreP S i
  if m then
    let (k, i) ← chooseP S i next
    some (a, r, (k : Int), i)
  else some (a, r, -1, i)
theorem tail_le {next : List ByteArray} {a a' : Pat} {r : Rng} {k : Int} (h : tailP S next a i = some (a', r, k, j)) (hi : i ≤ S.size) : j ≤ S.size := by
  unfold tailP at h
  simp only [Option.bind_eq_bind, Option.bind_eq_some_iff] at h
  obtain ⟨⟨r', i1⟩, h1, ⟨m, i2⟩, h2, h3⟩ := h
  simp only at h2 h3
  have q1 := ports_le h1 hi
  have q2 := more_le h2 q1
  cases m with
  | false =>
    simp only [Bool.false_eq_true, if_false, Option.some.injEq, Prod.mk.injEq] at h3
    obtain ⟨rfl, rfl, rfl, rfl⟩ := h3; exact q2.1
  | true =>
    simp only [if_true, Option.bind_eq_some_iff, Option.some.injEq, Prod.mk.injEq] at h3
    obtain ⟨⟨k', i3⟩, h4, rfl, rfl, rfl, rfl⟩ := h3
    exact (choose_le h4 q2.1).1
theorem tail_spec {Q : ER} {nxt : List ByteArray} {a a' : Pat} {r : Rng} {k : Int} {x4 x5 : Nat} (hws : TR cStr w0 cs s nxt) (m1 : ∀ c ∈ cs, c ∈ X ++ ⟨b, .t 102, [.string S, I (i : Int)]⟩ :: Y) (mt : ∀ c ∈ cs, c.t ≠ .t 102)
    (H : Hp w0 w (⟨x5, .t 27, [I 0, I 65535]⟩ :: ⟨x4, .t 25, a.enc⟩ :: (X ++ ⟨b, .t 102, [.string S, I (i : Int)]⟩ :: Y))) (hn : tailP S nxt a i = some (a', r, k, j))
    (hw : ∀ wd ∈ nxt, wd.size ≤ 1000 ∧ ∀ x ∈ bts wd, x ≠ 32 ∧ x ≠ 10) (hwl : nxt.length ≤ 1000) (hS : S.size ≤ 1000) (hi : i ≤ S.size)
    (g : ∀ w', Hp w0 w' (X ++ ⟨b, .t 102, [.string S, I (j : Int)]⟩ :: Y) → Q (.returned (.tuple ⟨[.agg ⟨a'.enc⟩, .agg ⟨[I r.low, I r.high]⟩, I k]⟩)) w') :
    F85_j1 Q (ptr b 0) s (ptr x4 0) (ptr x5 0) w := by
  unfold tailP at hn
  simp only [Option.bind_eq_bind, Option.bind_eq_some_iff] at hn
  obtain ⟨⟨r', i1⟩, h1, ⟨m, i2⟩, h2, h3⟩ := hn
  simp only at h2 h3
  have q1 := ports_le h1 hi
  have q2 := more_le h2 q1
  unfold F85_j1
  refine cal_h (fports_spec H updP.cons.cons h1 hS hi) ?_
  rintro _ w ⟨rfl, H⟩
  simp only [W0]
  refine stA_a fun w H => ?_
  refine cal_h (fmore_spec H updP.cons.cons h2 (by omega)) ?_
  rintro _ w ⟨rfl, H⟩
  simp only [W0]
  cases m with
  | false =>
    simp only [Bool.false_eq_true, if_false, Option.some.injEq, Prod.mk.injEq] at h3
    obtain ⟨rfl, rfl, rfl, rfl⟩ := h3
    simp only [W0]
    refine drew_k H fun w H => ?_
    unfold Pat.enc at H
    refine ldA_a ?_
    refine ldA_a ?_
    try simp only [W0]
    refine stA_a fun w H => ?_
    refine rdA_s ?_
    try simp only [W0]
    refine stA_a fun w H => ?_
    refine ldA_a ?_
    refine ldA_a ?_
    exact g w H.tail.tail
  | true =>
    simp only [if_true, Option.bind_eq_some_iff, Option.some.injEq, Prod.mk.injEq] at h3
    obtain ⟨⟨k', i3⟩, h4, rfl, rfl, rfl, rfl⟩ := h3
    simp only [W0]
    refine drew_k H fun w H => ?_
    unfold Pat.enc at H
    refine ldA_a ?_
    refine ldA_a ?_
    try simp only [W0]
    refine cal_h (fchoose_spec hws (fun c hc => List.mem_cons_of_mem _ (List.mem_cons_of_mem _ (mem_par m1 mt c hc))) H updP.cons.cons h4 hw hwl hS q2.1) ?_
    rintro _ w ⟨rfl, H⟩
    simp only [W0]
    refine rdA_s ?_
    refine rdA_s ?_
    try simp only [W0]
    refine stA_a fun w H => ?_
    refine rdA_s ?_
    try simp only [W0]
    refine stA_a fun w H => ?_
    refine ldA_a ?_
    refine ldA_a ?_
    exact g w H.tail.tail
theorem fside_spec {nxt : List ByteArray} {a : Pat} {r : Rng} {k : Int} (hws : TR cStr w0 cs s nxt) (m1 : ∀ c ∈ cs, c ∈ L) (mt : ∀ c ∈ cs, c.t ≠ .t 102)
    (H : Hp w0 w L) (hu : Upd L b (.t 102) [.string S, I (i : Int)] (.t 102) [.string S, I (j : Int)] L') (hn : sideP S i nxt = some (a, r, k, j))
    (hw : ∀ wd ∈ nxt, wd.size ≤ 1000 ∧ ∀ x ∈ bts wd, x ≠ 32 ∧ x ≠ 10) (hwl : nxt.length ≤ 900) (hS : S.size ≤ 1000) (hi : i ≤ S.size) :
    Calls Pg 85 ⟨[ptr b 0, s]⟩ w fun e w' => e = .returned (.tuple ⟨[.agg ⟨a.enc⟩, .agg ⟨[I r.low, I r.high]⟩, I k]⟩) ∧ Hp w0 w' L' := by
  obtain ⟨X, Y, rfl, rfl⟩ := hu
  unfold sideP at hn
  simp only [Option.bind_eq_bind, Option.bind_eq_some_iff] at hn
  obtain ⟨i1, h1, h2⟩ := hn
  have q1 := sign_le h1 (by decide)
  have hti : ∀ (a : Pat) (i : Nat), ((portsP S i).bind fun __discr => (moreP S __discr.2).bind fun __discr_1 => if __discr_1.1 = true then (chooseP S __discr_1.2 nxt).bind fun __discr_2 => some (a, __discr.1, (__discr_2.1 : Int), __discr_2.2) else some (a, __discr.1, -1, __discr_1.2)) = tailP S nxt a i := fun _ _ => rfl
  simp only [hti] at h2
  generalize hQ : (fun (e : Ending) (w' : World) => e = .returned (.tuple ⟨[.agg ⟨a.enc⟩, .agg ⟨[I r.low, I r.high]⟩, I k]⟩) ∧ Hp w0 w' (X ++ ⟨b, .t 102, [.string S, I (j : Int)]⟩ :: Y) : ER) = Q
  apply F85_calls
  unfold F85
  refine al_m (ys := [U32 0, I 0, .bool false]) H (by kernel_rfl) fun w x4 H => ?_
  refine al_m (ys := [I 0, I 0]) H (by kernel_rfl) fun w x5 H => ?_
  refine bld_a ?_
  refine stA_a fun w H => ?_
  refine cal_h (fsign_spec (c := 32) H updP.cons.cons h1 (by omega)) ?_
  rintro _ w ⟨rfl, H⟩
  simp only [W0]
  unfold F85_j2
  simp only [W0]
  refine ld_m H hasP.cons.cons (v := I (i1 : Int)) rfl ?_
  refine cal_h (fchar_spec H hasP.cons.cons) ?_
  rintro _ w ⟨rfl, H⟩
  simp only [W0]
  have m2 : ∀ (i2 : Nat), ∀ c ∈ cs, c ∈ X ++ ⟨b, .t 102, [.string S, I (i2 : Int)]⟩ :: Y := fun i2 => mem_par m1 mt
  have hwp : ∀ wd ∈ wPort :: nxt, wd.size ≤ 1000 ∧ ∀ x ∈ bts wd, x ≠ 32 ∧ x ≠ 10 := by
    intro wd hwd
    rcases List.mem_cons.1 hwd with rfl | hwd
    · exact wPort_ok
    · exact hw wd hwd
  have yes : (chr S i1 = 33 ∨ isDig (chr S i1) = true) → F85_j3 Q (ptr b 0) s (ptr x4 0) (ptr x5 0) (.bool true) w := by
    intro hc
    rw [if_pos hc] at h2
    simp only [Option.bind_eq_some_iff] at h2
    obtain ⟨⟨a', i2⟩, h3, ⟨m, i3⟩, h4, h5⟩ := h2
    simp only at h4 h5
    have q2 := pat_le h3 q1.2
    have q3 := more_le h4 q2
    unfold F85_j3
    simp only [W0]
    unfold F85_j4
    refine cal_h (fpattern_spec H updP.cons.cons h3 hS q1.2) ?_
    rintro _ w ⟨rfl, H⟩
    simp only [W0]
    unfold Pat.enc
    refine stA_a fun w H => ?_
    refine cal_h (fmore_spec H updP.cons.cons h4 (by omega)) ?_
    rintro _ w ⟨rfl, H⟩
    simp only [W0]
    cases m with
    | false =>
      simp only [Bool.false_eq_true, if_false, Option.some.injEq, Prod.mk.injEq] at h5
      obtain ⟨rfl, rfl, rfl, rfl⟩ := h5
      simp only [W0]
      refine drew_k H fun w H => ?_
      refine ldA_a ?_
      refine ldA_a ?_
      try simp only [W0]
      refine stA_a fun w H => ?_
      refine rdA_s ?_
      try simp only [W0]
      refine stA_a fun w H => ?_
      refine ldA_a ?_
      refine ldA_a ?_
      subst hQ
      exact ⟨rfl, H.tail.tail⟩
    | true =>
      simp only [if_true, Option.bind_eq_some_iff] at h5
      obtain ⟨⟨k', i4⟩, h6, h7⟩ := h5
      simp only at h7
      have q4 := choose_le h6 q3.1
      have q4l : k' ≤ nxt.length := by have := q4.2; rw [List.length_cons] at this; omega
      simp only [W0]
      unfold F85_j5
      refine lit1_t (C := cStr) (x := wPort) elStr H rfl (by decide) fun w s6 c6 H h6s => ?_
      refine append_t (F := ⟨x5, .t 27, [I 0, I 65535]⟩ :: ⟨x4, .t 25, [U32 a'.adr, I a'.bits, .bool a'.no]⟩ :: (X ++ ⟨b, .t 102, [.string S, I (i3 : Int)]⟩ :: Y)) elStr H h6s Split.here hws (fun c hc => List.mem_append_right _ (List.mem_cons_of_mem _ (List.mem_cons_of_mem _ (m2 i3 c hc)))) (by simp; omega) (by simp; omega) fun w s7 c7 H h7s => ?_
      refine cal_h (fchoose_spec (ws := wPort :: nxt) h7s.tr (fun c hc => List.mem_append_left _ hc) H updP.cons.cons.app h6 hwp (by simp; omega) hS q3.1) ?_
      rintro _ w ⟨rfl, H⟩
      replace H := H.right
      simp only [W0]
      refine gtr_k (fun h0 => ?_) (fun h0 => ?_)
      · rw [if_pos (by omega)] at h7
        simp only [Option.some.injEq, Prod.mk.injEq] at h7
        obtain ⟨rfl, rfl, rfl, rfl⟩ := h7
        simp only [W0]
        refine drew_k H fun w H => ?_
        refine ldA_a ?_
        refine ldA_a ?_
        refine sub_k (by omega) (by omega) rfl ?_
        try simp only [W0]
        refine stA_a fun w H => ?_
        refine rdA_s ?_
        try simp only [W0]
        refine stA_a fun w H => ?_
        refine ldA_a ?_
        refine ldA_a ?_
        subst hQ
        exact ⟨rfl, H.tail.tail⟩
      · rw [if_neg (by omega)] at h7
        simp only [W0]
        refine tail_spec (a := a') hws (m2 i4) mt H h7 hw (by omega) hS q4.1 fun w' H' => ?_
        subst hQ
        exact ⟨rfl, H'⟩
  have noo : ¬ (chr S i1 = 33 ∨ isDig (chr S i1) = true) → F85_j3 Q (ptr b 0) s (ptr x4 0) (ptr x5 0) (.bool false) w := by
    intro hc
    rw [if_neg hc] at h2
    simp only [Option.bind_eq_some_iff] at h2
    obtain ⟨⟨k', i2⟩, h3, h4⟩ := h2
    simp only at h4
    have q2 := choose_le h3 q1.2
    unfold F85_j3
    simp only [W0]
    refine lit1_t (C := cStr) (x := wPort) elStr H rfl (by decide) fun w s6 c6 H h6s => ?_
    refine cal_h (fchoose_spec (ws := [wPort]) h6s.tr (fun c hc => List.mem_append_left _ hc) H updP.cons.cons.app h3 (by intro wd hwd; rw [List.mem_singleton.1 hwd]; exact wPort_ok) (by decide) hS q1.2) ?_
    rintro _ w ⟨rfl, H⟩
    replace H := H.right
    simp only [W0]
    refine tail_spec (a := ⟨0, 0, false⟩) hws (m2 i2) mt H h4 hw (by omega) hS q2.1 fun w' H' => ?_
    subst hQ
    exact ⟨rfl, H'⟩
  have hdg : isDig (chr S i1) = (decide (48 ≤ chr S i1) && decide (chr S i1 ≤ 57)) := rfl
  refine eql_k (fun h0 => ?_) (fun h0 => ?_)
  · try simp only [W0]
    exact yes (.inl (by omega))
  · try simp only [W0]
    refine geq_k (fun h3 => ?_) (fun h3 => ?_)
    · try simp only [W0]
      refine leq_k (fun h4 => ?_) (fun h4 => ?_)
      · try simp only [W0]
        exact yes (.inr (by rw [hdg, decide_eq_true (by omega), decide_eq_true (by omega)]; rfl))
      · try simp only [W0]
        exact noo (by rintro (h | h); omega; rw [hdg] at h; simp at h; omega)
    · try simp only [W0]
      exact noo (by rintro (h | h); omega; rw [hdg] at h; simp at h; omega)
end
end Go.Proofs.Ytmmbepdghpjgeaa.Den
end

section
set_option linter.unusedVariables false
set_option linter.unusedSimpArgs false
set_option maxRecDepth 8000
set_option maxHeartbeats 1000000
namespace Go.Proofs.Ytmmbepdghpjgeaa.Den
open Go Go.RowKit
theorem bts_inj {a b : ByteArray} (h : bts a = bts b) : a = b := by
  have h1 : a.data.toList = b.data.toList := by
    refine List.map_inj_right (f := UInt8.toNat) (fun x y e => UInt8.toNat_inj.1 e) |>.1 h
  have h2 : a.data = b.data := Array.toList_inj.1 h1
  cases a; cases b; simp at h2; rw [h2]
theorem str_beq (a b : ByteArray) : (a.toList == b.toList) = decide (bts a = bts b) := by
  rw [ByteArray.toList_eq, ByteArray.toList_eq, Bool.eq_iff_iff]
  simp only [beq_iff_eq, decide_eq_true_eq]
  exact ⟨fun h => by unfold bts; rw [h], fun h => by rw [bts_inj h]⟩
theorem binS_n {a b : ByteArray} (h : decide (bts a = bts b) = false := by decide) : binS .eql (.string a) (.string b) = some (.bool false) := by
  show some (Value.bool (a.toList == b.toList)) = _; rw [str_beq, h]
theorem binS_y {a b : ByteArray} (h : decide (bts a = bts b) = true := by decide) : binS .eql (.string a) (.string b) = some (.bool true) := by
  show some (Value.bool (a.toList == b.toList)) = _; rw [str_beq, h]
theorem ruleWords_ok : ∀ wd ∈ ruleWords, wd.size ≤ 1000 ∧ ∀ x ∈ bts wd, x ≠ 32 ∧ x ≠ 10 := by
  have : ruleWords.all (fun wd => decide (wd.size ≤ 1000) && (bts wd).all (fun x => decide (x ≠ 32) && decide (x ≠ 10))) = true := by decide
  intro wd hwd
  have h := List.all_eq_true.1 this wd hwd
  rw [Bool.and_eq_true, decide_eq_true_eq] at h
  refine ⟨h.1, fun x hx => ?_⟩
  have := List.all_eq_true.1 h.2 x hx
  simpa using this
theorem drop_ok (n : Nat) : ∀ wd ∈ ruleWords.drop n, wd.size ≤ 1000 ∧ ∀ x ∈ bts wd, x ≠ 32 ∧ x ≠ 10 := fun wd h => ruleWords_ok wd (List.mem_of_mem_drop h)
section
variable {w w' w0 : World} {L L' F cs A X Y : List Chunk} {s : Value} {K : VK} {R : ER} {b i j at' : Nat} {S : ByteArray}
theorem part_end {Q : ER} {k : Nat} {x9 : Int} (hk : k ≤ 8) (h9 : -1 ≤ x9) (h10 : x9 ≤ 100) (g : Q (.returned (I (if 0 ≤ x9 then (k : Int) + 1 + x9 else -1))) w) : F65_j1 Q (I (k : Int)) (I x9) w := by
  unfold F65_j1
  refine geq_k (fun h => ?_) (fun h => ?_)
  · simp only [W0]
    rw [if_pos h] at g
    refine add_k (by omega) (by omega) rfl ?_
    exact add_k (by omega) (by omega) rfl g
  · simp only [W0]
    rw [if_neg (by omega)] at g
    exact g
theorem side_le {nxt : List ByteArray} {a : Pat} {r : Rng} {k : Int} (hn : sideP S i nxt = some (a, r, k, j)) (hi : i ≤ S.size) : j ≤ S.size ∧ -1 ≤ k ∧ k < nxt.length := by
  unfold sideP at hn
  simp only [Option.bind_eq_bind, Option.bind_eq_some_iff] at hn
  obtain ⟨i1, h1, h2⟩ := hn
  have q1 := sign_le h1 (by decide)
  have hti : ∀ (a : Pat) (i : Nat), ((portsP S i).bind fun __discr => (moreP S __discr.2).bind fun __discr_1 => if __discr_1.1 = true then (chooseP S __discr_1.2 nxt).bind fun __discr_2 => some (a, __discr.1, (__discr_2.1 : Int), __discr_2.2) else some (a, __discr.1, -1, __discr_1.2)) = tailP S nxt a i := fun _ _ => rfl
  simp only [hti] at h2
  have tk : ∀ {a a' : Pat} {r : Rng} {k : Int} {i j : Nat}, tailP S nxt a i = some (a', r, k, j) → i ≤ S.size → j ≤ S.size ∧ -1 ≤ k ∧ k < nxt.length := by
    intro a a' r k i j h hi
    refine ⟨tail_le h hi, ?_⟩
    unfold tailP at h
    simp only [Option.bind_eq_bind, Option.bind_eq_some_iff] at h
    obtain ⟨⟨r', i1⟩, h1, ⟨m, i2⟩, h2, h3⟩ := h
    simp only at h2 h3
    have q1 := ports_le h1 hi
    have q2 := more_le h2 q1
    cases m with
    | false =>
      simp only [Bool.false_eq_true, if_false, Option.some.injEq, Prod.mk.injEq] at h3
      obtain ⟨rfl, rfl, rfl, rfl⟩ := h3; omega
    | true =>
      simp only [if_true, Option.bind_eq_some_iff, Option.some.injEq, Prod.mk.injEq] at h3
      obtain ⟨⟨k', i3⟩, h4, rfl, rfl, rfl, rfl⟩ := h3
      have := (choose_le h4 q2.1).2
      simp only; omega
  split at h2
  · simp only [Option.bind_eq_some_iff] at h2
    obtain ⟨⟨a', i2⟩, h3, ⟨m, i3⟩, h4, h5⟩ := h2
    simp only at h4 h5
    have q2 := pat_le h3 q1.2
    have q3 := more_le h4 q2
    cases m with
    | false =>
      simp only [Bool.false_eq_true, if_false, Option.some.injEq, Prod.mk.injEq] at h5
      obtain ⟨rfl, rfl, rfl, rfl⟩ := h5; omega
    | true =>
      simp only [if_true, Option.bind_eq_some_iff] at h5
      obtain ⟨⟨k', i4⟩, h6, h7⟩ := h5
      simp only at h7
      have q4 := choose_le h6 q3.1
      have q5 := q4.2
      rw [List.length_cons] at q5
      split at h7
      · simp only [Option.some.injEq, Prod.mk.injEq] at h7
        obtain ⟨rfl, rfl, rfl, rfl⟩ := h7; omega
      · exact tk h7 q4.1
  · simp only [Option.bind_eq_some_iff] at h2
    obtain ⟨⟨k', i2⟩, h3, h4⟩ := h2
    exact tk h4 (choose_le h3 q1.2).1
theorem count_le {n : Nat} (hn : countP S i = some (n, j)) : j ≤ S.size := by
  unfold countP at hn
  simp only [Option.bind_eq_bind, Option.bind_eq_some_iff] at hn
  obtain ⟨i1, h1, ⟨n', i2⟩, h2, h3⟩ := hn
  simp only at h3
  split at h3
  · injection h3 with h3
    obtain ⟨rfl, rfl⟩ := Prod.mk.inj h3
    exact (num_le h2 (sign_le h1 (by decide)).2).1
  · cases h3
theorem fpart_spec {r r' : Rul} {nx : Int} {k rb : Nat} (hws : TR cStr w0 cs s ruleWords) (m1 : ∀ c ∈ cs, c ∈ L) (mt : ∀ c ∈ cs, c.t ≠ .t 102)
    (H : Hp w0 w (⟨rb, .t 29, r.enc⟩ :: L)) (hu : Upd L b (.t 102) [.string S, I (i : Int)] (.t 102) [.string S, I (j : Int)] L') (hn : partP S i r k = some (r', nx, j))
    (hk : k < 8) (hS : S.size ≤ 1000) (hi : i ≤ S.size) :
    Calls Pg 65 ⟨[ptr b 0, ptr rb 0, s, I (k : Int)]⟩ w fun e w' => e = .returned (I nx) ∧ Hp w0 w' (⟨rb, .t 29, r'.enc⟩ :: L') := by
  obtain ⟨X, Y, rfl, rfl⟩ := hu
  have M1 : ∀ c ∈ cs, c ∈ (⟨rb, .t 29, r.enc⟩ : Chunk) :: (X ++ ⟨b, .t 102, [.string S, I (i : Int)]⟩ :: Y) := fun c hc => List.mem_cons_of_mem _ (m1 c hc)
  apply F65_calls
  unfold F65 F65_j2
  have hkc : k = 0 ∨ k = 1 ∨ k = 2 ∨ k = 3 ∨ k = 4 ∨ k = 5 ∨ k = 6 ∨ k = 7 := by omega
  rcases hkc with rfl | rfl | rfl | rfl | rfl | rfl | rfl | rfl
  · simp only [partP, Option.some.injEq, Prod.mk.injEq] at hn
    obtain ⟨rfl, rfl, rfl⟩ := hn
    refine ix1_t (C := cStr) hws H M1 (i := 0) rfl rfl rfl ?_
    repeat (first | refine pv_of (binS_n) ?_ | refine pv_of (binS_y) ?_ | simp only [W0] | unfold F65_j3 | unfold F65_j4 | unfold F65_j5 | unfold F65_j6 | unfold F65_j7 | unfold F65_j8 | unfold F65_j9 | unfold F65_j10 | unfold F65_j11 | unfold F65_j12 | unfold F65_j13 | unfold F65_j14 | unfold F65_j16 | unfold F65_j17)
    unfold Rul.enc at H
    refine st_a fun w H => ?_
    simp only [List.set_cons_zero, List.set_cons_succ] at H
    exact part_end (k := 0) (by decide) (by decide) (by decide) ⟨rfl, H⟩
  · simp only [partP, Option.some.injEq, Prod.mk.injEq] at hn
    obtain ⟨rfl, rfl, rfl⟩ := hn
    refine ix1_t (C := cStr) hws H M1 (i := 1) rfl rfl rfl ?_
    repeat (first | refine pv_of (binS_n) ?_ | refine pv_of (binS_y) ?_ | simp only [W0] | unfold F65_j3 | unfold F65_j4 | unfold F65_j5 | unfold F65_j6 | unfold F65_j7 | unfold F65_j8 | unfold F65_j9 | unfold F65_j10 | unfold F65_j11 | unfold F65_j12 | unfold F65_j13 | unfold F65_j14 | unfold F65_j16 | unfold F65_j17)
    unfold Rul.enc at H
    refine st_a fun w H => ?_
    simp only [List.set_cons_zero, List.set_cons_succ] at H
    exact part_end (k := 1) (by decide) (by decide) (by decide) ⟨rfl, H⟩
  · simp only [partP, Option.some.injEq, Prod.mk.injEq] at hn
    obtain ⟨rfl, rfl, rfl⟩ := hn
    refine ix1_t (C := cStr) hws H M1 (i := 2) rfl rfl rfl ?_
    repeat (first | refine pv_of (binS_n) ?_ | refine pv_of (binS_y) ?_ | simp only [W0] | unfold F65_j3 | unfold F65_j4 | unfold F65_j5 | unfold F65_j6 | unfold F65_j7 | unfold F65_j8 | unfold F65_j9 | unfold F65_j10 | unfold F65_j11 | unfold F65_j12 | unfold F65_j13 | unfold F65_j14 | unfold F65_j16 | unfold F65_j17)
    unfold Rul.enc at H
    refine st_a fun w H => ?_
    simp only [List.set_cons_zero, List.set_cons_succ] at H
    exact part_end (k := 2) (by decide) (by decide) (by decide) ⟨rfl, H⟩
  · simp only [partP, Option.map_eq_some_iff] at hn
    obtain ⟨⟨n, j'⟩, hc, hn⟩ := hn
    simp only [Prod.mk.injEq] at hn
    obtain ⟨rfl, rfl, rfl⟩ := hn
    refine ix1_t (C := cStr) hws H M1 (i := 3) rfl rfl rfl ?_
    repeat (first | refine pv_of (binS_n) ?_ | refine pv_of (binS_y) ?_ | simp only [W0] | unfold F65_j3 | unfold F65_j4 | unfold F65_j5 | unfold F65_j6 | unfold F65_j7 | unfold F65_j8 | unfold F65_j9 | unfold F65_j10 | unfold F65_j11 | unfold F65_j12 | unfold F65_j13 | unfold F65_j14 | unfold F65_j16 | unfold F65_j17)
    refine cal_h (fcounted_spec H updP.cons hc hS hi) ?_
    rintro _ w ⟨rfl, H⟩
    simp only [W0]
    unfold Rul.enc at H
    refine st_a fun w H => ?_
    simp only [List.set_cons_zero, List.set_cons_succ] at H
    exact part_end (k := 3) (by decide) (by decide) (by decide) ⟨rfl, H⟩
  · simp only [partP, Option.map_eq_some_iff] at hn
    obtain ⟨⟨n, j'⟩, hc, hn⟩ := hn
    simp only [Prod.mk.injEq] at hn
    obtain ⟨rfl, rfl, rfl⟩ := hn
    refine ix1_t (C := cStr) hws H M1 (i := 4) rfl rfl rfl ?_
    repeat (first | refine pv_of (binS_n) ?_ | refine pv_of (binS_y) ?_ | simp only [W0] | unfold F65_j3 | unfold F65_j4 | unfold F65_j5 | unfold F65_j6 | unfold F65_j7 | unfold F65_j8 | unfold F65_j9 | unfold F65_j10 | unfold F65_j11 | unfold F65_j12 | unfold F65_j13 | unfold F65_j14 | unfold F65_j16 | unfold F65_j17)
    refine cal_h (fcounted_spec H updP.cons hc hS hi) ?_
    rintro _ w ⟨rfl, H⟩
    simp only [W0]
    unfold Rul.enc at H
    refine st_a fun w H => ?_
    simp only [List.set_cons_zero, List.set_cons_succ] at H
    exact part_end (k := 4) (by decide) (by decide) (by decide) ⟨rfl, H⟩
  · simp only [partP, Option.map_eq_some_iff] at hn
    obtain ⟨⟨a, rg, kk, j'⟩, hc, hn⟩ := hn
    simp only [Prod.mk.injEq] at hn
    obtain ⟨rfl, rfl, rfl⟩ := hn
    have hkk := side_le hc hi
    have hlen : (ruleWords.drop 6).length ≤ 8 := by decide
    refine ix1_t (C := cStr) hws H M1 (i := 5) rfl rfl rfl ?_
    repeat (first | refine pv_of (binS_n) ?_ | refine pv_of (binS_y) ?_ | simp only [W0] | unfold F65_j3 | unfold F65_j4 | unfold F65_j5 | unfold F65_j6 | unfold F65_j7 | unfold F65_j8 | unfold F65_j9 | unfold F65_j10 | unfold F65_j11 | unfold F65_j12 | unfold F65_j13 | unfold F65_j14 | unfold F65_j16 | unfold F65_j17)
    first | unfold F65_j15 | unfold F65_j18
    refine add_k (z := ((6 : Nat) : Int)) (by decide) (by decide) (by decide) ?_
    obtain ⟨s2, hs2, hr2⟩ := slRfrom_t (C := cStr) (lo := 6) (by decide) hws (by decide)
    refine pv_of hs2 ?_
    refine cal_h (fside_spec hr2 (fun c hc => List.mem_cons_of_mem _ (m1 c hc)) mt H updP.cons hc (drop_ok 6) (by decide) hS hi) ?_
    rintro _ w ⟨rfl, H⟩
    simp only [W0]
    unfold Rul.enc at H
    unfold Pat.enc
    refine stP_m H updd rfl (Nat.le_of_ble_eq_true rfl) (by intro c hc; simp only [List.mem_cons, List.not_mem_nil, or_false] at hc; rcases hc with rfl | rfl | rfl <;> rfl) fun w H => ?_
    try simp only [W0]
    refine stP_m H updd rfl (Nat.le_of_ble_eq_true rfl) (by intro c hc; simp only [List.mem_cons, List.not_mem_nil, or_false] at hc; rcases hc with rfl | rfl <;> rfl) fun w H => ?_
    exact part_end (k := 5) (by decide) (by omega) (by omega) ⟨rfl, H⟩
  · simp only [partP, Option.map_eq_some_iff] at hn
    obtain ⟨⟨a, rg, kk, j'⟩, hc, hn⟩ := hn
    simp only [Prod.mk.injEq] at hn
    obtain ⟨rfl, rfl, rfl⟩ := hn
    have hkk := side_le hc hi
    have hlen : (ruleWords.drop 7).length ≤ 8 := by decide
    refine ix1_t (C := cStr) hws H M1 (i := 6) rfl rfl rfl ?_
    repeat (first | refine pv_of (binS_n) ?_ | refine pv_of (binS_y) ?_ | simp only [W0] | unfold F65_j3 | unfold F65_j4 | unfold F65_j5 | unfold F65_j6 | unfold F65_j7 | unfold F65_j8 | unfold F65_j9 | unfold F65_j10 | unfold F65_j11 | unfold F65_j12 | unfold F65_j13 | unfold F65_j14 | unfold F65_j16 | unfold F65_j17)
    first | unfold F65_j15 | unfold F65_j18
    refine add_k (z := ((7 : Nat) : Int)) (by decide) (by decide) (by decide) ?_
    obtain ⟨s2, hs2, hr2⟩ := slRfrom_t (C := cStr) (lo := 7) (by decide) hws (by decide)
    refine pv_of hs2 ?_
    refine cal_h (fside_spec hr2 (fun c hc => List.mem_cons_of_mem _ (m1 c hc)) mt H updP.cons hc (drop_ok 7) (by decide) hS hi) ?_
    rintro _ w ⟨rfl, H⟩
    simp only [W0]
    unfold Rul.enc at H
    unfold Pat.enc
    refine stP_m H updd rfl (Nat.le_of_ble_eq_true rfl) (by intro c hc; simp only [List.mem_cons, List.not_mem_nil, or_false] at hc; rcases hc with rfl | rfl | rfl <;> rfl) fun w H => ?_
    try simp only [W0]
    refine stP_m H updd rfl (Nat.le_of_ble_eq_true rfl) (by intro c hc; simp only [List.mem_cons, List.not_mem_nil, or_false] at hc; rcases hc with rfl | rfl <;> rfl) fun w H => ?_
    exact part_end (k := 6) (by decide) (by omega) (by omega) ⟨rfl, H⟩
  · simp only [partP, Option.some.injEq, Prod.mk.injEq] at hn
    obtain ⟨rfl, rfl, rfl⟩ := hn
    refine ix1_t (C := cStr) hws H M1 (i := 7) rfl rfl rfl ?_
    repeat (first | refine pv_of (binS_n) ?_ | refine pv_of (binS_y) ?_ | simp only [W0] | unfold F65_j3 | unfold F65_j4 | unfold F65_j5 | unfold F65_j6 | unfold F65_j7 | unfold F65_j8 | unfold F65_j9 | unfold F65_j10 | unfold F65_j11 | unfold F65_j12 | unfold F65_j13 | unfold F65_j14 | unfold F65_j16 | unfold F65_j17)
    unfold Rul.enc at H
    refine st_a fun w H => ?_
    simp only [List.set_cons_zero, List.set_cons_succ] at H
    exact part_end (k := 7) (by decide) (by decide) (by decide) ⟨rfl, H⟩
end
end Go.Proofs.Ytmmbepdghpjgeaa.Den
end

section
set_option linter.unusedVariables false
set_option linter.unusedSimpArgs false
set_option maxRecDepth 8000
set_option maxHeartbeats 1000000
namespace Go.Proofs.Ytmmbepdghpjgeaa.Den
open Go Go.RowKit
section
variable {w w' w0 : World} {L L' F cs A X Y : List Chunk} {s : Value} {K : VK} {R : ER} {b i j at' : Nat} {S : ByteArray}
theorem part_le {r r' : Rul} {nx : Int} {k : Nat} (hn : partP S i r k = some (r', nx, j)) (hi : i ≤ S.size) (hk : k < 8) : j ≤ S.size ∧ -1 ≤ nx ∧ nx < 8 := by
  have hkc : k = 0 ∨ k = 1 ∨ k = 2 ∨ k = 3 ∨ k = 4 ∨ k = 5 ∨ k = 6 ∨ k = 7 := by omega
  rcases hkc with rfl | rfl | rfl | rfl | rfl | rfl | rfl | rfl
  · simp only [partP, Option.some.injEq, Prod.mk.injEq] at hn
    obtain ⟨rfl, rfl, rfl⟩ := hn
    omega
  · simp only [partP, Option.some.injEq, Prod.mk.injEq] at hn
    obtain ⟨rfl, rfl, rfl⟩ := hn
    omega
  · simp only [partP, Option.some.injEq, Prod.mk.injEq] at hn
    obtain ⟨rfl, rfl, rfl⟩ := hn
    omega
  · simp only [partP, Option.map_eq_some_iff] at hn
    obtain ⟨⟨n, j'⟩, hc, hn⟩ := hn
    simp only [Prod.mk.injEq] at hn
    obtain ⟨rfl, rfl, rfl⟩ := hn
    have := count_le hc
    omega
  · simp only [partP, Option.map_eq_some_iff] at hn
    obtain ⟨⟨n, j'⟩, hc, hn⟩ := hn
    simp only [Prod.mk.injEq] at hn
    obtain ⟨rfl, rfl, rfl⟩ := hn
    have := count_le hc
    omega
  · simp only [partP, Option.map_eq_some_iff] at hn
    obtain ⟨⟨a, rg, kk, j'⟩, hc, hn⟩ := hn
    simp only [Prod.mk.injEq] at hn
    obtain ⟨rfl, rfl, rfl⟩ := hn
    have := side_le hc hi
    have hl : (ruleWords.drop 6).length = 2 := rfl
    rw [hl] at this
    split <;> omega
  · simp only [partP, Option.map_eq_some_iff] at hn
    obtain ⟨⟨a, rg, kk, j'⟩, hc, hn⟩ := hn
    simp only [Prod.mk.injEq] at hn
    obtain ⟨rfl, rfl, rfl⟩ := hn
    have := side_le hc hi
    have hl : (ruleWords.drop 7).length = 1 := rfl
    rw [hl] at this
    split <;> omega
  · simp only [partP, Option.some.injEq, Prod.mk.injEq] at hn
    obtain ⟨rfl, rfl, rfl⟩ := hn
    omega
theorem parts_le : ∀ {n i : Nat} {r r' : Rul} {k f j : Nat}, partsP S n i r k = some (r', f, j) → i ≤ S.size → k < 8 → j ≤ S.size ∧ f ≤ 8
  | 0, i, r, r', k, f, j, h, _, _ => by simp [partsP] at h
  | n + 1, i, r, r', k, f, j, h, hi, hk => by
    simp only [partsP, Option.bind_eq_bind, Option.bind_eq_some_iff] at h
    obtain ⟨⟨r1, nx, i1⟩, h1, h2⟩ := h
    simp only at h2
    have q := part_le h1 hi hk
    split at h2
    · exact parts_le h2 q.1 (by omega)
    · simp only [Option.some.injEq, Prod.mk.injEq] at h2
      obtain ⟨rfl, rfl, rfl⟩ := h2
      refine ⟨q.1, ?_⟩
      split <;> omega
theorem words_in {k : Nat} {wd : ByteArray} (hk : k < 8) (h : ruleWords[k]? = some wd) : decide (bts wd = bts ⟨⟨[105, 110]⟩⟩) = decide (k = 1) := by
  have hkc : k = 0 ∨ k = 1 ∨ k = 2 ∨ k = 3 ∨ k = 4 ∨ k = 5 ∨ k = 6 ∨ k = 7 := by omega
  rcases hkc with rfl | rfl | rfl | rfl | rfl | rfl | rfl | rfl <;> (injection h with h; subst h; decide)
theorem frule_spec {r : Rul} (H : Hp w0 w L) (hu : Upd L b (.t 102) [.string S, I ((0 : Nat) : Int)] (.t 102) [.string S, I (S.size : Int)] L') (hn : ruleP S = some r) (hS : S.size ≤ 1000) :
    Calls Pg 37 ⟨[ptr b 0]⟩ w fun e w' => e = .returned (.agg ⟨r.enc⟩) ∧ Hp w0 w' L' := by
  obtain ⟨X, Y, rfl, rfl⟩ := hu
  unfold ruleP at hn
  simp only [Option.bind_eq_bind, Option.bind_eq_some_iff] at hn
  obtain ⟨⟨k0, i0⟩, h1, ⟨rF, jF⟩, h2, h3⟩ := hn
  simp only at h2 h3
  split at h3
  · rename_i hend
    injection h3 with h3
    subst h3
    have q1 := choose_le h1 (Nat.zero_le _)
    have q2 : k0 < 2 := q1.2
    generalize hQ : (fun (e : Ending) (w' : World) => e = .returned (.agg ⟨rF.enc⟩) ∧ Hp w0 w' (X ++ ⟨b, .t 102, [.string S, I (S.size : Int)]⟩ :: Y) : ER) = Q
    apply F37_calls
    unfold F37
    refine al_m (ys := [I 0, .bool false, .bool false, I 0, I 0, I 0, U32 0, I 0, .bool false, U32 0, I 0, .bool false, I 0, I 0, I 0, I 0]) H (by kernel_rfl) fun w x2 H => ?_
    refine bld_a ?_
    refine bld_a ?_
    refine bld_a ?_
    refine al_m (ys := [I 0, .bool false, .bool false, I 0, I 0, I 0, U32 0, I 0, .bool false, U32 0, I 0, .bool false, I 0, I 0, I 0, I 0]) H (by kernel_rfl) fun w x3 H => ?_
    refine stA_m H updd rfl rfl (by intro c hc; simp only [List.mem_cons, List.not_mem_nil, or_false] at hc; rcases hc with rfl | rfl | rfl | rfl | rfl | rfl | rfl | rfl | rfl | rfl | rfl | rfl | rfl | rfl | rfl | rfl <;> rfl) fun w H => ?_
    refine lit_t (C := cStr) [⟨#[112, 97, 115, 115]⟩, ⟨#[98, 108, 111, 99, 107]⟩] elStr H rfl (by decide) (by decide) rfl fun w s6 c6 H h6 => ?_
    refine cal_h (fchoose_spec h6.tr (fun c hc => List.mem_append_left _ hc) H updP.cons.cons.app h1 (by decide) (by decide) hS (Nat.zero_le _)) ?_
    rintro _ w ⟨rfl, H⟩
    replace H := H.right
    try simp only [W0]
    refine add_k (by omega) (by omega) rfl ?_
    try simp only [W0]
    refine st_a fun w H => ?_
    simp only [List.set_cons_zero, List.set_cons_succ] at H
    refine lit_t (C := cStr) ruleWords elStr H rfl (by decide) (by decide) rfl fun w s8 c8 H h8 => ?_
    have mt : ∀ c ∈ c8, c.t ≠ .t 102 := by
      intro c hc e
      rw [h8.tag c hc] at e
      injection e with e
      exact absurd e (by decide)
    have fin : ∀ (r : Rul) (i : Nat) (w : World), r = rF → i = jF → i ≤ S.size → Hp w0 w (⟨x3, .t 29, r.enc⟩ :: ⟨x2, .t 29, [I 0, .bool false, .bool false, I 0, I 0, I 0, U32 0, I 0, .bool false, U32 0, I 0, .bool false, I 0, I 0, I 0, I 0]⟩ :: (c8 ++ (X ++ ⟨b, .t 102, [.string S, I (i : Int)]⟩ :: Y))) → F37_j1 Q (ptr b 0) (ptr x2 0) (ptr x3 0) w := by
      clear H
      rintro r i w rfl rfl hiS H
      unfold F37_j1 F37_j3
      refine drew_k H fun w H => ?_
      try simp only [W0]
      refine ld_m H hasP.app.cons.cons (v := I (i : Int)) rfl ?_
      try simp only [W0]
      refine ld_m H hasP.app.cons.cons (v := .string S) rfl ?_
      refine pv_of (lenStr_mk S) ?_
      refine lss_n (by omega) ?_
      try simp only [W0]
      unfold F37_j2
      unfold Rul.enc at H
      refine ldA_a ?_
      refine stA_m H updd rfl rfl (by intro c hc; simp only [List.mem_cons, List.not_mem_nil, or_false] at hc; rcases hc with rfl | rfl | rfl | rfl | rfl | rfl | rfl | rfl | rfl | rfl | rfl | rfl | rfl | rfl | rfl | rfl <;> rfl) fun w H => ?_
      refine ldA_a ?_
      obtain rfl : i = S.size := by omega
      subst hQ
      exact ⟨rfl, H.tail.tail.right⟩
    unfold F37_j4
    refine loop5 (F37_l2_succ _) (fun m y0 y2 y3 y4 y5 w => ∃ (r : Rul) (i f : Nat), y0 = ptr b 0 ∧ y2 = ptr x2 0 ∧ y3 = ptr x3 0 ∧ s8 = y4 ∧ y5 = I (f : Int) ∧ wordsP S m i r f = some (rF, jF) ∧ i ≤ S.size ∧ f ≤ 8 ∧
      Hp w0 w (⟨x3, .t 29, r.enc⟩ :: ⟨x2, .t 29, [I 0, .bool false, .bool false, I 0, I 0, I 0, U32 0, I 0, .bool false, U32 0, I 0, .bool false, I 0, I 0, I 0, I 0]⟩ :: (c8 ++ (X ++ ⟨b, .t 102, [.string S, I (i : Int)]⟩ :: Y)))) ?_ (m := 9)
      ⟨anyRul (1 + (k0 : Int)), i0, 0, rfl, rfl, rfl, rfl, rfl, h2, q1.1, by decide, (by show Hp w0 w (⟨x3, .t 29, [I (1 + (k0 : Int)), .bool false, .bool false, I 3, I (-1), I (-1), U32 0, I 0, .bool false, U32 0, I 0, .bool false, I 0, I 65535, I 0, I 65535]⟩ :: _); simp only [U32] at H ⊢; exact H.re)⟩
    clear H h2 q1 h1
    rintro m kk _ _ _ _ _ w ⟨r, i, f, rfl, rfl, rfl, rfl, rfl, hwp, hi, hf, H⟩ hkk
    unfold F37_b1
    cases m with
    | zero => simp [wordsP] at hwp
    | succ m =>
      simp only [wordsP, Option.bind_eq_bind, Option.bind_eq_some_iff] at hwp
      obtain ⟨⟨mo, i1⟩, h1, h2⟩ := hwp
      simp only at h2
      have q1 := more_le h1 hi
      refine cal_h (fmore_spec H updP.app.cons.cons h1 (by omega)) ?_
      rintro _ w ⟨rfl, H⟩
      try simp only [W0]
      cases mo with
      | false =>
        simp only [Bool.false_eq_true, if_false, Option.some.injEq, Prod.mk.injEq] at h2
        try simp only [W0]
        exact fin r i1 w h2.1 h2.2 q1.1 H
      | true =>
        simp only [if_true, Option.bind_eq_some_iff] at h2
        obtain ⟨⟨k1, i2⟩, h4, ⟨r1, f1, i3⟩, h5, h6⟩ := h2
        simp only at h5 h6
        have q2 := choose_le h4 q1.1
        have hfk : f + k1 < 8 := by
          have := q2.2
          rw [List.length_drop, show ruleWords.length = 8 from rfl] at this; omega
        have q3 := parts_le h5 q2.1 hfk
        try simp only [W0]
        unfold F37_j5
        obtain ⟨s2, hs2, hr2⟩ := slRfrom_t (C := cStr) (w0 := w0) (lo := f) (by decide) h8.tr (by rw [show ruleWords.length = 8 from rfl]; omega)
        refine pv_of hs2 ?_
        refine cal_h (fchoose_spec hr2 (fun c hc => List.mem_cons_of_mem _ (List.mem_cons_of_mem _ (List.mem_append_left _ hc))) H updP.app.cons.cons h4 (drop_ok f) (by simp [show ruleWords.length = 8 from rfl]; omega) hS q1.1) ?_
        rintro _ w ⟨rfl, H⟩
        try simp only [W0]
        refine add_k (z := ((f + k1 : Nat) : Int)) (by omega) (by omega) (by omega) ?_
        unfold F37_j7
        refine loop6 (F37_l1_succ _ _) (fun m' y0 y2 y3 y4 y5 y6 w => ∃ (r i f' : Nat → Nat) (rr : Rul) (ii ff : Nat) (nx : Int), y0 = ptr b 0 ∧ y2 = ptr x2 0 ∧ y3 = ptr x3 0 ∧ s8 = y4 ∧ y5 = I (ff : Int) ∧ y6 = I nx ∧ ii ≤ S.size ∧ nx < 8 ∧
          ((0 ≤ nx ∧ partsP S m' ii rr nx.toNat = some (r1, f1, i3)) ∨ (nx < 0 ∧ rr = r1 ∧ ff = f1 ∧ ii = i3)) ∧
          Hp w0 w (⟨x3, .t 29, rr.enc⟩ :: ⟨x2, .t 29, [I 0, .bool false, .bool false, I 0, I 0, I 0, U32 0, I 0, .bool false, U32 0, I 0, .bool false, I 0, I 0, I 0, I 0]⟩ :: (c8 ++ (X ++ ⟨b, .t 102, [.string S, I (ii : Int)]⟩ :: Y)))) ?_ (m := 8)
          ⟨id, id, id, r, i2, f, ((f + k1 : Nat) : Int), rfl, rfl, rfl, rfl, rfl, rfl, q2.1, by omega, .inl ⟨by omega, by rw [Int.toNat_natCast]; exact h5⟩, H⟩
        clear H h5 h4 h1
        rintro m' k2 _ _ _ _ _ _ w ⟨_, _, _, rr, ii, ff, nx, rfl, rfl, rfl, rfl, rfl, rfl, hii, hnx, hst, H⟩ hk2
        unfold F37_b2
        rcases hst with ⟨h0, hp⟩ | ⟨h0, rfl, rfl, rfl⟩
        · refine geq_y h0 ?_
          try simp only [W0]
          obtain ⟨kk', rfl⟩ : ∃ k : Nat, nx = (k : Int) := ⟨nx.toNat, by omega⟩
          rw [Int.toNat_natCast] at hp
          cases m' with
          | zero => simp [partsP] at hp
          | succ m' =>
            simp only [partsP, Option.bind_eq_bind, Option.bind_eq_some_iff] at hp
            obtain ⟨⟨r4, nx4, i4⟩, h7, h8'⟩ := hp
            simp only at h8'
            have q4 := part_le h7 hii (by omega)
            have hlt : kk' < ruleWords.length := by rw [show ruleWords.length = 8 from rfl]; omega
            have hx : ruleWords[kk']? = some ruleWords[kk'] := List.getElem?_eq_getElem hlt
            have hin := words_in (by omega) hx
            unfold F37_j8
            refine add_k (z := ((kk' + 1 : Nat) : Int)) (by omega) (by omega) (by omega) ?_
            refine ix1_t (C := cStr) h8.tr H (fun c hc => List.mem_cons_of_mem _ (List.mem_cons_of_mem _ (List.mem_append_left _ hc))) hx rfl rfl ?_
            have go : ∀ ff' : Nat, ff' = (if kk' = 1 then 3 else kk' + 1) → F37_j9 Q kk k2 (ptr b 0) (ptr x2 0) (ptr x3 0) s8 (I (ff' : Int)) (I (kk' : Int)) w := by
              rintro ff' hff
              unfold F37_j9
              refine cal_h (fpart_spec h8.tr (fun c hc => List.mem_cons_of_mem _ (List.mem_append_left _ hc)) mt H updP.app.cons h7 (by omega) hS hii) ?_
              rintro _ w ⟨rfl, H⟩
              try simp only [W0]
              refine hk2 m' _ _ _ _ _ _ _ (by omega) ⟨id, id, id, r4, i4, ff', nx4, rfl, rfl, rfl, rfl, rfl, rfl, q4.1, q4.2.2, ?_, H⟩
              by_cases h9 : 0 ≤ nx4
              · rw [if_pos h9] at h8'
                exact .inl ⟨h9, h8'⟩
              · rw [if_neg h9] at h8'
                simp only [Option.some.injEq, Prod.mk.injEq] at h8'
                exact .inr ⟨by omega, h8'.1, by rw [hff]; exact h8'.2.1, h8'.2.2⟩
            by_cases h9 : kk' = 1
            · refine pv_of (binS_y (by rw [hin, decide_eq_true h9])) ?_
              try simp only [W0]
              refine add_k (z := ((kk' + 2 : Nat) : Int)) (by omega) (by omega) (by omega) ?_
              exact go (kk' + 2) (by rw [if_pos h9, h9])
            · refine pv_of (binS_n (by rw [hin, decide_eq_false h9])) ?_
              try simp only [W0]
              exact go (kk' + 1) (by rw [if_neg h9])
        · refine geq_n (by omega) ?_
          try simp only [W0]
          unfold F37_j6
          refine pv_of (lenS_ts h8) ?_
          rw [show ruleWords.length = 8 from rfl]
          split at h6
          · rename_i hff
            simp only [Option.some.injEq, Prod.mk.injEq] at h6
            refine geq_y (by omega) ?_
            try simp only [W0]
            exact fin rr ii w h6.1 h6.2 hii H
          · rename_i hff
            refine geq_n (by omega) ?_
            try simp only [W0]
            exact hkk m _ _ _ _ _ _ (by omega) ⟨rr, ii, ff, rfl, rfl, rfl, rfl, rfl, h6, hii, q3.2, H⟩
  · cases h3
end
end Go.Proofs.Ytmmbepdghpjgeaa.Den
end

section
set_option linter.unusedVariables false
set_option linter.unusedSimpArgs false
set_option maxRecDepth 8000
set_option maxHeartbeats 1000000
namespace Go.Proofs.Ytmmbepdghpjgeaa.Den
open Go Go.RowKit
theorem den_wp {R : ER} {nt : Nat} {ds : List Deferred} {c : Code} (hok : okC Pg nt false c = true) (k : Kont) (a : Act) (w : World) (hi : Inv nt ds a) (h : den Pg R c (envOf a) k w) : c.wp Pg (postOf R nt ds k) a w :=
  (wpIn_wide (n := 0)).1 (den_sound (r := none) (m := 0) hmixed hng c hok k a w hi h)
noncomputable abbrev fnP : Func := Try.f11
theorem codeP : fnP.body = some (.seq (cd fnP [0]) (.seq (cd fnP [1, 0]) (.seq (cd fnP [1, 1, 0]) (cd fnP [1, 1, 1])))) := by kernel_rfl
theorem dP0 (R : ER) (N : Env → WP) (x : Nat → Env → WP) (r : Env → WP) (e : Env) : den Pg R (cd fnP [0]) e ⟨N, x, r⟩ = (al Pg 29 fun v2 => al Pg 32 fun v3 => N (upd (upd e 2 v2) 3 v3)) := by kernel_rfl
theorem dP1 (R : ER) (N : Env → WP) (x : Nat → Env → WP) (r : Env → WP) (e : Env) : den Pg R (cd fnP [1, 0]) e ⟨N, x, r⟩ = (pv (lenStr (e 0)) fun v6 => pv (bin .gtr v6 (.int .i64 200)) fun v7 =>
    cnd v7 (pv (bldO rul0.enc []) fun v8 => pv (bldO [.int .i64 0, .int .i64 0] [(1, 1, .int .i64 18)]) fun v9 => stN 16 (e 2) v8 fun _ => stN 2 (e 3) v9 fun _ => r (upd (upd (upd (upd (upd e 5 (e 0)) 6 v6) 7 v7) 8 v8) 9 v9))
      (N (upd (upd (upd e 5 (e 0)) 6 v6) 7 v7))) := by kernel_rfl
theorem dP2 (R : ER) (K : V2) (x : Nat → Env → WP) (e : Env) : den Pg R (cd fnP [1, 1, 1]) e ⟨fun e => K (e 2) (e 3), x, fun e => K (e 2) (e 3)⟩ =
    (pv (bldO [.string ⟨⟨[]⟩⟩, .int .i64 0] [(0, 1, e 0)]) fun v12 => bx 102 v12 fun v13 => cal Pg R 37 ⟨[v13]⟩ fun v15 => stN 16 (e 2) v15 fun _ =>
      ldN 16 (e 2) fun v16 => cal Pg R 15 ⟨[v16]⟩ fun v17 => pv (bin .neq v17 (.int .i64 0)) fun v18 =>
      cnd v18 (pv (bldO rul0.enc []) fun v19 => pv (bldO [.int .i64 0, .int .i64 0] [(1, 1, .int .i64 36)]) fun v20 => stN 16 (e 2) v19 fun _ => stN 2 (e 3) v20 fun _ => K (e 2) (e 3))
        (ldN 16 (e 2) fun v21 => pv (bldO [.int .i64 0, .int .i64 0] []) fun v22 => stN 16 (e 2) v21 fun _ => stN 2 (e 3) v22 fun _ => K (e 2) (e 3))) := by kernel_rfl
theorem resP (R : ER) (e : Env) : resV Pg R fnP.results.toList e = (ldN 16 (e 2) fun v => ldN 2 (e 3) fun v' => R (.returned (.tuple ⟨[v, v']⟩))) := by kernel_rfl
theorem okP0 : okC Pg fnP.ntmps false (cd fnP [0]) = true := by kernel_rfl
theorem okP1 : okC Pg fnP.ntmps false (cd fnP [1, 0]) = true := by kernel_rfl
theorem okP2 : okC Pg fnP.ntmps false (cd fnP [1, 1, 1]) = true := by kernel_rfl
theorem codeD : cd fnP [1, 1, 0] = .region 3 #[{ dst := some 10, op := .makeFunc (.func 36) #[] #[.tmp 2, .tmp 3], type := 1, pos := "text.go:242", after := #[], guard := none },
    { dst := none, op := .defer { callee := .value (.tmp 10), args := #[], argTypes := #[] }, type := 0, pos := "text.go:242", after := #[{ on := 0, ground := .data }], guard := none }] false := by kernel_rfl
theorem seq_den {nt : Nat} {ds : List Deferred} {c1 c2 : Code} {Q : Exit → Act → World → Prop} {a : Act} {w : World} (hok : okC Pg nt false c1 = true) (hi : Inv nt ds a)
    (h : den Pg noR c1 (envOf a) ⟨fun e w => ∀ a', Inv nt ds a' → envOf a' = e → c2.wp Pg Q a' w, fun _ _ _ => False, fun e w => ∀ a', Inv nt ds a' → envOf a' = e → Q .ret a' w⟩ w) : (Code.seq c1 c2).wp Pg Q a w := by
  refine wp_seq (wp_mono (den_wp hok _ a w hi h) fun e a' w' q => ?_)
  cases e with
  | normal => exact q.2 a' q.1 rfl
  | ret => exact q.2 a' q.1 rfl
  | exit id => exact q.2.elim
  | goto l => exact q.elim
  | panic ch => exact q.2.elim
  | outgrown => exact q.elim
theorem end_den {nt : Nat} {ds : List Deferred} {c : Code} {Q : Exit → Act → World → Prop} {a : Act} {w : World} {K : V2} (hok : okC Pg nt false c = true) (hi : Inv nt ds a) (hn : ∀ a w, Q .ret a w → Q .normal a w)
    (hK : ∀ a' w', Inv nt ds a' → K (envOf a' 2) (envOf a' 3) w' → Q .ret a' w')
    (h : den Pg noR c (envOf a) ⟨fun e => K (e 2) (e 3), fun _ _ _ => False, fun e => K (e 2) (e 3)⟩ w) : c.wp Pg Q a w := by
  refine wp_mono (den_wp hok _ a w hi h) fun e a' w' q => ?_
  cases e with
  | normal => exact hn _ _ (hK a' w' q.1 q.2)
  | ret => exact hK a' w' q.1 q.2
  | exit id => exact q.2.elim
  | goto l => exact q.elim
  | panic ch => exact q.2.elim
  | outgrown => exact q.elim
noncomputable def dfP (v2 v3 : Value) : Deferred := { target := .fn (.func 36) #[v2, v3], args := #[] }
theorem defer_wp {Q : Exit → Act → World → Prop} {a : Act} {w : World} (hi : Inv fnP.ntmps [] a) (k : ∀ a', Inv fnP.ntmps [dfP (envOf a 2) (envOf a 3)] a' → envOf a' 0 = envOf a 0 → envOf a' 2 = envOf a 2 → envOf a' 3 = envOf a 3 → Q .normal a' w) : (cd fnP [1, 1, 0]).wp Pg Q a w := by
  have hmf : ∀ (fn : Fn) (first cap : Array Value) (w : World), (Instr.makeFunc fn first cap).run Pg w = .ok (.func fn first cap) w := fun _ _ _ _ => rfl
  rw [codeD]
  refine wp_region ?_
  obtain ⟨h1, h2⟩ := hi
  have hn : fnP.ntmps = 23 := by kernel_rfl
  rw [hn] at h1 k
  simp [wpOps, go_sem, hmf, h1]
  have e2 : envOf a 2 = a.tmps[2] := by simp [envOf, Array.getD_eq_getD_getElem?, h1]
  have e3 : envOf a 3 = a.tmps[3] := by simp [envOf, Array.getD_eq_getD_getElem?, h1]
  refine .inl (.inl (k _ ⟨by simp [h1], ?_⟩ ?_ ?_ ?_))
  · simp only [dfP, e2, e3, h2]
  · simp [envOf, Array.getD_eq_getD_getElem?, Array.getElem?_setIfInBounds]
  · simp [envOf, Array.getD_eq_getD_getElem?, Array.getElem?_setIfInBounds]
  · simp [envOf, Array.getD_eq_getD_getElem?, Array.getElem?_setIfInBounds]
theorem idle_calls (v2 v3 : Value) (w : World) : CallsD Pg 36 #[v2, v3] .returning w fun e u' w' => e = .returned (.tuple #[]) ∧ u' = .returning ∧ w' = w := by
  refine callsD_of_wpS Try.func36 rfl fun c₀ cs hu => ?_
  apply wpS_seq
  apply wpS_region
  simp [wpOpsS, go_sem, recoverD, hu, Try.ntmps36, Exit.thenS]
  apply wpS_seq
  apply wpS_region
  simp [wpOpsS, go_sem, recoverD, hu, Try.ntmps36, Exit.thenS]
  refine wpS_cond (t := false) (by simp [Act.eval, Array.replicate]) ?_
  simp only [Bool.false_eq_true, if_false]
  refine wpS_of_wp (wp_skip ?_)
  cases c₀
  simp_all [bodyPostS, results, Try.results36]
theorem env_start (args : List Value) (nt : Nat) (h : args.length ≤ nt) : Inv nt [] { tmps := (⟨args⟩ : Array Value) ++ Array.replicate (nt - (⟨args⟩ : Array Value).size) undef, defers := [] } ∧ envOf { tmps := (⟨args⟩ : Array Value) ++ Array.replicate (nt - (⟨args⟩ : Array Value).size) undef, defers := [] } = argsEnv args := by
  refine ⟨⟨by simp; omega, rfl⟩, ?_⟩
  funext t
  simp only [envOf, argsEnv, Array.getD_eq_getD_getElem?, List.getD_eq_getElem?_getD, Array.getElem?_append]
  split
  · simp
  · rename_i ht
    have ht' : args.length ≤ t := by simpa using ht
    simp only [List.getElem?_eq_none ht', Option.getD_none]
    rw [Array.getElem?_replicate]
    split <;> rfl
theorem retk_no {K : VK} {e : Ending} {w : World} {v : Value} (h : K v w) (he : e = .returned v) : retK noR K e w := by subst he; exact h
theorem leaves_idle {R : ER} {a : Act} {w : World} {v2 v3 : Value} (hi : Inv fnP.ntmps [dfP v2 v3] a) (h : (ldN 16 (envOf a 2) fun v => ldN 2 (envOf a 3) fun v' => R (.returned (.tuple ⟨[v, v']⟩))) w) : Leaves Pg fnP a.tmps R a.defers .returning w := by
  obtain ⟨h1, h2⟩ := hi
  rw [h2]
  refine leaves_cons (f := 36) (args := #[v2, v3]) (by simp) (by simp [go_sem]) ?_
  refine (idle_calls v2 v3 w).mono ?_
  rintro e u' w' ⟨rfl, rfl, rfl⟩
  show ∃ v, (results fnP a.tmps).run Pg w' = .ok v w' ∧ R (.returned v) w'
  exact results_spec (a := a) (by rw [resP]; exact h)
section
variable {w w' w0 : World} {L L' F cs A X Y : List Chunk} {s : Value} {K : VK} {R : ER} {b i j : Nat} {S : ByteArray}
theorem parse_calls {r : Rul} (hp : parseP S = some r) (hS : S.size ≤ 200) (hr : r.Ok) (H : Hp w0 w L) :
    Calls Pg 11 ⟨[.string S]⟩ w fun e w' => e = .returned (.tuple ⟨[.agg ⟨r.enc⟩, .agg ⟨[I 0, I 0]⟩]⟩) ∧ Hp w0 w' L := by
  unfold parseP at hp
  simp only [Option.bind_eq_bind, Option.bind_eq_some_iff] at hp
  obtain ⟨r', hrp, hc⟩ := hp
  split at hc
  · rename_i hck
    injection hc with hc
    subst hc
    obtain ⟨i0, e0⟩ := env_start [.string S] fnP.ntmps (by rw [show fnP.ntmps = 23 from by kernel_rfl]; simp)
    refine calls_of_wp_defers Try.func11 codeP ?_
    generalize ({ tmps := (⟨[.string S]⟩ : Array Value) ++ Array.replicate (fnP.ntmps - (⟨[.string S]⟩ : Array Value).size) undef, defers := [] } : Act) = a0 at *
    refine seq_den okP0 i0 ?_
    rw [dP0]
    refine al_m (ys := rul0.enc) H (by kernel_rfl) fun w x2 H => ?_
    refine al_m (ys := [I 0, I 0]) H (by kernel_rfl) fun w x3 H => ?_
    intro a1 i1 e1
    rw [e0] at e1
    refine seq_den okP1 i1 ?_
    rw [dP1, e1]
    refine pv_of (lenStr_mk S) ?_
    refine gtr_n (by omega) ?_
    simp only [W0]
    intro a2 i2 e2
    refine wp_seq (defer_wp i2 fun a3 i3 g0 g2 g3 => ?_)
    have q0 : envOf a3 0 = .string S := by rw [g0, e2]; rfl
    have q2 : envOf a3 2 = ptr x2 0 := by rw [g2, e2]; rfl
    have q3 : envOf a3 3 = ptr x3 0 := by rw [g3, e2]; rfl
    obtain ⟨Kf, hKf⟩ : ∃ Kf : V2, Kf = fun v2 v3 w => v2 = ptr x2 0 ∧ v3 = ptr x3 0 ∧ Hp w0 w (⟨x3, .t 32, [I 0, I 0]⟩ :: ⟨x2, .t 29, r'.enc⟩ :: L) := ⟨_, rfl⟩
    refine end_den (K := Kf) okP2 i3 (fun a w h => h) ?_ ?_
    · subst hKf
      rintro a' w' hi' ⟨k2, k3, H⟩
      refine leaves_idle hi' ?_
      rw [k2, k3]
      refine ldA_m (l := r'.enc) H has rfl ?_
      refine ldA_m (l := [I 0, I 0]) H has rfl ?_
      exact ⟨rfl, H.tail.tail⟩
    · rw [dP2 noR Kf, q0, q2, q3]
      refine bld_a ?_
      refine bx_m H fun w b H => ?_
      refine cal_h (frule_spec (L' := ⟨b, .t 102, [.string S, I (S.size : Int)]⟩ :: ⟨x3, .t 32, [I 0, I 0]⟩ :: ⟨x2, .t 29, rul0.enc⟩ :: L) H ⟨[], _, rfl, rfl⟩ hrp (by omega)) ?_
      rintro _ w ⟨rfl, H⟩
      simp only [W0]
      refine stA_m H updd r'.enc_len rfl r'.enc_sc fun w H => ?_
      refine ldA_m (l := r'.enc) H has rfl ?_
      refine cal_h (rcheck_spec hr H) ?_
      rintro _ w ⟨rfl, H⟩
      simp only [W0]
      refine neq_n (by omega) ?_
      simp only [W0]
      refine ldA_m (l := r'.enc) H has rfl ?_
      refine bld_a ?_
      refine stA_m H updd r'.enc_len rfl r'.enc_sc fun w H => ?_
      refine stA_a fun w H => ?_
      subst hKf
      exact ⟨rfl, rfl, H.tail⟩
  · cases hc
end
end Go.Proofs.Ytmmbepdghpjgeaa.Den
end

section
set_option linter.unusedVariables false
set_option linter.unusedSimpArgs false
set_option maxRecDepth 8000
set_option maxHeartbeats 1000000
namespace Go.Proofs.Ytmmbepdghpjgeaa.Den
open Go Go.RowKit
theorem exRul_ok : exRul.Ok := by unfold Rul.Ok Pat.Ok exRul; decide
theorem exRul_check : exRul.check = 0 := by decide
def exPkt : Pkt := ⟨1, 0, 167838211, 0, 6, 80, 0, false⟩
def exPkt2 : Pkt := ⟨1, 0, 167772160, 0, 6, 0, 0, false⟩
def exFS : FS := ⟨[exRul], [0], 1, 1, [], 0, 0, 0⟩
theorem ex_match : (decide (exRul.check = 0) && decide (exPkt.check = 0) && exRul.fits exPkt) = true := by decide
theorem ex_decide : (exFS.decide exPkt2 0).1 = (2, 0, 0) := by decide
theorem exFS_inv : exFS.Inv 0 := by
  refine ⟨by decide, by decide, MW.nil, rfl, ?_, ?_, by decide, by decide, by decide⟩
  · intro c hc; simp [exFS] at hc; subst hc; decide
  · intro r hr; simp [exFS] at hr; subst hr; exact ⟨exRul_ok, exRul_check⟩
section
variable {w w' w0 : World} {L L' F cs A X Y cc cr : List Chunk} {s sr sc : Value} {K : VK} {R : ER} {b i j fb mb n : Nat} {f : FS} {p : Pkt} {now : Int}
theorem awake_spec (H : Hp w0 w L) : Calls Pg 10 ⟨[]⟩ w fun e w' => e = .returned (.bool true) ∧ Hp w0 w' L := by
  apply F10_calls
  unfold F10
  refine cal_h (parse_calls (S := exText) ex_parse (by decide) exRul_ok H) ?_
  rintro _ w ⟨rfl, H⟩
  simp only [W0]
  refine al_m (ys := rul0.enc) H (by kernel_rfl) fun w b1 H => ?_
  refine al_m (ys := [I 0, I 0]) H (by kernel_rfl) fun w b2 H => ?_
  refine stA_m (vs := exRul.enc) H updd rfl rfl exRul.enc_sc fun w H => ?_
  refine stA_a fun w H => ?_
  refine ldA_a ?_
  refine bld_a ?_
  refine pv_of (v := .bool false) (by rfl) ?_
  simp only [W0]
  refine ldA_m (l := exRul.enc) H has rfl ?_
  (try simp only [W0])
  refine bld_a ?_
  (try simp only [W0])
  refine cal_h (matches_spec (r := exRul) (p := exPkt) exRul_ok (by unfold Pkt.Ok exPkt; decide) H) ?_
  rintro _ w ⟨rfl, H⟩
  rw [ex_match]
  simp only [W0]
  unfold F10_j1
  refine ldA_m (l := exRul.enc) H has rfl ?_
  refine lit1_t (C := cRul) (x := exRul) elRul H rfl (by decide) fun w s1 c1 H h1 => ?_
  refine cal_h (new_ok (l := [exRul]) (limit := 1) (life := 1) h1.tr (by intro r hr; simp at hr; subst hr; exact exRul_ok) H (fun c hc => List.mem_append_left _ hc) (by decide) (by decide)) ?_
  rintro _ w ⟨fb, mb, sr, sc, cr, cc, rfl, h2, h3, H⟩
  (try simp only [W0])
  refine neq_n (by decide) ?_
  (try simp only [W0])
  unfold F10_j2
  refine bld_a ?_
  refine cal_h (decide_spec (f := exFS) (p := exPkt2) (now := 0) (F := cr ++ (c1 ++ (⟨b2, .t 32, [I 0, I 0]⟩ :: ⟨b1, .t 29, exRul.enc⟩ :: L))) exFS_inv (by decide) (by unfold Pkt.Ok exPkt2; decide) h2.tr (fun c hc => List.mem_append_left _ hc) h3
    (by intro r hr hk; have : exFS.rules[(deciding exFS.rules exPkt2).toNat]? = some exRul := rfl
        rw [this] at hr; injection hr with hr; subst hr; cases hk) H) ?_
  rintro _ w ⟨cc', rfl, h4, H⟩
  rw [ex_decide]
  (try simp only [W0])
  refine eql_y (by decide) ?_
  (try simp only [W0])
  refine eql_y (by decide) ?_
  (try simp only [W0])
  refine eql_y (by decide) ?_
  (try simp only [W0])
  refine ⟨(by first | rfl | trivial), ?_⟩
  exact H.tail.tail.right.right.right.tail.tail
end
end Go.Proofs.Ytmmbepdghpjgeaa.Den
end

section
set_option linter.unusedVariables false
set_option linter.unusedSimpArgs false
set_option maxRecDepth 8000
set_option maxHeartbeats 1000000
namespace Go.Proofs.Ytmmbepdghpjgeaa.Den
open Go Go.RowKit
theorem bldRul (r : Rul) : buildL [.int .i64 0, .bool false, .bool false, .int .i64 0, .int .i64 0, .int .i64 0, .int .u32 0, .int .i64 0, .bool false, .int .u32 0, .int .i64 0, .bool false, .int .i64 0, .int .i64 0, .int .i64 0, .int .i64 0] [(0,1, I r.act), (1,1, .bool r.quick), (2,1, .bool r.keep), (3,1, I r.dir), (4,1, I r.ifc), (5,1, I r.proto), (6,3, .agg ⟨r.src.enc⟩), (9,3, .agg ⟨r.dst.enc⟩), (12,2, .agg ⟨r.fr.enc⟩), (14,2, .agg ⟨r.to.enc⟩)] = some r.enc := by
  simp only [Rul.enc, Pat.enc, Rng.enc, BL0, Nat.reduceAdd, Nat.reduceLT, ne_eq, not_true_eq_false, false_or, gt_iff_lt, if_false]
theorem bldO_of {z l : List Value} {parts : List (Nat × Nat × Value)} (h : buildL z parts = some l) : bldO z parts = some (.agg ⟨l⟩) := by unfold bldO; rw [h]
section
variable {w w' w0 : World} {L L' F cs cs2 cs3 A X Y : List Chunk} {s s2 s3 : Value} {K : VK} {R : ER} {b i j : Nat}
theorem rule39_spec {r : Rul} (H : Hp w0 w L) : Calls Pg 13 ⟨[.agg ⟨r.enc⟩]⟩ w fun e w' => e = .returned (.agg ⟨r.enc⟩) ∧ Hp w0 w' L := by
  apply F13_calls
  unfold F13
  refine bx_m H fun w b1 H => ?_
  refine al_m (ys := rul0.enc) H (by kernel_rfl) fun w b2 H => ?_
  have hb : Has (⟨b2, .t 38, rul0.enc⟩ :: ⟨b1, .t 29, [I r.act, .bool r.quick, .bool r.keep, I r.dir, I r.ifc, I r.proto, U32 r.src.adr, I r.src.bits, .bool r.src.no, U32 r.dst.adr, I r.dst.bits, .bool r.dst.no, I r.fr.low, I r.fr.high, I r.to.low, I r.to.high]⟩ :: L) b1 (.t 29) [I r.act, .bool r.quick, .bool r.keep, I r.dir, I r.ifc, I r.proto, U32 r.src.adr, I r.src.bits, .bool r.src.no, U32 r.dst.adr, I r.dst.bits, .bool r.dst.no, I r.fr.low, I r.fr.high, I r.to.low, I r.to.high] := Has.cons Has.here
  replace H : Hp w0 w (⟨b2, .t 38, rul0.enc⟩ :: ⟨b1, .t 29, [I r.act, .bool r.quick, .bool r.keep, I r.dir, I r.ifc, I r.proto, U32 r.src.adr, I r.src.bits, .bool r.src.no, U32 r.dst.adr, I r.dst.bits, .bool r.dst.no, I r.fr.low, I r.fr.high, I r.to.low, I r.to.high]⟩ :: L) := H
  (try simp only [W0])
  refine ld_m H hb (o := 0) (v := I r.act) rfl ?_
  (try simp only [W0])
  refine ld_m H hb (o := 1) (v := .bool r.quick) rfl ?_
  (try simp only [W0])
  refine ld_m H hb (o := 2) (v := .bool r.keep) rfl ?_
  (try simp only [W0])
  refine ld_m H hb (o := 3) (v := I r.dir) rfl ?_
  (try simp only [W0])
  refine ld_m H hb (o := 4) (v := I r.ifc) rfl ?_
  (try simp only [W0])
  refine ld_m H hb (o := 5) (v := I r.proto) rfl ?_
  (try simp only [W0])
  refine ldP_m (o := 6) (n := 3) (ys := r.src.enc) H hb (Nat.le_of_ble_eq_true rfl) rfl ?_
  (try simp only [W0])
  refine ldP_m (o := 9) (n := 3) (ys := r.dst.enc) H hb (Nat.le_of_ble_eq_true rfl) rfl ?_
  (try simp only [W0])
  refine ldP_m (o := 12) (n := 2) (ys := r.fr.enc) H hb (Nat.le_of_ble_eq_true rfl) rfl ?_
  (try simp only [W0])
  refine ldP_m (o := 14) (n := 2) (ys := r.to.enc) H hb (Nat.le_of_ble_eq_true rfl) rfl ?_
  rw [bldO_of (bldRul r), pv_some]
  refine stA_m (vs := r.enc) H Upd.here rfl rfl r.enc_sc fun w H => ?_
  refine ldA_m (l := r.enc) H has rfl ?_
  exact ⟨rfl, H.tail.tail⟩
theorem packet39_spec {p : Pkt} (H : Hp w0 w L) : Calls Pg 23 ⟨[.agg ⟨p.enc⟩]⟩ w fun e w' => e = .returned (.agg ⟨p.enc⟩) ∧ Hp w0 w' L := by
  apply F23_calls
  unfold F23
  refine bx_m H fun w b1 H => ?_
  refine al_m (ys := pkt0.enc) H (by kernel_rfl) fun w b2 H => ?_
  refine ldA_m (l := p.enc) H has rfl ?_
  refine stA_m (vs := p.enc) H updd rfl rfl p.enc_sc fun w H => ?_
  refine ldA_m (l := p.enc) H has rfl ?_
  exact ⟨rfl, H.tail.tail⟩
theorem rules39_spec {l : List Rul} (hl : TR cRul w0 cs s l) (hn : l.length ≤ 20) (H : Hp w0 w L) (m1 : ∀ c ∈ cs, c ∈ L) : Calls Pg 26 ⟨[s]⟩ w fun e w' => ∃ s' cs', e = .returned s' ∧ TS cRul 38 s' l cs' ∧ Hp w0 w' (cs' ++ L) := by
  apply F26_calls
  unfold F26
  refine lit0_t (C := cRul) elGRul H fun w s0 H h0 => ?_
  unfold F26_j2
  refine pv_of (lenS_tr hl) ?_
  unfold F26_j3
  refine loop4 (F26_l1_succ _) (fun m x3 x7 x8 x9 w => ∃ (i : Nat) (cs' : List Chunk), s = x7 ∧ x8 = I (l.length : Int) ∧ x9 = I (i : Int) ∧ m + i = l.length ∧ TS cRul 38 x3 (l.take i) cs' ∧ Hp w0 w (cs' ++ L)) ?_ (m := l.length) ⟨0, [], rfl, rfl, rfl, rfl, h0, H⟩
  clear H h0
  rintro m k x3 _ _ _ w ⟨i, cs', rfl, rfl, rfl, hm, h3, H⟩ hk
  unfold F26_b1
  refine lss_k (fun hi => ?_) (fun hi => ?_)
  · (try simp only [W0])
    have hx : l[i]? = some l[i] := List.getElem?_eq_getElem (by omega)
    generalize l[i] = r at hx
    unfold F26_j4
    refine ixN_t (C := cRul) hl H (fun c hc => List.mem_append_right _ (m1 c hc)) hx (by decide) ?_
    refine al_m (ys := rul0.enc) H (by kernel_rfl) fun w b4 H => ?_
    refine stA_m (vs := r.enc) H updd rfl rfl r.enc_sc fun w H => ?_
    refine ldA_m (l := r.enc) H has rfl ?_
    refine cal_h (rule39_spec H) ?_
    rintro _ w ⟨rfl, H⟩
    (try simp only [W0])
    refine app1_t (C := cRul) (x := r) (F := L) elGRul H.tail h3 Split.here rfl (by decide) (by simp; omega) (by simp; omega) fun w s4 c4 H h4 => ?_
    refine add_k (z := ((i + 1 : Nat) : Int)) (by omega) (by omega) (by omega) ?_
    exact hk (m - 1) _ _ _ _ _ (by omega) ⟨i + 1, c4, rfl, rfl, rfl, by omega, by rw [List.take_add_one, hx]; exact h4, H⟩
  · (try simp only [W0])
    unfold F26_j1
    rw [List.take_of_length_le (by omega)] at h3
    exact ⟨x3, cs', rfl, h3, H⟩
/-- The reference looks through one list of rules. -/
theorem gcheck_walk {Q : ER} {k1 : V5} {sa sb s8 : Value} {l : List Rul} {k : Sh} {c8 c : List Chunk} {hs : List Sh} {q : Nat} (h8 : TS cS 72 s8 hs c8) (hq : hs[q]? = some k) (hl : TR cRul w0 c k.val l) (hok : ∀ r ∈ l, r.Ok) (hn : l.length ≤ 20) (hq2 : q < 100) (H : Hp w0 w L) (m1 : ∀ x ∈ c8, x ∈ L) (m2 : ∀ x ∈ c, x ∈ L)
    (g1 : ∀ w', firstBad l ≠ 0 → Hp w0 w' L → Q (.returned (.tuple ⟨[I 0, I (firstBad l)]⟩)) w') (g2 : ∀ w', firstBad l = 0 → Hp w0 w' L → k1 sa sb s3 s8 (I ((q + 1 : Nat) : Int)) w') :
    F25_j13 Q k1 sa sb s3 s8 (I (q : Int)) w := by
  unfold F25_j13 F25_j15 F25_j16
  refine loop6 (F25_l3_succ _ _) (fun m y0 y1 y2 y8 y9 y10 w => ∃ i : Nat, sa = y0 ∧ sb = y1 ∧ s3 = y2 ∧ s8 = y8 ∧ y9 = I (q : Int) ∧ y10 = I (i : Int) ∧ m + i = l.length ∧ firstBad l = firstBad (l.drop i) ∧ Hp w0 w L) ?_ (m := l.length) ⟨0, rfl, rfl, rfl, rfl, rfl, rfl, rfl, by rw [List.drop_zero], H⟩
  clear H
  rintro m kk _ _ _ _ _ _ w ⟨i, rfl, rfl, rfl, rfl, rfl, rfl, hm, he, H⟩ hk
  unfold F25_b4
  refine ix1_t (C := cS) h8.tr H m1 hq rfl rfl ?_
  refine pv_of (lenS_tr hl) ?_
  refine lss_k (fun hi => ?_) (fun hi => ?_)
  · (try simp only [W0])
    have hx : l[i]? = some l[i] := List.getElem?_eq_getElem (by omega)
    generalize l[i] = r at hx
    unfold F25_j17
    refine ix1_t (C := cS) h8.tr H m1 hq rfl rfl ?_
    refine ixN_t (C := cRul) hl H m2 hx (by decide) ?_
    refine cal_h (gcheck_spec (hok r (List.mem_of_getElem? hx)) H) ?_
    rintro _ w ⟨rfl, H⟩
    (try simp only [W0])
    rw [firstBad_drop hx] at he
    refine neq_k (fun h3 => ?_) (fun h3 => ?_)
    · (try simp only [W0])
      rw [if_pos h3] at he
      rw [← he]
      exact g1 w (by rw [he]; exact h3) H
    · (try simp only [W0])
      rw [if_neg (by simpa using h3)] at he
      refine add_k (z := ((i + 1 : Nat) : Int)) (by omega) (by omega) (by omega) ?_
      exact hk (m - 1) _ _ _ _ _ _ _ (by omega) ⟨i + 1, rfl, rfl, rfl, rfl, rfl, rfl, by omega, he, H⟩
  · (try simp only [W0])
    unfold F25_j14
    rw [List.drop_of_length_le (by omega)] at he
    refine add_k (z := ((q + 1 : Nat) : Int)) (by omega) (by omega) (by omega) ?_
    exact g2 w he H
/-- Is the action to block? -/
theorem act_walk {l : List Rul} {p : Pkt} {K : VK} (hl : TR cRul w0 cs s l) (H : Hp w0 w L) (m1 : ∀ c ∈ cs, c ∈ L) (g : K (.bool (decide (act0 l p = 2))) w) :
    pv (bin .geq (I (deciding l p)) (.int .i64 0)) (fun v9 => gd v9 true (pv (some s)) fun v10 => gd v9 true (pv (some (I (deciding l p)))) fun v11 => gd v9 true (pv (ixS 16 v10 v11)) fun v12 => gd v9 true (pv (faO 0 v12)) fun v13 =>
      gd v9 true (ld1 v13) fun v14 => gd v9 true (pv (bin .eql v14 (.int .i64 2))) fun v15 => pv (pickO v9 v15 (.bool false)) K) w := by
  refine geq_k (fun h => ?_) (fun h => ?_)
  · (try simp only [W0])
    rcases deciding_lt (l := l) (p := p) with h0 | ⟨h1, h2, r, h3, h4⟩
    · omega
    obtain ⟨i, hi⟩ : ∃ i : Nat, deciding l p = (i : Int) := ⟨(deciding l p).toNat, by omega⟩
    have ha : act0 l p = r.act := by
      unfold act0
      rw [if_neg (by omega), List.getD_eq_getElem?_getD, h3]; rfl
    rw [ha] at g
    rw [hi] at h3 ⊢
    rw [Int.toNat_natCast] at h3
    refine ixF_t (C := cRul) (f := 0) (v := I r.act) hl H m1 h3 rfl ?_
    rw [bin_eql]
    (try simp only [W0])
    exact g
  · (try simp only [W0])
    have ha : act0 l p = 1 := by unfold act0; rw [if_pos (by omega)]
    rw [ha] at g
    exact g
theorem gequiv_spec {a b : List Rul} {ps : List Pkt} {sa sb : Value} (ha : TR cRul w0 cs sa a) (hb : TR cRul w0 cs2 sb b) (hps : TR cPkt w0 cs3 s3 ps) (hoka : ∀ r ∈ a, r.Ok) (hokb : ∀ r ∈ b, r.Ok) (hpk : ∀ p ∈ ps, p.Ok) (hn : a.length ≤ 20) (hn2 : b.length ≤ 20) (hn3 : ps.length ≤ 40)
    (H : Hp w0 w L) (m1 : ∀ c ∈ cs, c ∈ L) (m2 : ∀ c ∈ cs2, c ∈ L) (m3 : ∀ c ∈ cs3, c ∈ L) :
    Calls Pg 25 ⟨[sa, sb, s3]⟩ w fun e w' => e = .returned (.tuple ⟨[I (equiv a b ps).1, I (equiv a b ps).2]⟩) ∧ Hp w0 w' L := by
  obtain ⟨ka, rfl⟩ := ha.sh
  obtain ⟨kb, rfl⟩ := hb.sh
  generalize hQ : (fun (e : Ending) (w' : World) => e = .returned (.tuple ⟨[I (equiv a b ps).1, I (equiv a b ps).2]⟩) ∧ Hp w0 w' L : ER) = Q
  have fin : ∀ (r : Int × Int) (w' : World) (A : List Chunk), equiv a b ps = r → Hp w0 w' (A ++ L) → Q (.returned (.tuple ⟨[I r.1, I r.2]⟩)) w' := by
    intro r w' A h1 h2
    subst hQ; rw [h1]; exact ⟨rfl, h2.right⟩
  apply F25_calls
  unfold F25
  refine lit_t (C := cS) [ka, kb] elGRulss H rfl (by decide) (by decide) rfl fun w s8 c8 H h8 => ?_
  refine pv_of (lenS_tr ha) ?_
  refine gtr_n (by omega) ?_
  (try simp only [W0])
  refine pv_of (lenS_tr hb) ?_
  (try simp only [W0])
  refine gtr_n (by omega) ?_
  (try simp only [W0])
  unfold F25_j1 F25_j11 F25_j12
  have M1 : ∀ x ∈ cs, x ∈ c8 ++ L := fun x hx => List.mem_append_right _ (m1 x hx)
  have M2 : ∀ x ∈ cs2, x ∈ c8 ++ L := fun x hx => List.mem_append_right _ (m2 x hx)
  have M3 : ∀ x ∈ cs3, x ∈ c8 ++ L := fun x hx => List.mem_append_right _ (m3 x hx)
  refine ⟨3, ?_⟩
  show F25_l4 Q 3 ka.val kb.val s3 s8 (I 0) w
  rw [F25_l4_succ]
  unfold F25_b3
  refine lss_y (by decide) ?_
  (try simp only [W0])
  refine gcheck_walk (q := 0) h8 rfl ha hoka hn (by decide) H (fun x hx => List.mem_append_left _ hx) M1 (fun w h1 H => fin (0, firstBad a) w c8 (by unfold equiv; rw [if_pos h1]) H) fun w h1 H => ?_
  rw [F25_l4_succ]
  unfold F25_b3
  refine lss_y (by decide) ?_
  (try simp only [W0])
  refine gcheck_walk (q := 1) h8 rfl hb hokb hn2 (by decide) H (fun x hx => List.mem_append_left _ hx) M2 (fun w h2 H => fin (0, firstBad b) w c8 (by unfold equiv; rw [if_neg (by simp [h1]), if_pos h2]) H) fun w h2 H => ?_
  rw [F25_l4_succ]
  unfold F25_b3
  refine lss_n (by decide) ?_
  (try simp only [W0])
  unfold F25_j2 F25_j8 F25_j9
  refine loop4 (F25_l2_succ _) (fun m y0 y1 y2 y12 w => ∃ i : Nat, ka.val = y0 ∧ kb.val = y1 ∧ s3 = y2 ∧ y12 = I (i : Int) ∧ m + i = ps.length ∧ firstBadP ps = firstBadP (ps.drop i) ∧ Hp w0 w (c8 ++ L)) ?_ (m := ps.length) ⟨0, rfl, rfl, rfl, rfl, rfl, by rw [List.drop_zero], H⟩
  clear H
  rintro m k _ _ _ _ w ⟨i, rfl, rfl, rfl, rfl, hm, he, H⟩ hk
  unfold F25_b2
  refine pv_of (lenS_tr hps) ?_
  refine lss_k (fun hi => ?_) (fun hi => ?_)
  · (try simp only [W0])
    have hx : ps[i]? = some ps[i] := List.getElem?_eq_getElem (by omega)
    generalize ps[i] = p at hx
    unfold F25_j10
    refine ixN_t (C := cPkt) hps H M3 hx (by decide) ?_
    refine cal_h (gpcheck_spec H) ?_
    rintro _ w ⟨rfl, H⟩
    (try simp only [W0])
    rw [firstBadP_drop hx] at he
    refine neq_k (fun h3 => ?_) (fun h3 => ?_)
    · (try simp only [W0])
      rw [if_pos h3] at he
      exact fin (0, p.check) w c8 (by unfold equiv; rw [if_neg (by simp [h1]), if_neg (by simp [h2]), he, if_pos h3]) H
    · (try simp only [W0])
      rw [if_neg (by simpa using h3)] at he
      refine add_k (z := ((i + 1 : Nat) : Int)) (by omega) (by omega) (by omega) ?_
      exact hk (m - 1) _ _ _ _ _ (by omega) ⟨i + 1, rfl, rfl, rfl, rfl, by omega, he, H⟩
  · (try simp only [W0])
    rw [List.drop_of_length_le (by omega)] at he
    have hpc : firstBadP ps = 0 := he
    have hpa := (firstBadP_iff ps).1 hpc
    have ha1 : ∀ r ∈ a, r.check = 0 := (firstBad_iff a).1 h1
    have hb1 : ∀ r ∈ b, r.check = 0 := (firstBad_iff b).1 h2
    have heq : equiv a b ps = (idxFrom (differ a b) ps 0, 0) := by unfold equiv; rw [if_neg (by simp [h1]), if_neg (by simp [h2]), if_neg (by simp [hpc])]
    clear hk he hm hi
    unfold F25_j3 F25_j5 F25_j6
    refine loop4 (F25_l1_succ _) (fun m y0 y1 y2 y14 w => ∃ i : Nat, ka.val = y0 ∧ kb.val = y1 ∧ s3 = y2 ∧ y14 = I (i : Int) ∧ m + i = ps.length ∧ idxFrom (differ a b) ps 0 = idxFrom (differ a b) (ps.drop i) i ∧ Hp w0 w (c8 ++ L)) ?_ (m := ps.length) ⟨0, rfl, rfl, rfl, rfl, rfl, by rw [List.drop_zero], H⟩
    clear H
    rintro m k _ _ _ _ w ⟨i, rfl, rfl, rfl, rfl, hm, he, H⟩ hk
    unfold F25_b1
    refine pv_of (lenS_tr hps) ?_
    refine lss_k (fun hi => ?_) (fun hi => ?_)
    · (try simp only [W0])
      have hx : ps[i]? = some ps[i] := List.getElem?_eq_getElem (by omega)
      generalize ps[i] = p at hx
      have hpm := List.mem_of_getElem? hx
      unfold F25_j7
      refine drew_k H fun w H => ?_
      refine ixN_t (C := cPkt) hps H M3 hx (by decide) ?_
      have c4 : ∀ (w : World), Hp w0 w (c8 ++ L) → ∀ (K : VK) (w' : World), Hp w0 w' (c8 ++ L) → K (.agg ⟨p.enc⟩) w' → pv (ixS 8 s3 (I (i : Int))) (fun v5 => ldNS [w] 8 v5 K) w' := by
        intro w H K w' H' g
        obtain ⟨q, e, h⟩ := hps.ix H' M3 hx (k := .i64) (by decide)
        obtain ⟨q', e', h'⟩ := hps.ix H M3 hx (k := .i64) (by decide)
        rw [e] at e'
        injection e' with e'; injection e' with e'; injection e' with e'; subst e'
        rw [show ixS 8 s3 (I (i : Int)) = some (.pointer (some q)) from e, pv_some]
        have r1 : cellsAt w' q 0 8 = some p.enc := (cellsAt_spec _ _ _).2 ⟨rfl, fun j hj => by rw [Nat.zero_add]; exact h j hj⟩
        have r2 : cellsAt w q 0 8 = some p.enc := (cellsAt_spec _ _ _).2 ⟨rfl, fun j hj => by rw [Nat.zero_add]; exact h' j hj⟩
        simp only [ldNS, r1]
        exact ⟨r2, g⟩
      have H4 := H
      have key := c4 w H
      simp only [W0]
      refine cal_h (gdecide_spec ha (fun r hr => ⟨hoka r hr, ha1 r hr⟩) (hpk p hpm) (hpa p hpm) (by omega) H M1) ?_
      rintro _ w ⟨rfl, H⟩
      (try simp only [W0])
      refine key _ _ H ?_
      (try simp only [W0])
      refine cal_h (gdecide_spec hb (fun r hr => ⟨hokb r hr, hb1 r hr⟩) (hpk p hpm) (hpa p hpm) (by omega) H M2) ?_
      rintro _ w ⟨rfl, H⟩
      (try simp only [W0])
      refine drew_k H fun w H => ?_
      refine act_walk (p := p) ha H M1 ?_
      refine act_walk (p := p) hb H M2 ?_
      have hne : (!(decide (act0 a p = 2) == decide (act0 b p = 2))) = differ a b p := by
        unfold differ
        rcases act0_is (p := p) ha1 with h | h <;> rcases act0_is (p := p) hb1 with h' | h' <;> rw [h, h'] <;> decide
      refine pv_of (v := .bool (differ a b p)) (by rw [← hne]; rfl) ?_
      rw [idxFrom_drop hx] at he
      cases hd : differ a b p with
      | true =>
        (try simp only [W0])
        rw [hd] at he
        exact fin ((i : Int), 0) w c8 (by rw [heq, he]; rfl) H
      | false =>
        (try simp only [W0])
        rw [hd] at he
        refine add_k (z := ((i + 1 : Nat) : Int)) (by omega) (by omega) (by omega) ?_
        exact hk (m - 1) _ _ _ _ _ (by omega) ⟨i + 1, rfl, rfl, rfl, rfl, by omega, he, H⟩
    · (try simp only [W0])
      rw [List.drop_of_length_le (by omega)] at he
      unfold F25_j4
      exact fin (-1, 0) w c8 (by rw [heq, he]; rfl) H
theorem equiv_law {a b : List Rul} {ps : List Pkt} {sa sb : Value} (ha : TR cRul w0 cs sa a) (hb : TR cRul w0 cs2 sb b) (hps : TR cPkt w0 cs3 s3 ps) (hoka : ∀ r ∈ a, r.Ok) (hokb : ∀ r ∈ b, r.Ok) (hpk : ∀ p ∈ ps, p.Ok)
    (H : Hp w0 w L) (m1 : ∀ c ∈ cs, c ∈ L) (m2 : ∀ c ∈ cs2, c ∈ L) (m3 : ∀ c ∈ cs3, c ∈ L) :
    Calls Pg 8 ⟨[sa, sb, s3]⟩ w fun e w' => e = .returned (.bool true) ∧ Hp w0 w' L := by
  generalize hQ : (fun (e : Ending) (w' : World) => e = .returned (.bool true) ∧ Hp w0 w' L : ER) = Q
  have aw : ∀ w A, Hp w0 w (A ++ L) → cal Pg Q 10 ⟨[]⟩ (fun v67 => Q (.returned v67)) w := by
    intro w A H
    refine cal_h (awake_spec H) ?_
    rintro _ w ⟨rfl, H⟩
    subst hQ
    exact ⟨(by first | rfl | trivial), H.right⟩
  apply F8_calls
  unfold F8 F8_j6
  refine pv_of (lenS_tr ha) ?_
  refine gtr_k (fun h20 => ?_) (fun h20 => ?_)
  · (try simp only [W0])
    exact aw w [] H
  (try simp only [W0])
  refine pv_of (lenS_tr hb) ?_
  (try simp only [W0])
  refine gtr_k (fun h21 => ?_) (fun h21 => ?_)
  · (try simp only [W0])
    exact aw w [] H
  (try simp only [W0])
  refine pv_of (lenS_tr hps) ?_
  (try simp only [W0])
  refine gtr_k (fun h40 => ?_) (fun h40 => ?_)
  · (try simp only [W0])
    exact aw w [] H
  (try simp only [W0])
  unfold F8_j1
  refine lit0_t (C := cPkt) elGPkt H fun w s0 H h0 => ?_
  unfold F8_j3
  refine pv_of (lenS_tr hps) ?_
  unfold F8_j4
  refine loop7 (F8_l1_succ _) (fun m y0 y1 y2 x7 y29 y30 y31 w => ∃ (i : Nat) (c7 : List Chunk), sa = y0 ∧ sb = y1 ∧ s3 = y2 ∧ s3 = y29 ∧ y30 = I (ps.length : Int) ∧ y31 = I (i : Int) ∧ m + i = ps.length ∧ TS cPkt 67 x7 (ps.take i) c7 ∧ Hp w0 w (c7 ++ L)) ?_ (m := ps.length) ⟨0, [], rfl, rfl, rfl, rfl, rfl, rfl, rfl, h0, H⟩
  clear H h0
  rintro m k _ _ z2 x7 z29 _ _ w ⟨i, c7, rfl, rfl, e2, e29, rfl, rfl, hm, h7, H⟩ hk
  rw [← e2, ← e29]
  unfold F8_b1
  refine lss_k (fun hi => ?_) (fun hi => ?_)
  · (try simp only [W0])
    have hx : ps[i]? = some ps[i] := List.getElem?_eq_getElem (by omega)
    generalize ps[i] = p at hx
    unfold F8_j5
    refine ixN_t (C := cPkt) hps H (fun c hc => List.mem_append_right _ (m3 c hc)) hx (by decide) ?_
    refine al_m (ys := pkt0.enc) H (by kernel_rfl) fun w b4 H => ?_
    refine stA_m (vs := p.enc) H updd rfl rfl p.enc_sc fun w H => ?_
    refine ldA_m (l := p.enc) H has rfl ?_
    refine cal_h (packet39_spec H) ?_
    rintro _ w ⟨rfl, H⟩
    (try simp only [W0])
    refine app1_t (C := cPkt) (x := p) (F := L) elGPkt H.tail h7 Split.here rfl (by decide) (by simp; omega) (by simp; omega) fun w s4 c4 H h4 => ?_
    refine add_k (z := ((i + 1 : Nat) : Int)) (by omega) (by omega) (by omega) ?_
    exact hk (m - 1) _ _ _ _ _ _ _ _ (by omega) ⟨i + 1, c4, rfl, rfl, rfl, rfl, rfl, rfl, by omega, by rw [List.take_add_one, hx]; exact h4, H⟩
  · (try simp only [W0])
    rw [List.take_of_length_le (by omega)] at h7
    have M1 : ∀ x ∈ cs, x ∈ c7 ++ L := fun x hx => List.mem_append_right _ (m1 x hx)
    have M2 : ∀ x ∈ cs2, x ∈ c7 ++ L := fun x hx => List.mem_append_right _ (m2 x hx)
    have M3 : ∀ x ∈ cs3, x ∈ c7 ++ L := fun x hx => List.mem_append_right _ (m3 x hx)
    unfold F8_j2
    refine cal_h (equiv_spec ha hb hps hoka hokb hpk (by omega) (by omega) (by omega) H M1 M2 M3) ?_
    rintro _ w ⟨rfl, H⟩
    (try simp only [W0])
    refine cal_h (rules39_spec ha (by omega) H M1) ?_
    rintro _ w ⟨s8, c8, rfl, h8, H⟩
    (try simp only [W0])
    refine cal_h (rules39_spec hb (by omega) H (fun x hx => List.mem_append_right _ (M2 x hx))) ?_
    rintro _ w ⟨s9, c9, rfl, h9, H⟩
    (try simp only [W0])
    refine cal_h (gequiv_spec h8.tr h9.tr h7.tr hoka hokb hpk (by omega) (by omega) (by omega) H (fun x hx => List.mem_append_right _ (List.mem_append_left _ hx)) (fun x hx => List.mem_append_left _ hx) (fun x hx => List.mem_append_right _ (List.mem_append_right _ (List.mem_append_left _ hx)))) ?_
    rintro _ w ⟨rfl, H⟩
    (try simp only [W0])
    refine eql_y rfl ?_
    (try simp only [W0])
    refine eql_y rfl ?_
    (try simp only [W0])
    refine cal_h (awake_spec H) ?_
    rintro _ w ⟨rfl, H⟩
    (try simp only [W0])
    subst hQ
    exact ⟨(by first | rfl | trivial), H.right.right.right⟩
end
end Go.Proofs.Ytmmbepdghpjgeaa.Den
end
