/- Packet filter: the law's decide, and what it decides, as plain data. Conditions: none. -/
import Derived.Test.YtmmbepdghpjgeaaFlT
set_option linter.unusedVariables false
set_option linter.unusedSimpArgs false
set_option maxRecDepth 8000
set_option maxHeartbeats 1000000
namespace Go.Proofs.Ytmmbepdghpjgeaa.Den
open Go Go.RowKit
/-- The action about a packet, without states. -/
def act0 (l : List Rul) (p : Pkt) : Int := if deciding l p < 0 then 1 else (l.getD (deciding l p).toNat rul0).act
def dec0 (l : List Rul) (p : Pkt) : Int × Bool := if newErr l 1 1 ≠ 0 ∨ p.check ≠ 0 then (0, false) else (act0 l p, true)
theorem decFrom_start (p : Pkt) (b : Bool) : ∀ (l : List Rul) (i : Nat) (last : Int), decFrom { p with start := b } l i last = decFrom p l i last
  | [], i, last => rfl
  | r :: l, i, last => by
    unfold decFrom
    rw [decFrom_start p b l (i + 1) last, decFrom_start p b l (i + 1) (i : Int)]
    rfl
theorem deciding_start (p : Pkt) (b : Bool) (l : List Rul) : deciding l { p with start := b } = deciding l p := decFrom_start p b l 0 (-2)
def nokeep (l : List Rul) (p : Pkt) : Prop := ∀ r ∈ l, r.keep = true → p.start = false
theorem FS.rule_plain {f : FS} {p : Pkt} {now : Int} (hk : nokeep f.rules p) : (f.rule p now).1 = (if deciding f.rules p < 0 then 1 else (f.rules.getD (deciding f.rules p).toNat rul0).act, deciding f.rules p, 0) ∧
    (f.rule p now).2.ents = f.ents ∧ (f.rule p now).2.rules = f.rules ∧ (f.rule p now).2.clock = f.clock ∧ (f.rule p now).2.life = f.life ∧ (f.rule p now).2.mck = f.mck ∧ (f.rule p now).2.made = f.made ∧ (f.rule p now).2.limit = f.limit ∧
    ((f.rule p now).2.counts = f.counts ∨ ∃ i, (f.rule p now).2.counts = f.counts.set i (f.counts.getD i 0 + 1)) := by
  unfold FS.rule
  simp only
  split
  · rename_i h
    exact ⟨rfl, rfl, rfl, rfl, rfl, rfl, rfl, rfl, .inl rfl⟩
  · rename_i h
    rcases deciding_lt (l := f.rules) (p := p) with h1 | ⟨h1, h2, r, hx, hfit⟩
    · omega
    rw [hx]
    have hg : f.rules.getD (deciding f.rules p).toNat rul0 = r := by rw [List.getD_eq_getElem?_getD, hx]; rfl
    have hno : (r.keep && p.start) = false := by
      cases hkr : r.keep with
      | false => rfl
      | true => rw [hk r (List.mem_of_getElem? hx) hkr]; rfl
    simp only [hno, hg, Bool.false_eq_true, if_false]
    exact ⟨(by first | rfl | trivial), (by first | rfl | trivial), (by first | rfl | trivial), (by first | rfl | trivial), (by first | rfl | trivial), (by first | rfl | trivial), (by first | rfl | trivial), (by first | rfl | trivial), .inr ⟨_, rfl⟩⟩
theorem FS.decide_plain {f : FS} {p : Pkt} {now : Int} (he : f.ents = []) (h0 : 0 ≤ now) (h1 : now ≤ 1099511627776) (hc : f.clock ≤ now) (hk : nokeep f.rules p) :
    (f.decide p now).1 = (if p.check ≠ 0 then (0, 0, p.check) else (act0 f.rules p, deciding f.rules p, 0)) ∧
    (f.decide p now).2.ents = [] ∧ (f.decide p now).2.rules = f.rules ∧ (f.decide p now).2.clock ≤ now ∧ (f.decide p now).2.life = f.life ∧ (f.decide p now).2.mck = f.mck ∧ (f.decide p now).2.made = f.made ∧ (f.decide p now).2.limit = f.limit ∧
    ((f.decide p now).2.counts = f.counts ∨ ∃ i, (f.decide p now).2.counts = f.counts.set i (f.counts.getD i 0 + 1)) := by
  unfold FS.decide
  split
  · rename_i h
    exact ⟨rfl, he, rfl, hc, rfl, rfl, rfl, rfl, .inl rfl⟩
  · rename_i h
    rw [if_neg (by omega), if_neg (by omega)]
    have e1 : (f.expire now).ents = [] := by unfold FS.expire; simp only [he]; rfl
    rw [e1]
    show ((f.expire now).rule p now).1 = _ ∧ _
    obtain ⟨g1, g2, g3, g4, g5, g6, g7, g8, g9⟩ := FS.rule_plain (f := f.expire now) (now := now) hk
    exact ⟨g1, g2.trans e1, g3, by show ((f.expire now).rule p now).2.clock ≤ now; rw [g4]; exact Int.le_refl _, g5, g6, g7, g8, g9⟩
theorem FS.Inv.plain {n : Nat} {f : FS} {p : Pkt} {now : Int} (hi : f.Inv n) (he : f.ents = []) (h0 : 0 ≤ now) (h1 : now ≤ 1099511627776) (hc : f.clock ≤ now) (hk : nokeep f.rules p) : (f.decide p now).2.Inv (n + 1) := by
  obtain ⟨_, g2, g3, _, g5, g6, g7, g8, g9⟩ := FS.decide_plain he h0 h1 hc hk
  refine ⟨by rw [g5]; exact hi.l1, by rw [g5]; exact hi.l2, by rw [g2, g6]; exact ⟨by simp [mkeys], by simp, by simp⟩, ?_, ?_, by rw [g3]; exact hi.rok, by rw [g3]; exact hi.rl, by rw [g7]; exact hi.m1, by rw [g7]; have := hi.m2; omega⟩
  · rw [g3]; rcases g9 with g | ⟨i, g⟩ <;> rw [g]
    · exact hi.cl
    · rw [List.length_set]; exact hi.cl
  · intro c hc'
    rcases g9 with g | ⟨i, g⟩ <;> rw [g] at hc'
    · have := hi.cb c hc'; omega
    · rcases List.mem_or_eq_of_mem_set hc' with h | h
      · have := hi.cb c h; omega
      · subst h
        rw [List.getD_eq_getElem?_getD]
        cases hx : f.counts[i]? with
        | none => simp; omega
        | some x => have := hi.cb x (List.mem_of_getElem? hx); simp only [Option.getD_some]; omega
theorem newFS_inv {l : List Rul} {limit life : Int} (hok : ∀ r ∈ l, r.Ok) (he : newErr l limit life = 0) : (⟨l, List.replicate l.length 0, limit, life, [], 0, 0, 0⟩ : FS).Inv 0 := by
  unfold newErr at he
  split at he
  · rename_i h; exact absurd he h
  rename_i h0
  split at he
  · cases he
  rename_i h1
  simp only [Bool.or_eq_true, Bool.not_eq_true', decide_eq_true_eq, not_or, Bool.not_eq_false] at h1
  obtain ⟨⟨h1, h2⟩, h3⟩ := h1
  have h0' : checkAll l = 0 := Decidable.not_not.1 h0
  unfold checkAll at h0'
  split at h0'
  · cases h0'
  rename_i hlen
  have hall : ∀ (l : List Rul), firstBad l = 0 → ∀ r ∈ l, r.check = 0 := by
    intro l
    induction l with
    | nil => intro _ r hr; cases hr
    | cons a l ih =>
      intro h r hr
      unfold firstBad at h
      split at h
      · rename_i hne; exact absurd h hne
      · rename_i hne
        rcases List.mem_cons.1 hr with rfl | hr
        · exact Decidable.not_not.1 hne
        · exact ih h r hr
  refine ⟨by simp only; omega, by simp only; omega, ⟨by simp [mkeys], by simp, by simp⟩, by simp, ?_, fun r hr => ⟨hok r hr, hall l h0' r hr⟩, by simp only; omega, by simp, by simp⟩
  intro c hc
  have := List.eq_of_mem_replicate hc
  omega
section
variable {w w' w0 : World} {L L' F cs A X Y cc cr : List Chunk} {s sr sc : Value} {K : VK} {R : ER} {b i j fb mb n : Nat} {f : FS} {p : Pkt} {now : Int}
theorem decide39_spec {l : List Rul} (hl : TR cRul w0 cs s l) (hok : ∀ r ∈ l, r.Ok) (hp : p.Ok) (hn : l.length < 2 ^ 63) (H : Hp w0 w L) (m1 : ∀ c ∈ cs, c ∈ L) :
    Calls Pg 14 ⟨[s, .agg ⟨p.enc⟩]⟩ w fun e w' => e = .returned (.tuple ⟨[I (dec0 l p).1, .bool (dec0 l p).2]⟩) ∧ Hp w0 w' L := by
  apply F14_calls
  unfold F14
  refine bx_m H fun w b1 H => ?_
  by_cases he : newErr l 1 1 = 0
  · refine cal_h (new_ok (limit := 1) (life := 1) hl hok H (fun c hc => List.mem_cons_of_mem _ (m1 c hc)) he hn) ?_
    rintro _ w ⟨fb, mb, sr, sc, cr, cc, rfl, h2, h3, H⟩
    (try simp only [W0])
    refine neq_n (by decide) ?_
    (try simp only [W0])
    unfold F14_j1
    (try simp only [W0])
    refine st_m H (L' := ⟨fb, .t 117, [sr, sc, I 1, I 1, .map (some mb), I 0, I 0]⟩ :: ⟨mb, .o (mobj kC vE [] 0), []⟩ :: (cc ++ (cr ++ (⟨b1, .t 45, ({ p with start := false } : Pkt).enc⟩ :: L)))) (Upd.cons (Upd.cons (Upd.app (Upd.app Upd.here)))) (by exact Nat.lt_of_lt_of_le (Nat.lt_succ_self 7) (Nat.le_refl _)) rfl fun w H => ?_
    refine ldA_m (l := ({ p with start := false } : Pkt).enc) H (by exact has) rfl ?_
    refine cal_h (decide_spec (f := ⟨l, List.replicate l.length 0, 1, 1, [], 0, 0, 0⟩) (p := { p with start := false }) (now := 0) (F := cr ++ (⟨b1, .t 45, ({ p with start := false } : Pkt).enc⟩ :: L)) (newFS_inv hok he) (by decide) hp h2.tr (fun c hc => List.mem_append_left _ hc) h3
      (by intro r _ _ h; cases h) H) ?_
    rintro _ w ⟨cc', rfl, h4, H⟩
    have hd := (FS.decide_plain (f := ⟨l, List.replicate l.length 0, 1, 1, [], 0, 0, 0⟩) (p := { p with start := false }) (now := 0) rfl (by decide) (by decide) (Int.le_refl 0) (fun r _ _ => rfl)).1
    rw [hd]
    have hck : ({ p with start := false } : Pkt).check = p.check := rfl
    rw [hck]
    have H' : Hp w0 w L := H.tail.tail.right.right.tail
    by_cases hpc : p.check = 0
    · rw [if_neg (by simp [hpc])]
      (try simp only [W0])
      refine eql_y (by decide) ?_
      (try simp only [W0])
      refine ⟨?_, H'⟩
      have : dec0 l p = (act0 l p, true) := by unfold dec0; rw [if_neg (by simp [he, hpc])]
      rw [this]
      have : act0 l { p with start := false } = act0 l p := by unfold act0; rw [deciding_start]
      rw [this]
    · rw [if_pos hpc]
      (try simp only [W0])
      refine eql_n hpc ?_
      (try simp only [W0])
      refine ⟨?_, H'⟩
      have : dec0 l p = (0, false) := by unfold dec0; rw [if_pos (.inr hpc)]
      rw [this]
  · refine cal_h (new_err (limit := 1) (life := 1) hl hok hn H (fun c hc => List.mem_cons_of_mem _ (m1 c hc)) he) ?_
    rintro _ w ⟨rfl, H⟩
    (try simp only [W0])
    refine neq_y he ?_
    (try simp only [W0])
    refine ⟨?_, H.tail⟩
    have : dec0 l p = (0, false) := by unfold dec0; rw [if_pos (.inl he)]
    rw [this]
end
end Go.Proofs.Ytmmbepdghpjgeaa.Den
