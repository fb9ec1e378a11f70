/- Packet filter: Decide (what makes a state is asked for apart). Conditions: none. -/
import Derived.Test.YtmmbepdghpjgeaaFlQ
set_option linter.unusedVariables false
set_option linter.unusedSimpArgs false
set_option maxRecDepth 8000
set_option maxHeartbeats 1000000
namespace Go.Proofs.Ytmmbepdghpjgeaa.Den
open Go Go.RowKit
theorem nd_inj {α : Type} {l : List α} (h : l.Nodup) {i j : Nat} (hi : i < l.length) (hj : j < l.length) (e : l[i] = l[j]) : i = j := by
  have hp := List.pairwise_iff_getElem.1 h
  rcases Nat.lt_trichotomy i j with g | g | g
  · exact absurd e (hp i j hi hj g)
  · exact g
  · exact absurd e.symm (hp j i hj hi g)
theorem filter_sub {α : Type} {p q : α → Bool} (h : ∀ x, p x = true → q x = true) : ∀ l : List α, List.Sublist (l.filter p) (l.filter q)
  | [] => List.Sublist.slnil
  | a :: l => by
    rw [List.filter_cons, List.filter_cons]
    have ih := filter_sub h l
    by_cases hp : p a = true
    · rw [if_pos hp, if_pos (h a hp)]; exact ih.cons_cons a
    · rw [if_neg hp]; split
      · exact ih.cons a
      · exact ih
structure FS where
  rules : List Rul
  counts : List Int
  limit : Int
  life : Int
  ents : List (Con × Ey × Nat)
  mck : Nat
  made : Int
  clock : Int
def Pkt.con (p : Pkt) : Con := (p.proto, p.src, p.dst, p.fr, p.to)
def turned (c : Con) : Con := (c.1, c.2.2.1, c.2.1, c.2.2.2.2, c.2.2.2.1)
def FS.expire (f : FS) (now : Int) : FS := { f with clock := now, ents := f.ents.filter fun e => decide (now < e.2.1.1) }
def FS.put (f : FS) (c : Con) (v : Ey) : FS := { f with ents := mput c v f.ents f.mck, mck := mclk c f.ents f.mck }
def FS.count (f : FS) (i : Nat) : FS := { f with counts := f.counts.set i (f.counts.getD i 0 + 1) }
/-- Is a the older one? -/
def older (a b : Con × Ey × Nat) : Bool := decide (a.2.1.1 < b.2.1.1) || (decide (a.2.1.1 = b.2.1.1) && decide (a.2.1.2 < b.2.1.2))
def oldest : List (Con × Ey × Nat) → Option (Con × Ey × Nat)
  | [] => none
  | e :: l => match oldest l with
    | none => some e
    | some d => if older d e then some d else some e
def FS.make (f : FS) (c : Con) (x : Int) : FS :=
  let f := if f.limit ≤ (f.ents.length : Int) then (match oldest f.ents with | some d => { f with ents := mdel d.1 f.ents } | none => f) else f
  { f.put c (x, f.made + 1) with made := f.made + 1 }
def FS.rule (f : FS) (p : Pkt) (now : Int) : (Int × Int × Int) × FS :=
  let i := deciding f.rules p
  if i < 0 then ((1, i, 0), f)
  else match f.rules[i.toNat]? with
    | none => ((0, 0, 0), f)
    | some r => ((r.act, i, 0), if r.keep && p.start then (f.count i.toNat).make p.con (now + f.life) else f.count i.toNat)
def FS.decide (f : FS) (p : Pkt) (now : Int) : (Int × Int × Int) × FS :=
  if p.check ≠ 0 then ((0, 0, p.check), f)
  else if now < 0 ∨ 1099511627776 < now then ((0, 0, 34), f)
  else if now < f.clock then ((0, 0, 30), f)
  else match mget p.con (f.expire now).ents with
    | some v => ((1, -1, 0), (f.expire now).put p.con (now + f.life, v.2))
    | none => match mget (turned p.con) (f.expire now).ents with
      | some v => ((1, -1, 0), (f.expire now).put (turned p.con) (now + f.life, v.2))
      | none => (f.expire now).rule p now
/-- The filter's own memory. -/
def FS.mem (fb mb : Nat) (sr sc : Value) (f : FS) (F : List Chunk) : List Chunk :=
  ⟨fb, .t 117, [sr, sc, I f.limit, I f.life, .map (some mb), I f.made, I f.clock]⟩ :: ⟨mb, .o (mobj kC vE f.ents f.mck), []⟩ :: F
/-- A call of make does what it should. -/
def MakeOK (f : FS) (c : Con) (x : Int) : Prop := ∀ (w0 w : World) (fb mb : Nat) (sr sc : Value) (F : List Chunk), Hp w0 w (f.mem fb mb sr sc F) →
  Calls Pg 50 ⟨[ptr fb 0, kC c, I x]⟩ w fun e w' => e = .returned (.tuple ⟨[]⟩) ∧ Hp w0 w' ((f.make c x).mem fb mb sr sc F)
theorem decFrom_lt {p : Pkt} : ∀ (l : List Rul) (i : Nat) (last : Int), decFrom p l i last = last ∨ ((i : Int) ≤ decFrom p l i last ∧ decFrom p l i last < (i : Int) + l.length ∧ ∃ r, l[(decFrom p l i last).toNat - i]? = some r ∧ r.fits p = true)
  | [], i, last => .inl rfl
  | r :: l, i, last => by
    unfold decFrom
    split
    · rcases decFrom_lt (p := p) l (i + 1) last with h | ⟨h1, h2, r', h3, h4⟩
      · exact .inl h
      · refine .inr ⟨by omega, by simp only [List.length_cons]; omega, r', ?_, h4⟩
        have e : (decFrom p l (i + 1) last).toNat - i = (decFrom p l (i + 1) last).toNat - (i + 1) + 1 := by omega
        rw [e, List.getElem?_cons_succ]; exact h3
    · rename_i hf
      have hf' : r.fits p = true := by simpa using hf
      split
      · refine .inr ⟨by omega, by simp only [List.length_cons]; omega, r, ?_, hf'⟩
        have e : (i : Int).toNat - i = 0 := by omega
        rw [e]; rfl
      · right
        rcases decFrom_lt (p := p) l (i + 1) (i : Int) with h | ⟨h1, h2, r', h3, h4⟩
        · rw [h]
          refine ⟨by omega, by simp only [List.length_cons]; omega, r, ?_, hf'⟩
          have e : (i : Int).toNat - i = 0 := by omega
          rw [e]; rfl
        · refine ⟨by omega, by simp only [List.length_cons]; omega, r', ?_, h4⟩
          have e : (decFrom p l (i + 1) (i : Int)).toNat - i = (decFrom p l (i + 1) (i : Int)).toNat - (i + 1) + 1 := by omega
          rw [e, List.getElem?_cons_succ]; exact h3
theorem deciding_lt {l : List Rul} {p : Pkt} : deciding l p = -2 ∨ (0 ≤ deciding l p ∧ deciding l p < l.length ∧ ∃ r, l[(deciding l p).toNat]? = some r ∧ r.fits p = true) := by
  rcases decFrom_lt (p := p) l 0 (-2) with h | ⟨h1, h2, h3⟩
  · exact .inl h
  · exact .inr ⟨by unfold deciding; omega, by unfold deciding; omega, h3⟩
section
variable {w w' w0 : World} {L L' F cs A X Y cc cr : List Chunk} {s sr sc : Value} {K : VK} {R : ER} {b i j fb mb : Nat} {f : FS} {p : Pkt} {now : Int}
theorem turned_spec {c : Con} (H : Hp w0 w L) : Calls Pg 48 ⟨[.agg ⟨Con.enc c⟩]⟩ w fun e w' => e = .returned (.agg ⟨Con.enc (turned c)⟩) ∧ Hp w0 w' L := by
  apply F48_calls
  unfold F48 Con.enc
  refine bx_m H fun w b1 H => ?_
  refine al_m (ys := [I 0, U32 0, U32 0, I 0, I 0]) H (by kernel_rfl) fun w b2 H => ?_
  simp only [W0]
  refine ld_a ?_
  (try simp only [W0])
  refine ld_a ?_
  (try simp only [W0])
  refine ld_a ?_
  (try simp only [W0])
  refine ld_a ?_
  (try simp only [W0])
  refine ld_a ?_
  refine bld_a ?_
  refine stA_a fun w H => ?_
  refine ldA_a ?_
  exact ⟨rfl, H.tail.tail⟩
/-- States whose time has come are dropped. -/
theorem expire_walk {Q : ER} {b4 : Nat} (hw : MW f.ents f.mck) (H : Hp w0 w (⟨b4, .t 45, p.enc⟩ :: f.mem fb mb sr sc F)) (hc : f.clock = now)
    (g : ∀ w', Hp w0 w' (⟨b4, .t 45, p.enc⟩ :: (f.expire now).mem fb mb sr sc F) → F20_j5 Q (ptr fb 0) (I now) (ptr b4 0) w') :
    F20_j18 Q (ptr fb 0) (I now) (ptr b4 0) w := by
  unfold F20_j18
  unfold FS.mem at H g
  simp only [W0]
  refine ld_a ?_
  refine range_h mapC (ents := f.ents) (clock := f.mck) H has fun w r H => ?_
  unfold F20_j19
  refine loop4 (F20_l2_succ _) (fun m x0 x2 x4 x46 w => ∃ (seen : List Nat) (E : List (Con × Ey × Nat)), x0 = ptr fb 0 ∧ x2 = I now ∧ x4 = ptr b4 0 ∧ x46 = ptr r 0 ∧ MW E f.mck ∧ m = (E.filter fun e => decide (e.2.2 ∉ seen)).length ∧
    E = (f.ents.filter fun e => !(decide (e.2.2 ∈ seen) && decide (e.2.1.1 ≤ now))) ∧
    Hp w0 w (⟨r, .o (iobj mb f.mck seen f.mck), []⟩ :: ⟨b4, .t 45, p.enc⟩ :: ⟨fb, .t 117, [sr, sc, I f.limit, I f.life, .map (some mb), I f.made, I f.clock]⟩ :: ⟨mb, .o (mobj kC vE E f.mck), []⟩ :: F)) ?_ (m := (f.ents.filter fun e => decide (e.2.2 ∉ ([] : List Nat))).length)
    ⟨[], f.ents, rfl, rfl, rfl, rfl, hw, rfl, by symm; rw [List.filter_eq_self]; intro e he; simp, H⟩
  clear H
  rintro m k _ _ _ _ w ⟨seen, E, rfl, rfl, rfl, rfl, hE, rfl, hEq, H⟩ hk
  unfold F20_b2
  refine next_h (key := kC) (val := vE) (ents := E) (clock := f.mck) H has (fun e he => hE.lt e he) (Nat.le_refl _) (fun hall => ?_) (fun w e he hns H => ?_)
  · simp only [W0]
    refine g w ?_
    have : E = (f.expire now).ents := by
      rw [hEq]
      refine List.filter_congr fun e he => ?_
      rw [Bool.eq_iff_iff]
      simp only [Bool.not_eq_true', Bool.and_eq_false_iff, decide_eq_false_iff_not, decide_eq_true_eq]
      constructor
      · intro h
        rcases h with h | h
        · have hmem : e ∈ E := by
            rw [hEq, List.mem_filter]
            exact ⟨he, by simp [h]⟩
          exact absurd (hall e hmem) h
        · omega
      · intro h; exact .inr (by omega)
    have hcl : (f.expire now).clock = f.clock := hc.symm
    rw [← this, hcl]
    exact H.tail
  · simp only [W0]
    unfold F20_j20
    refine entry_h (key := kC) (val := vE) (ents := E) H has he hE ?_
    simp only [W0]
    refine al_m (ys := [I 0, U32 0, U32 0, I 0, I 0]) H (by kernel_rfl) fun w b5 H => ?_
    refine al_m (ys := [I 0, I 0]) H (by kernel_rfl) fun w b6 H => ?_
    obtain ⟨⟨k1, k2, k3, k4, k5⟩, ⟨v1, v2⟩, bn⟩ := e
    unfold kC vE Con.enc
    refine stA_a fun w H => ?_
    refine stA_a fun w H => ?_
    (try simp only [W0])
    refine ld_a ?_
    have hnew : ∀ e ∈ E, e.2.2 = bn → e = ((k1, k2, k3, k4, k5), (v1, v2), bn) := by
      intro e he' hb
      have hnd : (E.map (·.2.2)).Nodup := hE.bn.imp fun h => Nat.ne_of_lt h
      obtain ⟨i, hi, e1⟩ := List.getElem_of_mem he'
      obtain ⟨j, hj, e2⟩ := List.getElem_of_mem he
      have h3 : (E.map (·.2.2))[i]'(by simpa using hi) = (E.map (·.2.2))[j]'(by simpa using hj) := by
        rw [List.getElem_map, List.getElem_map, e1, e2]; exact hb
      have hij : i = j := nd_inj hnd _ _ h3
      subst hij
      rw [← e1, e2]
    have hdec : (List.filter (fun e => decide (e.2.2 ∉ seen ++ [bn])) E).length < (List.filter (fun e => decide (e.2.2 ∉ seen)) E).length := by
      have hsub : List.Sublist (List.filter (fun e => decide (e.2.2 ∉ seen ++ [bn])) E) (List.filter (fun e => decide (e.2.2 ∉ seen)) E) := by
        refine filter_sub (fun e => ?_) E
        simp only [List.mem_append, List.mem_singleton, not_or, decide_eq_true_eq]
        exact fun h => h.1
      rcases Nat.lt_or_ge (List.filter (fun e => decide (e.2.2 ∉ seen ++ [bn])) E).length (List.filter (fun e => decide (e.2.2 ∉ seen)) E).length with h | h
      · exact h
      · have := hsub.eq_of_length_le h
        have hm1 : ((k1, k2, k3, k4, k5), (v1, v2), bn) ∈ List.filter (fun e => decide (e.2.2 ∉ seen)) E := List.mem_filter.2 ⟨he, by simpa using hns⟩
        rw [← this] at hm1
        have := (List.mem_filter.1 hm1).2
        simp at this
    refine leq_k (fun hx => ?_) (fun hx => ?_)
    · simp only [W0]
      refine drew_k H fun w H => ?_
      (try simp only [W0])
      refine ld_a ?_
      refine ldA_a ?_
      (try simp only [W0])
      refine delete_h mapC (k1, k2, k3, k4, k5) (ents := E) H updd fun w H => ?_
      have hdel : mdel (k1, k2, k3, k4, k5) E = f.ents.filter fun e => !(decide (e.2.2 ∈ seen ++ [bn]) && decide (e.2.1.1 ≤ now)) := by
        rw [mdel_eq hE.nd]
        rw [hEq, List.filter_filter]
        refine List.filter_congr fun e hef => ?_
        have heE : (!(decide (e.2.2 ∈ seen) && decide (e.2.1.1 ≤ now))) = true → e ∈ E := fun h => by rw [hEq, List.mem_filter]; exact ⟨hef, h⟩
        rw [Bool.eq_iff_iff]
        simp only [Bool.and_eq_true, decide_eq_true_eq, Bool.not_eq_true', Bool.and_eq_false_iff, decide_eq_false_iff_not, List.mem_append, List.mem_singleton, not_or]
        constructor
        · rintro ⟨h1, h2⟩
          have hE' := heE (by simpa [Bool.and_eq_false_iff] using h2)
          by_cases hb : e.2.2 = bn
          · have := hnew e hE' hb
            subst this; exact absurd rfl h1
          · rcases h2 with h2 | h2
            · exact .inl ⟨h2, hb⟩
            · exact .inr h2
        · rintro (⟨h1, h2⟩ | h1)
          · refine ⟨?_, .inl h1⟩
            intro hkk
            have hE' := heE (by simp [h1])
            have hnd := hE.nd
            obtain ⟨i, hi, e1⟩ := List.getElem_of_mem hE'
            obtain ⟨j, hj, e2⟩ := List.getElem_of_mem he
            have h3 : (mkeys E)[i]'(by simpa [mkeys] using hi) = (mkeys E)[j]'(by simpa [mkeys] using hj) := by
              simp only [mkeys, List.getElem_map, e1, e2]; exact hkk
            have hij : i = j := nd_inj hnd _ _ h3
            subst hij
            rw [e1] at e2; rw [e2] at h2; exact h2 rfl
          · refine ⟨?_, .inr h1⟩
            intro hkk
            have hE' := heE (by simp; omega)
            have hnd := hE.nd
            obtain ⟨i, hi, e1⟩ := List.getElem_of_mem hE'
            obtain ⟨j, hj, e2⟩ := List.getElem_of_mem he
            have h3 : (mkeys E)[i]'(by simpa [mkeys] using hi) = (mkeys E)[j]'(by simpa [mkeys] using hj) := by
              simp only [mkeys, List.getElem_map, e1, e2]; exact hkk
            have hij : i = j := nd_inj hnd _ _ h3
            subst hij
            rw [e1] at e2; rw [e2] at h1; exact h1 hx
      have hlt : (List.filter (fun e => decide (e.2.2 ∉ seen ++ [bn])) (mdel (k1, k2, k3, k4, k5) E)).length < (List.filter (fun e => decide (e.2.2 ∉ seen)) E).length := by
        refine Nat.lt_of_le_of_lt ?_ hdec
        rw [mdel_eq hE.nd]
        exact (List.Sublist.filter _ List.filter_sublist).length_le
      exact hk _ _ _ _ _ _ hlt ⟨seen ++ [bn], mdel (k1, k2, k3, k4, k5) E, rfl, rfl, rfl, rfl, hE.del, rfl, hdel, H.tail.tail⟩
    · simp only [W0]
      have hsame : E = f.ents.filter fun e => !(decide (e.2.2 ∈ seen ++ [bn]) && decide (e.2.1.1 ≤ now)) := by
        rw [hEq]
        refine List.filter_congr fun e hef => ?_
        have heE : (!(decide (e.2.2 ∈ seen) && decide (e.2.1.1 ≤ now))) = true → e ∈ E := fun h => by rw [hEq, List.mem_filter]; exact ⟨hef, h⟩
        rw [Bool.eq_iff_iff]
        simp only [Bool.and_eq_true, decide_eq_true_eq, Bool.not_eq_true', Bool.and_eq_false_iff, decide_eq_false_iff_not, List.mem_append, List.mem_singleton, not_or]
        constructor
        · intro h2
          have hE' := heE (by simpa [Bool.and_eq_false_iff] using h2)
          by_cases hb : e.2.2 = bn
          · have := hnew e hE' hb
            subst this; exact .inr hx
          · rcases h2 with h2 | h2
            · exact .inl ⟨h2, hb⟩
            · exact .inr h2
        · rintro (⟨h1, h2⟩ | h1)
          · exact .inl h1
          · exact .inr h1
      exact hk _ _ _ _ _ _ hdec ⟨seen ++ [bn], E, rfl, rfl, rfl, rfl, hE, rfl, hsame, H.tail.tail⟩
end
end Go.Proofs.Ytmmbepdghpjgeaa.Den
