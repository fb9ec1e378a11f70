/- Packet filter, the reader of a rule's text: side. Conditions: none. -/
import Derived.Test.YtmmbepdghpjgeaaFlG
set_option linter.unusedVariables false
set_option linter.unusedSimpArgs false
set_option maxRecDepth 8000
set_option maxHeartbeats 1000000
namespace Go.Proofs.Ytmmbepdghpjgeaa.Den
open Go Go.RowKit
theorem elStr : ElT 104 9 cStr.sz 16 [.string ⟨⟨[]⟩⟩] := ⟨by kernel_rfl, by kernel_rfl, rfl⟩
theorem wPort_ok : wPort.size ≤ 1000 ∧ ∀ x ∈ bts wPort, x ≠ 32 ∧ x ≠ 10 := ⟨by decide, by intro x hx; have : bts wPort = [112, 111, 114, 116] := rfl; rw [this] at hx; simp at hx; rcases hx with rfl | rfl | rfl | rfl <;> decide⟩
section
variable {α : Type} {C : Cod α} {xs : List α} {w0 : World} {cs : List Chunk} {s : Value} {el lo : Nat}
theorem TS.tag (h : TS C el s xs cs) : ∀ c ∈ cs, c.t = .t el := by
  rcases h with ⟨rfl, _⟩ | ⟨b, cap, rest, rfl, rfl, _⟩
  · intro c hc; cases hc
  · intro c hc; rw [List.mem_singleton.1 hc]
theorem slRfrom_t (hz : 0 < C.sz) (h : TR C w0 cs s xs) (h1 : lo ≤ xs.length) : ∃ s', slS C.sz s (some (I (lo : Int))) none = some s' ∧ TR C w0 cs s' (xs.drop lo) := by
  obtain ⟨s', h3, h4⟩ := slR_t hz h h1 (Nat.le_refl _)
  rw [List.take_of_length_le (by simp)] at h4
  refine ⟨s', ?_, h4⟩
  rw [← h3]
  have key : ∀ (a : Option Addr) (n c : Nat), n ≤ c → slS C.sz (.slice a n c) (some (I (lo : Int))) none = slS C.sz (.slice a n c) (some (I (lo : Int))) (some (I (n : Int))) := by
    intro a n c hc
    have e : (n : Int) ≤ (c : Int) := by omega
    simp [slS, boundO, e]
  rcases h with (⟨c, rfl, h0, _⟩ | ⟨a, c, rfl, hc, _⟩) | ⟨b, o, c, e, l, rfl, hc, _⟩
  · have h00 : xs.length = 0 := by
      rcases Nat.mul_eq_zero.1 h0 with h | h
      · exact h
      · omega
    rw [h00]; exact key _ _ _ (Nat.zero_le _)
  · exact key _ _ _ hc
  · exact key _ _ _ hc
end
section
variable {w w' w0 : World} {L L' F cs A X Y : List Chunk} {s : Value} {K : VK} {R : ER} {b i j at' : Nat} {S : ByteArray}
theorem mem_par {t : Nat} {l l' : List Value} (m : ∀ c ∈ cs, c ∈ X ++ ⟨b, .t t, l⟩ :: Y) (mt : ∀ c ∈ cs, c.t ≠ .t t) : ∀ c ∈ cs, c ∈ X ++ ⟨b, .t t, l'⟩ :: Y := by
  intro c hc
  have h1 := m c hc
  have h2 := mt c hc
  simp only [List.mem_append, List.mem_cons] at h1 ⊢
  rcases h1 with h | h | h
  · exact .inl h
  · subst h; exact absurd rfl h2
  · exact .inr (.inr h)
theorem more_le {m : Bool} (h : moreP S i = some (m, j)) (hi : i ≤ S.size) : j ≤ S.size ∧ i ≤ j := by
  unfold moreP at h
  split at h
  · injection h with h
    obtain ⟨rfl, rfl⟩ := Prod.mk.inj h; exact ⟨hi, Nat.le_refl _⟩
  · cases hs : signP S i 32 with
    | none => rw [hs] at h; cases h
    | some j' =>
      rw [hs] at h
      injection h with h
      obtain ⟨rfl, rfl⟩ := Prod.mk.inj h
      have := sign_le hs (by decide); omega
theorem choose_le {ws : List ByteArray} {k : Nat} (h : chooseP S i ws = some (k, j)) (hi : i ≤ S.size) : j ≤ S.size ∧ k < ws.length := by
  unfold chooseP at h
  rw [Option.map_eq_some_iff] at h
  obtain ⟨k', hk, hn⟩ := h
  obtain ⟨rfl, rfl⟩ := Prod.mk.inj hn
  rw [List.findIdx?_eq_some_iff_getElem] at hk
  obtain ⟨hk1, _⟩ := hk
  refine ⟨?_, hk1⟩
  rcases Nat.eq_zero_or_pos (wordAt S i).length with h | h
  · omega
  · have := (run_at (S := S) (i := i) (n := (wordAt S i).length - 1) (by omega)).2.2; omega
theorem ports_le {r : Rng} (hn : portsP S i = some (r, j)) (hi : i ≤ S.size) : j ≤ S.size := by
  unfold portsP at hn
  simp only [Option.bind_eq_bind, Option.bind_eq_some_iff] at hn
  obtain ⟨i1, h1, ⟨l, i2⟩, h2, i3, h3, ⟨h, i4⟩, h4, h5⟩ := hn
  simp only at h2 h3 h4 h5
  split at h5
  · injection h5 with h5
    obtain ⟨rfl, rfl⟩ := Prod.mk.inj h5
    exact (num_le h4 (sign_le h3 (by decide)).2).1
  · cases h5
theorem pat_le {p : Pat} (hn : patP S i = some (p, j)) (hi : i ≤ S.size) : j ≤ S.size := by
  unfold patP at hn
  simp only [Option.bind_eq_bind, Option.bind_eq_some_iff] at hn
  obtain ⟨⟨a1, i1⟩, h1, i2, h2, ⟨a2, i3⟩, h3, i4, h4, ⟨a3, i5⟩, h5, i6, h6, ⟨a4, i7⟩, h7, i8, h8, ⟨nb, i9⟩, h9, h10⟩ := hn
  simp only at h8 h9 h10
  split at h10
  · injection h10 with h10
    obtain ⟨rfl, rfl⟩ := Prod.mk.inj h10
    exact (num_le h9 (sign_le h8 (by decide)).2).1
  · cases h10
def tailP (S : ByteArray) (next : List ByteArray) (a : Pat) (i : Nat) : Option (Pat × Rng × Int × Nat) := do
  let (r, i) ← portsP S i
  let (m, i) ← moreP S i
  if m then
    let (k, i) ← chooseP S i next
    some (a, r, (k : Int), i)
  else some (a, r, -1, i)
theorem tail_le {next : List ByteArray} {a a' : Pat} {r : Rng} {k : Int} (h : tailP S next a i = some (a', r, k, j)) (hi : i ≤ S.size) : j ≤ S.size := by
  unfold tailP at h
  simp only [Option.bind_eq_bind, Option.bind_eq_some_iff] at h
  obtain ⟨⟨r', i1⟩, h1, ⟨m, i2⟩, h2, h3⟩ := h
  simp only at h2 h3
  have q1 := ports_le h1 hi
  have q2 := more_le h2 q1
  cases m with
  | false =>
    simp only [Bool.false_eq_true, if_false, Option.some.injEq, Prod.mk.injEq] at h3
    obtain ⟨rfl, rfl, rfl, rfl⟩ := h3; exact q2.1
  | true =>
    simp only [if_true, Option.bind_eq_some_iff, Option.some.injEq, Prod.mk.injEq] at h3
    obtain ⟨⟨k', i3⟩, h4, rfl, rfl, rfl, rfl⟩ := h3
    exact (choose_le h4 q2.1).1
theorem tail_spec {Q : ER} {nxt : List ByteArray} {a a' : Pat} {r : Rng} {k : Int} {x4 x5 : Nat} (hws : TR cStr w0 cs s nxt) (m1 : ∀ c ∈ cs, c ∈ X ++ ⟨b, .t 102, [.string S, I (i : Int)]⟩ :: Y) (mt : ∀ c ∈ cs, c.t ≠ .t 102)
    (H : Hp w0 w (⟨x5, .t 27, [I 0, I 65535]⟩ :: ⟨x4, .t 25, a.enc⟩ :: (X ++ ⟨b, .t 102, [.string S, I (i : Int)]⟩ :: Y))) (hn : tailP S nxt a i = some (a', r, k, j))
    (hw : ∀ wd ∈ nxt, wd.size ≤ 1000 ∧ ∀ x ∈ bts wd, x ≠ 32 ∧ x ≠ 10) (hwl : nxt.length ≤ 1000) (hS : S.size ≤ 1000) (hi : i ≤ S.size)
    (g : ∀ w', Hp w0 w' (X ++ ⟨b, .t 102, [.string S, I (j : Int)]⟩ :: Y) → Q (.returned (.tuple ⟨[.agg ⟨a'.enc⟩, .agg ⟨[I r.low, I r.high]⟩, I k]⟩)) w') :
    F85_j1 Q (ptr b 0) s (ptr x4 0) (ptr x5 0) w := by
  unfold tailP at hn
  simp only [Option.bind_eq_bind, Option.bind_eq_some_iff] at hn
  obtain ⟨⟨r', i1⟩, h1, ⟨m, i2⟩, h2, h3⟩ := hn
  simp only at h2 h3
  have q1 := ports_le h1 hi
  have q2 := more_le h2 q1
  unfold F85_j1
  refine cal_h (fports_spec H updP.cons.cons h1 hS hi) ?_
  rintro _ w ⟨rfl, H⟩
  simp only [W0]
  refine stA_a fun w H => ?_
  refine cal_h (fmore_spec H updP.cons.cons h2 (by omega)) ?_
  rintro _ w ⟨rfl, H⟩
  simp only [W0]
  cases m with
  | false =>
    simp only [Bool.false_eq_true, if_false, Option.some.injEq, Prod.mk.injEq] at h3
    obtain ⟨rfl, rfl, rfl, rfl⟩ := h3
    simp only [W0]
    refine drew_k H fun w H => ?_
    unfold Pat.enc at H
    refine ldA_a ?_
    refine ldA_a ?_
    try simp only [W0]
    refine stA_a fun w H => ?_
    refine rdA_s ?_
    try simp only [W0]
    refine stA_a fun w H => ?_
    refine ldA_a ?_
    refine ldA_a ?_
    exact g w H.tail.tail
  | true =>
    simp only [if_true, Option.bind_eq_some_iff, Option.some.injEq, Prod.mk.injEq] at h3
    obtain ⟨⟨k', i3⟩, h4, rfl, rfl, rfl, rfl⟩ := h3
    simp only [W0]
    refine drew_k H fun w H => ?_
    unfold Pat.enc at H
    refine ldA_a ?_
    refine ldA_a ?_
    try simp only [W0]
    refine cal_h (fchoose_spec hws (fun c hc => List.mem_cons_of_mem _ (List.mem_cons_of_mem _ (mem_par m1 mt c hc))) H updP.cons.cons h4 hw hwl hS q2.1) ?_
    rintro _ w ⟨rfl, H⟩
    simp only [W0]
    refine rdA_s ?_
    refine rdA_s ?_
    try simp only [W0]
    refine stA_a fun w H => ?_
    refine rdA_s ?_
    try simp only [W0]
    refine stA_a fun w H => ?_
    refine ldA_a ?_
    refine ldA_a ?_
    exact g w H.tail.tail
theorem fside_spec {nxt : List ByteArray} {a : Pat} {r : Rng} {k : Int} (hws : TR cStr w0 cs s nxt) (m1 : ∀ c ∈ cs, c ∈ L) (mt : ∀ c ∈ cs, c.t ≠ .t 102)
    (H : Hp w0 w L) (hu : Upd L b (.t 102) [.string S, I (i : Int)] (.t 102) [.string S, I (j : Int)] L') (hn : sideP S i nxt = some (a, r, k, j))
    (hw : ∀ wd ∈ nxt, wd.size ≤ 1000 ∧ ∀ x ∈ bts wd, x ≠ 32 ∧ x ≠ 10) (hwl : nxt.length ≤ 900) (hS : S.size ≤ 1000) (hi : i ≤ S.size) :
    Calls Pg 85 ⟨[ptr b 0, s]⟩ w fun e w' => e = .returned (.tuple ⟨[.agg ⟨a.enc⟩, .agg ⟨[I r.low, I r.high]⟩, I k]⟩) ∧ Hp w0 w' L' := by
  obtain ⟨X, Y, rfl, rfl⟩ := hu
  unfold sideP at hn
  simp only [Option.bind_eq_bind, Option.bind_eq_some_iff] at hn
  obtain ⟨i1, h1, h2⟩ := hn
  have q1 := sign_le h1 (by decide)
  have hti : ∀ (a : Pat) (i : Nat), ((portsP S i).bind fun __discr => (moreP S __discr.2).bind fun __discr_1 => if __discr_1.1 = true then (chooseP S __discr_1.2 nxt).bind fun __discr_2 => some (a, __discr.1, (__discr_2.1 : Int), __discr_2.2) else some (a, __discr.1, -1, __discr_1.2)) = tailP S nxt a i := fun _ _ => rfl
  simp only [hti] at h2
  generalize hQ : (fun (e : Ending) (w' : World) => e = .returned (.tuple ⟨[.agg ⟨a.enc⟩, .agg ⟨[I r.low, I r.high]⟩, I k]⟩) ∧ Hp w0 w' (X ++ ⟨b, .t 102, [.string S, I (j : Int)]⟩ :: Y) : ER) = Q
  apply F85_calls
  unfold F85
  refine al_m (ys := [U32 0, I 0, .bool false]) H (by kernel_rfl) fun w x4 H => ?_
  refine al_m (ys := [I 0, I 0]) H (by kernel_rfl) fun w x5 H => ?_
  refine bld_a ?_
  refine stA_a fun w H => ?_
  refine cal_h (fsign_spec (c := 32) H updP.cons.cons h1 (by omega)) ?_
  rintro _ w ⟨rfl, H⟩
  simp only [W0]
  unfold F85_j2
  simp only [W0]
  refine ld_m H hasP.cons.cons (v := I (i1 : Int)) rfl ?_
  refine cal_h (fchar_spec H hasP.cons.cons) ?_
  rintro _ w ⟨rfl, H⟩
  simp only [W0]
  have m2 : ∀ (i2 : Nat), ∀ c ∈ cs, c ∈ X ++ ⟨b, .t 102, [.string S, I (i2 : Int)]⟩ :: Y := fun i2 => mem_par m1 mt
  have hwp : ∀ wd ∈ wPort :: nxt, wd.size ≤ 1000 ∧ ∀ x ∈ bts wd, x ≠ 32 ∧ x ≠ 10 := by
    intro wd hwd
    rcases List.mem_cons.1 hwd with rfl | hwd
    · exact wPort_ok
    · exact hw wd hwd
  have yes : (chr S i1 = 33 ∨ isDig (chr S i1) = true) → F85_j3 Q (ptr b 0) s (ptr x4 0) (ptr x5 0) (.bool true) w := by
    intro hc
    rw [if_pos hc] at h2
    simp only [Option.bind_eq_some_iff] at h2
    obtain ⟨⟨a', i2⟩, h3, ⟨m, i3⟩, h4, h5⟩ := h2
    simp only at h4 h5
    have q2 := pat_le h3 q1.2
    have q3 := more_le h4 q2
    unfold F85_j3
    simp only [W0]
    unfold F85_j4
    refine cal_h (fpattern_spec H updP.cons.cons h3 hS q1.2) ?_
    rintro _ w ⟨rfl, H⟩
    simp only [W0]
    unfold Pat.enc
    refine stA_a fun w H => ?_
    refine cal_h (fmore_spec H updP.cons.cons h4 (by omega)) ?_
    rintro _ w ⟨rfl, H⟩
    simp only [W0]
    cases m with
    | false =>
      simp only [Bool.false_eq_true, if_false, Option.some.injEq, Prod.mk.injEq] at h5
      obtain ⟨rfl, rfl, rfl, rfl⟩ := h5
      simp only [W0]
      refine drew_k H fun w H => ?_
      refine ldA_a ?_
      refine ldA_a ?_
      try simp only [W0]
      refine stA_a fun w H => ?_
      refine rdA_s ?_
      try simp only [W0]
      refine stA_a fun w H => ?_
      refine ldA_a ?_
      refine ldA_a ?_
      subst hQ
      exact ⟨rfl, H.tail.tail⟩
    | true =>
      simp only [if_true, Option.bind_eq_some_iff] at h5
      obtain ⟨⟨k', i4⟩, h6, h7⟩ := h5
      simp only at h7
      have q4 := choose_le h6 q3.1
      have q4l : k' ≤ nxt.length := by have := q4.2; rw [List.length_cons] at this; omega
      simp only [W0]
      unfold F85_j5
      refine lit1_t (C := cStr) (x := wPort) elStr H rfl (by decide) fun w s6 c6 H h6s => ?_
      refine append_t (F := ⟨x5, .t 27, [I 0, I 65535]⟩ :: ⟨x4, .t 25, [U32 a'.adr, I a'.bits, .bool a'.no]⟩ :: (X ++ ⟨b, .t 102, [.string S, I (i3 : Int)]⟩ :: Y)) elStr H h6s Split.here hws (fun c hc => List.mem_append_right _ (List.mem_cons_of_mem _ (List.mem_cons_of_mem _ (m2 i3 c hc)))) (by simp; omega) (by simp; omega) fun w s7 c7 H h7s => ?_
      refine cal_h (fchoose_spec (ws := wPort :: nxt) h7s.tr (fun c hc => List.mem_append_left _ hc) H updP.cons.cons.app h6 hwp (by simp; omega) hS q3.1) ?_
      rintro _ w ⟨rfl, H⟩
      replace H := H.right
      simp only [W0]
      refine gtr_k (fun h0 => ?_) (fun h0 => ?_)
      · rw [if_pos (by omega)] at h7
        simp only [Option.some.injEq, Prod.mk.injEq] at h7
        obtain ⟨rfl, rfl, rfl, rfl⟩ := h7
        simp only [W0]
        refine drew_k H fun w H => ?_
        refine ldA_a ?_
        refine ldA_a ?_
        refine sub_k (by omega) (by omega) rfl ?_
        try simp only [W0]
        refine stA_a fun w H => ?_
        refine rdA_s ?_
        try simp only [W0]
        refine stA_a fun w H => ?_
        refine ldA_a ?_
        refine ldA_a ?_
        subst hQ
        exact ⟨rfl, H.tail.tail⟩
      · rw [if_neg (by omega)] at h7
        simp only [W0]
        refine tail_spec (a := a') hws (m2 i4) mt H h7 hw (by omega) hS q4.1 fun w' H' => ?_
        subst hQ
        exact ⟨rfl, H'⟩
  have noo : ¬ (chr S i1 = 33 ∨ isDig (chr S i1) = true) → F85_j3 Q (ptr b 0) s (ptr x4 0) (ptr x5 0) (.bool false) w := by
    intro hc
    rw [if_neg hc] at h2
    simp only [Option.bind_eq_some_iff] at h2
    obtain ⟨⟨k', i2⟩, h3, h4⟩ := h2
    simp only at h4
    have q2 := choose_le h3 q1.2
    unfold F85_j3
    simp only [W0]
    refine lit1_t (C := cStr) (x := wPort) elStr H rfl (by decide) fun w s6 c6 H h6s => ?_
    refine cal_h (fchoose_spec (ws := [wPort]) h6s.tr (fun c hc => List.mem_append_left _ hc) H updP.cons.cons.app h3 (by intro wd hwd; rw [List.mem_singleton.1 hwd]; exact wPort_ok) (by decide) hS q1.2) ?_
    rintro _ w ⟨rfl, H⟩
    replace H := H.right
    simp only [W0]
    refine tail_spec (a := ⟨0, 0, false⟩) hws (m2 i2) mt H h4 hw (by omega) hS q2.1 fun w' H' => ?_
    subst hQ
    exact ⟨rfl, H'⟩
  have hdg : isDig (chr S i1) = (decide (48 ≤ chr S i1) && decide (chr S i1 ≤ 57)) := rfl
  refine eql_k (fun h0 => ?_) (fun h0 => ?_)
  · try simp only [W0]
    exact yes (.inl (by omega))
  · try simp only [W0]
    refine geq_k (fun h3 => ?_) (fun h3 => ?_)
    · try simp only [W0]
      refine leq_k (fun h4 => ?_) (fun h4 => ?_)
      · try simp only [W0]
        exact yes (.inr (by rw [hdg, decide_eq_true (by omega), decide_eq_true (by omega)]; rfl))
      · try simp only [W0]
        exact noo (by rintro (h | h); omega; rw [hdg] at h; simp at h; omega)
    · try simp only [W0]
      exact noo (by rintro (h | h); omega; rw [hdg] at h; simp at h; omega)
end
end Go.Proofs.Ytmmbepdghpjgeaa.Den
