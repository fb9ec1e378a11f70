/- Packet filter, the reader of a rule's text: counted, ports, pattern. Conditions: none. -/
import Derived.Test.YtmmbepdghpjgeaaFlC
set_option linter.unusedVariables false
set_option linter.unusedSimpArgs false
set_option maxRecDepth 8000
set_option maxHeartbeats 1000000
namespace Go.Proofs.Ytmmbepdghpjgeaa.Den
open Go Go.RowKit
section
variable {w w' w0 : World} {L L' F cs A X Y : List Chunk} {s : Value} {K : VK} {R : ER} {b i j at' : Nat} {S : ByteArray}
theorem sign_le {c : Nat} (h : signP S i c = some j) (hc : c ≠ 10) : j = i + 1 ∧ j ≤ S.size := by
  unfold signP at h
  split at h
  · rename_i h1
    injection h with h
    refine ⟨h.symm, ?_⟩
    rcases Nat.lt_or_ge i S.size with g | g
    · omega
    · rw [chr_out g] at h1; exact absurd h1.symm hc
  · cases h
theorem num_le {low high no : Int} {n : Nat} (h : numP S i low high no = some (n, j)) (hi : i ≤ S.size) : j ≤ S.size ∧ i < j ∧ low ≤ (n : Int) ∧ (n : Int) ≤ high ∧ (n : Int) ≠ no := by
  unfold numP at h
  simp only at h
  split at h
  · cases h
  rename_i hv
  injection h with h
  obtain ⟨rfl, rfl⟩ := Prod.mk.inj h
  have hne : (digitsOf ((bts S).drop i)).length ≠ 0 := fun h => hv (.inl (List.length_eq_zero_iff.1 h))
  obtain ⟨x, h1, _⟩ := digitsOf_get ((bts S).drop i) ((digitsOf ((bts S).drop i)).length - 1) (by omega)
  have := (List.getElem?_eq_some_iff.1 h1).1
  rw [List.length_drop, bts_len] at this
  refine ⟨by omega, by omega, ?_, ?_, fun h => hv (.inr (.inr (.inr h)))⟩
  · have := fun h => hv (.inr (.inl h)); omega
  · have := fun h => hv (.inr (.inr (.inl h))); omega
theorem fcounted_spec {n : Nat} (H : Hp w0 w L) (hu : Upd L b (.t 102) [.string S, I (i : Int)] (.t 102) [.string S, I (j : Int)] L') (hn : countP S i = some (n, j)) (hS : S.size ≤ 1000) (hi : i ≤ S.size) :
    Calls Pg 84 ⟨[ptr b 0]⟩ w fun e w' => e = .returned (I (n : Int)) ∧ Hp w0 w' L' := by
  obtain ⟨X, Y, rfl, rfl⟩ := hu
  unfold countP at hn
  simp only [Option.bind_eq_bind, Option.bind_eq_some_iff] at hn
  obtain ⟨i1, h1, ⟨n', i2⟩, h2, h3⟩ := hn
  simp only at h3
  split at h3
  · rename_i hend
    injection h3 with h3
    obtain ⟨rfl, rfl⟩ := Prod.mk.inj h3
    have hs := sign_le h1 (by decide)
    have hq := num_le h2 hs.2
    apply F84_calls
    unfold F84
    refine cal_h (fsign_spec (c := 32) H updP h1 (by omega)) ?_
    rintro _ w ⟨rfl, H⟩
    simp only [W0]
    refine cal_h (fnumber_spec H updP h2 (by decide) (by decide) (by decide) (by decide) hS hs.2) ?_
    rintro _ w ⟨rfl, H⟩
    simp only [W0]
    unfold F84_j2
    simp only [W0]
    refine ld_m H hasP (v := I (i2 : Int)) rfl ?_
    refine cal_h (fends_spec H hasP) ?_
    rintro _ w ⟨rfl, H⟩
    rw [hend]
    simp only [W0]
    unfold F84_j1
    exact ⟨rfl, H⟩
  · cases h3
theorem fports_spec {r : Rng} (H : Hp w0 w L) (hu : Upd L b (.t 102) [.string S, I (i : Int)] (.t 102) [.string S, I (j : Int)] L') (hn : portsP S i = some (r, j)) (hS : S.size ≤ 1000) (hi : i ≤ S.size) :
    Calls Pg 92 ⟨[ptr b 0]⟩ w fun e w' => e = .returned (.agg ⟨[I r.low, I r.high]⟩) ∧ Hp w0 w' L' := by
  obtain ⟨X, Y, rfl, rfl⟩ := hu
  unfold portsP at hn
  simp only [Option.bind_eq_bind, Option.bind_eq_some_iff] at hn
  obtain ⟨i1, h1, ⟨l, i2⟩, h2, i3, h3, ⟨h, i4⟩, h4, h5⟩ := hn
  simp only at h2 h3 h4 h5
  split at h5
  · rename_i hend
    injection h5 with h5
    obtain ⟨rfl, rfl⟩ := Prod.mk.inj h5
    have hs := sign_le h1 (by decide)
    have hq := num_le h2 hs.2
    have hs3 := sign_le h3 (by decide)
    have hq4 := num_le h4 hs3.2
    generalize hQ : (fun (e : Ending) (w' : World) => e = .returned (.agg ⟨[I ((⟨(l : Int), (h : Int)⟩ : Rng)).low, I ((⟨(l : Int), (h : Int)⟩ : Rng)).high]⟩) ∧ Hp w0 w' (X ++ ⟨b, .t 102, [.string S, I (i4 : Int)]⟩ :: Y) : ER) = Q
    apply F92_calls
    unfold F92
    refine al_m (ys := [I 0, I 0]) H (by kernel_rfl) fun w x2 H => ?_
    refine cal_h (fsign_spec (c := 32) H updP.cons h1 (by omega)) ?_
    rintro _ w ⟨rfl, H⟩
    simp only [W0]
    refine cal_h (fnumber_spec H updP.cons h2 (by decide) (by decide) (by decide) (by decide) hS hs.2) ?_
    rintro _ w ⟨rfl, H⟩
    simp only [W0]
    refine cal_h (fsign_spec (c := 58) H updP.cons h3 (by omega)) ?_
    rintro _ w ⟨rfl, H⟩
    simp only [W0]
    have go : ∀ no : Int, no = (if l = 0 then 65535 else -1) → F92_j1 Q (ptr b 0) (ptr x2 0) (I (l : Int)) (I no) w := by
      rintro no rfl
      unfold F92_j1
      refine cal_h (fnumber_spec H updP.cons h4 (by omega) (by omega) (by decide) (by decide) hS hs3.2) ?_
      rintro _ w ⟨rfl, H⟩
      simp only [W0]
      refine bld_a ?_
      refine al_m (ys := [I 0, I 0]) H (by kernel_rfl) fun w x5 H => ?_
      refine stA_a fun w H => ?_
      unfold F92_j3
      simp only [W0]
      refine ld_m H hasP.cons.cons (v := I (i4 : Int)) rfl ?_
      refine cal_h (fends_spec H hasP.cons.cons) ?_
      rintro _ w ⟨rfl, H⟩
      rw [hend]
      simp only [W0]
      unfold F92_j2
      refine ldA_a ?_
      refine stA_a fun w H => ?_
      refine ldA_a ?_
      subst hQ
      exact ⟨rfl, H.tail.tail⟩
    refine eql_k (fun h0 => ?_) (fun h0 => ?_)
    · simp only [W0]
      exact go _ (by rw [if_pos (by omega)])
    · simp only [W0]
      exact go _ (by rw [if_neg (by omega)])
  · cases h5
end
end Go.Proofs.Ytmmbepdghpjgeaa.Den
