/- Packet filter: Decide (what makes a state is asked for apart), its walk. Conditions: none. -/
import Derived.Test.YtmmbepdghpjgeaaFlR
set_option linter.unusedVariables false
set_option linter.unusedSimpArgs false
set_option maxRecDepth 8000
set_option maxHeartbeats 1000000
namespace Go.Proofs.Ytmmbepdghpjgeaa.Den
open Go Go.RowKit
def cCon : Cod Con := ⟨5, Con.enc, fun _ => rfl, by intro r c hc; simp only [Con.enc, List.mem_cons, List.not_mem_nil, or_false] at hc; rcases hc with rfl | rfl | rfl | rfl | rfl <;> rfl⟩
theorem elCon : ElT 123 119 cCon.sz 32 [I 0, U32 0, U32 0, I 0, I 0] := ⟨by kernel_rfl, by kernel_rfl, rfl⟩
theorem Con.enc_sc (x : Con) : ∀ c ∈ Con.enc x, scalar c = true := cCon.sc x
/-- What holds of a filter; n bounds its counters. -/
structure FS.Inv (n : Nat) (f : FS) : Prop where
  l1 : 1 ≤ f.life
  l2 : f.life ≤ 1099511627776
  mw : MW f.ents f.mck
  cl : f.counts.length = f.rules.length
  cb : ∀ c ∈ f.counts, 0 ≤ c ∧ c ≤ n
  rok : ∀ r ∈ f.rules, r.Ok ∧ r.check = 0
  rl : f.rules.length ≤ 200
  m1 : 0 ≤ f.made
  m2 : f.made ≤ n
section
variable {w w' w0 : World} {L L' F cs A X Y cc cr : List Chunk} {s sr sc : Value} {K : VK} {R : ER} {b i j fb mb n : Nat} {f : FS} {p : Pkt} {now : Int}
theorem FS.Inv.expire (h : f.Inv n) (now : Int) : (f.expire now).Inv n := ⟨h.l1, h.l2, h.mw.sub List.filter_sublist, h.cl, h.cb, h.rok, h.rl, h.m1, h.m2⟩
/-- Looking one connection up. -/
theorem look_round {Q : ER} {k1 : V7} {b4 b12 : Nat} {x75 : Value} {c75 : List Chunk} {cons : List Con} {c : Con} {m : Int} (hi : f.Inv n) (hnow : 0 ≤ now) (hnow2 : now ≤ 1099511627776) (h75 : TR cCon w0 c75 x75 cons) (hc : cons[i]? = some c) (hlen : i < 100)
    (H : Hp w0 w L) (m1 : ∀ c ∈ c75, c ∈ L) (hf : Split L (f.mem fb mb sr sc []) F)
    (g1 : ∀ v, mget c f.ents = some v → ∀ w', Hp w0 w' ((f.put c (now + f.life, v.2)).mem fb mb sr sc F) → Q (.returned (.tuple ⟨[I 1, I (-1), I 0]⟩)) w')
    (g2 : mget c f.ents = none → ∀ w', Hp w0 w' L → k1 (ptr fb 0) (I now) (ptr b4 0) (ptr b12 0) x75 (I m) (I ((i + 1 : Nat) : Int)) w') :
    F20_j12 Q k1 (ptr fb 0) (I now) (ptr b4 0) (ptr b12 0) x75 (I m) (I (i : Int)) w := by
  unfold F20_j12 F20_j14
  refine ixN_t (C := cCon) h75 H m1 hc (by decide) ?_
  refine al_m (ys := [I 0, U32 0, U32 0, I 0, I 0]) H (by kernel_rfl) fun w b5 H => ?_
  refine stA_m H updd (by exact cCon.len c) rfl (by exact cCon.sc c) fun w H => ?_
  refine drew_k H fun w H => ?_
  have hin : ∀ x ∈ f.mem fb mb sr sc [], x ∈ L := fun x hx => (hf.2 x).2 (List.mem_append_left _ hx)
  have hF : (⟨fb, .t 117, [sr, sc, I f.limit, I f.life, .map (some mb), I f.made, I f.clock]⟩ : Chunk) ∈ L := hin _ (by simp [FS.mem])
  have hM : (⟨mb, .o (mobj kC vE f.ents f.mck), []⟩ : Chunk) ∈ L := hin _ (by simp [FS.mem])
  have back : ∀ {w : World} {b5 b6 : Nat} {l5 l6 : List Value} {t5 t6 : Tag}, Hp w0 w (⟨b6, t6, l6⟩ :: ⟨b5, t5, l5⟩ :: L) → Hp w0 w (f.mem fb mb sr sc F) := by
    intro w b5 b6 l5 l6 t5 t6 H
    exact (H.tail.tail).split hf
  simp only [W0]
  refine ld_m (b := fb) (o := 4) (t := 117) (l := [sr, sc, I f.limit, I f.life, .map (some mb), I f.made, I f.clock]) H (Has.cons hF) rfl ?_
  (try simp only [W0])
  refine ldA_m (l := Con.enc c) H has (by exact cCon.len c) ?_
  (try simp only [W0])
  have fin : ∀ (w : World) (b6 : Nat), Hp w0 w (⟨b6, .t 121, [I ((mget c f.ents).getD (0, 0)).1, I ((mget c f.ents).getD (0, 0)).2]⟩ :: ⟨b5, .t 119, Con.enc c⟩ :: L) →
      F20_j15 Q k1 (ptr fb 0) (I now) (ptr b4 0) (ptr b12 0) (ptr b5 0) (ptr b6 0) (.bool (mget c f.ents).isSome) x75 (I m) (I (i : Int)) w := by
    intro w b6 H
    unfold F20_j15 F20_j16
    cases hg : mget c f.ents with
    | none =>
      simp only [Option.isSome_none, W0]
      unfold F20_j13
      refine add_k (z := ((i + 1 : Nat) : Int)) (by omega) (by omega) (by omega) ?_
      exact g2 hg _ H.tail.tail
    | some v =>
      rw [hg] at H
      simp only [Option.isSome_some, W0]
      unfold F20_j17
      refine drew_k H fun w H => ?_
      have H' : Hp w0 w (⟨fb, .t 117, [sr, sc, I f.limit, I f.life, .map (some mb), I f.made, I f.clock]⟩ :: ⟨mb, .o (mobj kC vE f.ents f.mck), []⟩ :: ⟨b6, .t 121, [I v.1, I v.2]⟩ :: ⟨b5, .t 119, Con.enc c⟩ :: F) := by
        refine H.to fun g => ?_
        have := hf.1 g
        simp only [FS.mem, List.map_append, List.map_cons, List.map_nil, List.sum_append, List.sum_cons, List.sum_nil] at this
        simp only [Option.getD_some, List.map_cons, List.sum_cons]
        omega
      clear H
      simp only [W0]
      refine ld_a ?_
      (try simp only [W0])
      refine ldA_m (l := Con.enc c) H' has (by exact cCon.len c) ?_
      (try simp only [W0])
      refine ld_a ?_
      refine add_k (by have := hi.l1; omega) (by have := hi.l2; omega) rfl ?_
      (try simp only [W0])
      refine ld_a ?_
      refine bld_a ?_
      (try simp only [W0])
      refine put_h mapC c (now + f.life, v.2) (ents := f.ents) (clock := f.mck) H' updd fun w H => ?_
      refine g1 v hg w ?_
      refine H.to fun g => ?_
      simp only [FS.mem, FS.put, List.map_cons, List.sum_cons]
      omega
  refine ⟨?_, ?_⟩
  · refine lookup2_h mapC c (ents := f.ents) (clock := f.mck) H (Has.cons hM) ?_
    simp only [W0]
    refine al_m (ys := [I 0, I 0]) H (by kernel_rfl) fun w b6 H => ?_
    refine rdA_m H has (by exact cCon.len c) ?_
    refine rd1_m H (hm := Has.cons (Has.cons hF)) (o := 4) rfl ?_
    unfold lkv vE
    (try simp only [W0])
    refine stA_a fun w H => ?_
    exact fin w b6 H
  · simp only [allW, W0]
    refine al_m (ys := [I 0, I 0]) H (by kernel_rfl) fun w b6 H => ?_
    refine rdA_m H has (by exact cCon.len c) ?_
    refine rd1_m H (hm := Has.cons (Has.cons hF)) (o := 4) rfl ?_
    (try simp only [W0])
    refine lookup2_h mapC c (ents := f.ents) (clock := f.mck) H (Has.cons (Has.cons hM)) ?_
    unfold lkv vE
    simp only [W0]
    refine stA_a fun w H => ?_
    exact fin w b6 H
end
end Go.Proofs.Ytmmbepdghpjgeaa.Den
