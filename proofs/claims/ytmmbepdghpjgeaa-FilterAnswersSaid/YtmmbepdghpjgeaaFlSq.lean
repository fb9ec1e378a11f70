/- Packet filter: States, make, walked. Conditions: none. -/
import Derived.Test.YtmmbepdghpjgeaaFlSp
set_option linter.unusedVariables false
set_option linter.unusedSimpArgs false
set_option maxRecDepth 8000
set_option maxHeartbeats 1000000
namespace Go.Proofs.Ytmmbepdghpjgeaa.Den
open Go Go.RowKit
theorem getE_mem {ents : List (Con × Ey × Nat)} {e : Con × Ey × Nat} (hnd : (mkeys ents).Nodup) (he : e ∈ ents) : getE ents e.1 = e.2.1 ∧ mget e.1 ents = some e.2.1 := by
  cases hg : mget e.1 ents with
  | none => exact absurd (List.mem_map.2 ⟨e, he, rfl⟩) (mget_none.1 hg)
  | some v =>
    obtain ⟨n, hm⟩ := mget_some hg
    obtain ⟨i, hi, e1⟩ := List.getElem_of_mem hm
    obtain ⟨j, hj, e2⟩ := List.getElem_of_mem he
    have h3 : (mkeys ents)[i]'(by simpa [mkeys] using hi) = (mkeys ents)[j]'(by simpa [mkeys] using hj) := by
      simp only [mkeys, List.getElem_map, e1, e2]
    have hij : i = j := nd_inj hnd _ _ h3
    subst hij
    rw [e1] at e2
    unfold getE
    rw [hg, ← e2]; exact ⟨rfl, rfl⟩
theorem oldest_some : ∀ {l : List (Con × Ey × Nat)}, l ≠ [] → ∃ d, oldest l = some d ∧ d ∈ l ∧ ∀ e ∈ l, older e d = false
  | [], h => absurd rfl h
  | e :: l, _ => by
    by_cases hl : l = []
    · subst hl
      refine ⟨e, rfl, by simp, fun x hx => ?_⟩
      rw [List.mem_singleton.1 hx]; unfold older; simp
    · obtain ⟨d, h1, h2, h3⟩ := oldest_some hl
      unfold oldest
      rw [h1]
      simp only
      by_cases ho : older d e = true
      · rw [if_pos ho]
        refine ⟨d, rfl, by simp [h2], fun x hx => ?_⟩
        rcases List.mem_cons.1 hx with rfl | hx
        · unfold older at *
          simp only [Bool.or_eq_true, decide_eq_true_eq, Bool.and_eq_true, Bool.or_eq_false_iff, decide_eq_false_iff_not, Bool.and_eq_false_iff] at *
          omega
        · exact h3 x hx
      · rw [if_neg ho]
        refine ⟨e, rfl, by simp, fun x hx => ?_⟩
        rcases List.mem_cons.1 hx with rfl | hx
        · unfold older; simp
        · have h4 := h3 x hx
          have ho' : older d e = false := by simpa using ho
          unfold older at *
          simp only [Bool.or_eq_false_iff, decide_eq_false_iff_not, Bool.and_eq_false_iff] at *
          omega
section
variable {w w' w0 : World} {L L' F G cs A X Y : List Chunk} {s sr sc : Value} {K : VK} {R : ER} {b i j fb mb : Nat} {f : FS}
theorem states_spec (hw : MW f.ents f.mck) (hl : f.ents.length ≤ 4000) (H : Hp w0 w (f.mem fb mb sr sc F)) :
    Calls Pg 22 ⟨[ptr fb 0]⟩ w fun e w' => ∃ (s' : Value) (xs : List Con) (cs' : List Chunk), e = .returned s' ∧ Hp w0 w' (cs' ++ f.mem fb mb sr sc F) ∧ TS cSt 84 s' (xs.map fun x => (x, (getE f.ents x).1)) cs' ∧ xs.Perm (mkeys f.ents) ∧ xs.Pairwise fun x y => ¬ cmpM (getE f.ents y) (getE f.ents x) < 0 := by
  generalize hQ : (fun (e : Ending) (w' : World) => ∃ (s' : Value) (xs : List Con) (cs' : List Chunk), e = .returned s' ∧ Hp w0 w' (cs' ++ f.mem fb mb sr sc F) ∧ TS cSt 84 s' (xs.map fun x => (x, (getE f.ents x).1)) cs' ∧ xs.Perm (mkeys f.ents) ∧ xs.Pairwise fun x y => ¬ cmpM (getE f.ents y) (getE f.ents x) < 0 : ER) = Q
  apply F22_calls
  unfold F22
  (try simp only [W0])
  unfold F22_j1 F22_j3
  refine cal_h (ordered_spec (g := 52) (cmp := cmpM) hw hl H (by kernel_rfl) (swoM _) (fun W a b w L h => states1_spec h)) ?_
  rintro _ w ⟨s9, xs, c9, rfl, H, h9, hp, hpw⟩
  (try simp only [W0])
  have hxl : xs.length ≤ 4000 := by rw [hp.length_eq]; unfold mkeys; rw [List.length_map]; exact hl
  refine pv_of (lenS_ts h9) ?_
  unfold F22_j4
  refine loop5 (F22_l1_succ _) (fun m x0 x3 x9 x10 x11 w => ∃ (i : Nat) (c3 : List Chunk), x0 = ptr fb 0 ∧ s9 = x9 ∧ x10 = I (xs.length : Int) ∧ x11 = I (i : Int) ∧ m + i = xs.length ∧ TS cSt 84 x3 ((xs.take i).map fun x => (x, (getE f.ents x).1)) c3 ∧ Hp w0 w (c3 ++ (c9 ++ f.mem fb mb sr sc F))) ?_ (m := xs.length) ⟨0, [], rfl, rfl, rfl, rfl, rfl, TS.nil, H⟩
  clear H
  rintro m k _ x3 _ _ _ w ⟨i, c3, rfl, rfl, rfl, rfl, hm, h3, H⟩ hk
  unfold F22_b1
  refine lss_k (fun hi => ?_) (fun hi => ?_)
  · (try simp only [W0])
    have hx : xs[i]? = some xs[i] := List.getElem?_eq_getElem (by omega)
    generalize xs[i] = x at hx
    unfold F22_j5
    unfold FS.mem at H
    refine ixN_t (C := cCon) h9.tr H (fun c hc => List.mem_append_right _ (List.mem_append_left _ hc)) hx (by decide) ?_
    refine al_m (ys := [I 0, U32 0, U32 0, I 0, I 0]) H (by kernel_rfl) fun w b5 H => ?_
    refine stA_m (vs := Con.enc x) H updd rfl rfl (Con.enc_sc _) fun w H => ?_
    refine drew_k H fun w H => ?_
    (try simp only [W0])
    refine ld_m H Has.here (o := 0) (v := I x.1) rfl ?_
    (try simp only [W0])
    refine ld_m H Has.here (o := 1) (v := U32 x.2.1) rfl ?_
    (try simp only [W0])
    refine ld_m H Has.here (o := 2) (v := U32 x.2.2.1) rfl ?_
    (try simp only [W0])
    refine ld_m H Has.here (o := 3) (v := I x.2.2.2.1) rfl ?_
    (try simp only [W0])
    refine ld_m H Has.here (o := 4) (v := I x.2.2.2.2) rfl ?_
    (try simp only [W0])
    refine ld_m (b := fb) (t := 117) (l := [sr, sc, I f.limit, I f.life, .map (some mb), I f.made, I f.clock]) H (by unfold Has; simp) (o := 4) (v := .map (some mb)) rfl ?_
    refine ldA_m (l := Con.enc x) H Has.here rfl ?_
    (try simp only [W0])
    refine lookup_h mapC x (ents := f.ents) (clock := f.mck) H (by unfold Has; simp) ?_
    refine rd1_m H Has.here (o := 4) (v := I x.2.2.2.2) rfl ?_
    refine rd1_m H Has.here (o := 3) (v := I x.2.2.2.1) rfl ?_
    refine rd1_m H Has.here (o := 2) (v := U32 x.2.2.1) rfl ?_
    refine rd1_m H Has.here (o := 1) (v := U32 x.2.1) rfl ?_
    refine rd1_m H Has.here (o := 0) (v := I x.1) rfl ?_
    have hfld : fld1 0 (lkv vE (0, 0) (mget x f.ents)) = some (I (getE f.ents x).1) := rfl
    refine pv_of hfld ?_
    refine bld_a ?_
    (try simp only [W0])
    refine app1_t (C := cSt) (x := (x, (getE f.ents x).1)) (F := ⟨b5, .t 119, Con.enc x⟩ :: (c9 ++ (⟨fb, .t 117, [sr, sc, I f.limit, I f.life, .map (some mb), I f.made, I f.clock]⟩ :: ⟨mb, .o (mobj kC vE f.ents f.mck), []⟩ :: F))) elSt H h3 spl rfl (by decide) (by simp; omega) (by simp; omega) fun w s4 c4 H h4 => ?_
    refine add_k (z := ((i + 1 : Nat) : Int)) (by omega) (by omega) (by omega) ?_
    refine hk (m - 1) _ _ _ _ _ _ (by omega) ⟨i + 1, c4, rfl, rfl, rfl, rfl, by omega, by rw [List.take_add_one, hx]; simpa using h4, H.to fun q => by simp only [FS.mem, List.map_append, List.map_cons, List.sum_append, List.sum_cons]; omega⟩
  · (try simp only [W0])
    unfold F22_j2
    rw [List.take_of_length_le (by omega)] at h3
    subst hQ
    refine ⟨x3, xs, c3, rfl, H.to fun q => ?_, h3, hp, hpw⟩
    simp only [List.map_append, List.sum_append]; omega
theorem make_ok (hw : MW f.ents f.mck) (hmd : (f.ents.map fun e => e.2.1.2).Nodup) (hl : f.ents.length ≤ 4000) (hlim : 1 ≤ f.limit) (hm1 : 0 ≤ f.made) (hm2 : f.made < 2 ^ 60) (c : Con) (x : Int) : MakeOK f c x := by
  intro w0 w fb mb sr sc F H
  generalize hQ : (fun (e : Ending) (w' : World) => e = .returned (.tuple ⟨[]⟩) ∧ Hp w0 w' ((f.make c x).mem fb mb sr sc F) : ER) = Q
  apply F50_calls
  unfold F50 kC
  refine bx_m H fun w b4 H => ?_
  -- the end: the number, the entry
  have fin : ∀ (w : World) (f1 : FS), f.make c x = { f1.put c (x, f1.made + 1) with made := f1.made + 1 } → f1.made = f.made → Hp w0 w (⟨b4, .t 119, Con.enc c⟩ :: f1.mem fb mb sr sc F) → F50_j1 Q (ptr fb 0) (I x) (ptr b4 0) w := by
    intro w f1 hmk hmade H
    unfold FS.mem at H
    unfold F50_j1
    (try simp only [W0])
    refine ld_a ?_
    refine add_k (by omega) (by omega) rfl ?_
    (try simp only [W0])
    refine st_m (o := 5) H updd (by simp) rfl fun w H => ?_
    simp only [List.set_cons_zero, List.set_cons_succ] at H
    refine drew_k H fun w H => ?_
    (try simp only [W0])
    refine ld_m H (Has.cons Has.here) (o := 4) (v := .map (some mb)) rfl ?_
    refine ldA_m (l := Con.enc c) H Has.here rfl ?_
    (try simp only [W0])
    refine ld_m H (Has.cons Has.here) (o := 5) (v := I (f1.made + 1)) rfl ?_
    refine bld_a ?_
    (try simp only [W0])
    refine put_h mapC c (x, f1.made + 1) (ents := f1.ents) (clock := f1.mck) H updd fun w H => ?_
    subst hQ
    refine ⟨(by first | rfl | trivial), ?_⟩
    rw [hmk]
    exact H.tail
  unfold F50_j2
  unfold FS.mem at H
  refine drew_k H fun w H => ?_
  (try simp only [W0])
  refine ld_a ?_
  (try simp only [W0])
  have c2 : w.cell? ⟨fb, 2, none⟩ = some (I f.limit) := H.cellM (t := 117) (l := [sr, sc, I f.limit, I f.life, .map (some mb), I f.made, I f.clock]) (Has.cons Has.here) rfl
  refine mlen_h mapC (ents := f.ents) (clock := f.mck) H has ?_
  (try simp only [W0])
  refine ldS_m H (Has.cons Has.here) (o := 2) (v := I f.limit) rfl (by intro z hz; rw [List.mem_singleton.1 hz]; exact c2) ?_
  refine geq_k (fun h => ?_) (fun h => ?_)
  · (try simp only [W0])
    have hne : f.ents ≠ [] := by rintro he; rw [he] at h; simp at h; omega
    obtain ⟨d, d1, d2, d3⟩ := oldest_some hne
    have H2 : Hp w0 w (f.mem fb mb sr sc (⟨b4, .t 119, Con.enc c⟩ :: F)) := H.to fun q => by simp only [FS.mem, List.map_cons, List.sum_cons]; omega
    refine cal_h (ordered_spec (g := 71) (cmp := cmpE) hw hl H2 (by kernel_rfl) (swoE _) (fun W a b w L h => make1_spec h)) ?_
    rintro _ w ⟨s9, xs, c9, rfl, H, h9, hp, hpw⟩
    (try simp only [W0])
    have hxs : ∃ r, xs = d.1 :: r := by
      cases xs with
      | nil =>
        have := hp.length_eq
        unfold mkeys at this
        rw [List.length_map] at this
        exact absurd (List.length_eq_zero_iff.1 this.symm) hne
      | cons y r =>
        refine ⟨r, ?_⟩
        have hy : y ∈ mkeys f.ents := hp.mem_iff.1 (by simp)
        obtain ⟨e, he, rfl⟩ := List.mem_map.1 hy
        have hd : d.1 ∈ e.1 :: r := hp.mem_iff.2 (List.mem_map.2 ⟨d, d2, rfl⟩)
        rcases List.mem_cons.1 hd with h1 | h1
        · rw [h1]
        · have h2 := (List.pairwise_cons.1 hpw).1 _ h1
          rw [(getE_mem hw.nd he).1, (getE_mem hw.nd d2).1, cmpE_lt] at h2
          have h3 := d3 e he
          unfold older at h3
          simp only [Bool.or_eq_false_iff, decide_eq_false_iff_not, Bool.and_eq_false_iff] at h3
          have h4 : e.2.1.2 = d.2.1.2 := by omega
          obtain ⟨i, hi, e1⟩ := List.getElem_of_mem he
          obtain ⟨j, hj, e2⟩ := List.getElem_of_mem d2
          have h5 : (f.ents.map fun e => e.2.1.2)[i]'(by simpa using hi) = (f.ents.map fun e => e.2.1.2)[j]'(by simpa using hj) := by
            rw [List.getElem_map, List.getElem_map, e1, e2]; exact h4
          have hij : i = j := nd_inj hmd _ _ h5
          subst hij
          rw [← e1, e2]
    obtain ⟨r, rfl⟩ := hxs
    unfold FS.mem at H
    refine drew_k H fun w H => ?_
    (try simp only [W0])
    refine ld_m (b := fb) (t := 117) (l := [sr, sc, I f.limit, I f.life, .map (some mb), I f.made, I f.clock]) H (by unfold Has; simp) (o := 4) (v := .map (some mb)) rfl ?_
    refine ixN_t (C := cCon) (i := 0) h9.tr H (fun c hc => List.mem_append_left _ hc) rfl (by decide) ?_
    (try simp only [W0])
    refine delete_h mapC d.1 (ents := f.ents) (clock := f.mck) H updd fun w H => ?_
    refine fin w { f with ents := mdel d.1 f.ents } (by unfold FS.make; simp only; rw [if_pos h, d1]) rfl (H.to fun q => ?_)
    simp only [FS.mem, List.map_append, List.map_cons, List.sum_append, List.sum_cons]; omega
  · (try simp only [W0])
    refine fin w f (by unfold FS.make; simp only; rw [if_neg h]) rfl H
end
end Go.Proofs.Ytmmbepdghpjgeaa.Den
