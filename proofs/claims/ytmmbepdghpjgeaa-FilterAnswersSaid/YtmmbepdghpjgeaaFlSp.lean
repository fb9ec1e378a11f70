/- Packet filter: ordered, States, make, walked. Conditions: none. -/
import Derived.Test.YtmmbepdghpjgeaaFlSo
set_option linter.unusedVariables false
set_option linter.unusedSimpArgs false
set_option maxRecDepth 8000
set_option maxHeartbeats 1000000
namespace Go.Proofs.Ytmmbepdghpjgeaa.Den
open Go Go.RowKit
def cSt : Cod (Con × Int) := ⟨6, fun x => [I x.1.1, U32 x.1.2.1, U32 x.1.2.2.1, I x.1.2.2.2.1, I x.1.2.2.2.2, I x.2], fun _ => rfl, by intro r c hc; simp only [List.mem_cons, List.not_mem_nil, or_false] at hc; rcases hc with rfl | rfl | rfl | rfl | rfl | rfl <;> rfl⟩
theorem elSt : ElT 63 84 cSt.sz 40 (cSt.enc ((0, 0, 0, 0, 0), 0)) := ⟨by kernel_rfl, by kernel_rfl, rfl⟩
section
variable {w w' w0 : World} {L L' F G cs A X Y : List Chunk} {s sr sc : Value} {K : VK} {R : ER} {b i j fb mb : Nat} {f : FS}
theorem sortC_spec {g x2 x3 clk : Nat} {t2 t3 tf : TypeId} {lf : List Value} {cmp : Ey → Ey → Int} {ents : List (Con × Ey × Nat)} {xs : List Con} (h : TS cCon 119 s xs cs) (H : Hp w0 w (cs ++ G)) (hl : xs.length ≤ 4000)
    (h2 : Has G x2 (.t t2) [.func (.func g) ⟨[]⟩ ⟨[]⟩]) (h3 : Has G x3 (.t t3) [ptr fb 0]) (hf : Has G fb (.t tf) lf) (hlf : lf[4]? = some (.map (some mb))) (hm : Has G mb (.o (mobj kC vE ents clk)) [])
    (hg : enterOk Pg g = true) (hswo : Go.Sort.SWO (ltOf fun x y => cmp (getE ents x) (getE ents y))) (hcmp : ∀ (W : World) (a b : Ey) (w : World) (L : List Chunk), Hp W w L → Calls Pg g ⟨[vE a, vE b]⟩ w fun e w' => e = .returned (I (cmp a b)) ∧ Hp W w' L) :
    Calls Pg 74 ⟨[s, .func (.func 75) ⟨[]⟩ ⟨[ptr x2 0, ptr x3 0]⟩]⟩ w fun e w' => ∃ xs' cs', e = .returned (.tuple ⟨[]⟩) ∧ Hp w0 w' (cs' ++ G) ∧ TS cCon 119 s xs' cs' ∧ xs'.Perm xs ∧ xs'.Pairwise fun x y => ¬ cmp (getE ents y) (getE ents x) < 0 := by
  rcases Nat.eq_zero_or_pos xs.length with h0 | h0
  · have hE : xs = [] := List.length_eq_zero_iff.1 h0
    subst hE
    obtain ⟨p, cap, rfl⟩ : ∃ p cap, s = .slice p 0 cap := by
      rcases h with ⟨_, ⟨a, rfl⟩, _, _⟩ | ⟨b, cap, rest, _, rfl, _⟩
      · exact ⟨a, 0, rfl⟩
      · exact ⟨_, cap, rfl⟩
    refine (AnyF.slices_SortFunc_none sortC p cap (.func (.func 75) ⟨[]⟩ ⟨[ptr x2 0, ptr x3 0]⟩) w).mono ?_
    rintro e w' ⟨rfl, rfl⟩
    exact ⟨[], cs, rfl, H, h, List.Perm.refl _, List.Pairwise.nil⟩
  · obtain ⟨b, cap, rfl, hH, hb, hpost⟩ := sort_bridge h H h0
    have hc := AnyQ.slices_SortFunc sortC 5 Try.isAgg119 Try.sizeOf119 cCon.enc cCon.len (fun x v hv => by simp only [cCon, Con.enc, List.mem_cons, List.not_mem_nil, or_false] at hv; rcases hv with rfl | rfl | rfl | rfl | rfl <;> rfl) (fun x y => cmp (getE ents x) (getE ents y)) hswo 75 ⟨[ptr x2 0, ptr x3 0]⟩ b 0 cap xs.toArray w
      (enters_of Try.func75 (by kernel_rfl) rfl) (fun m os dk hs x y => by
        obtain ⟨cs', H', _⟩ := hpost dk m os (by simpa using hs)
        have hG : ∀ {c : Chunk}, c ∈ G → c ∈ cs' ++ G := fun h => List.mem_append_right _ h
        have e : (#[.agg (cCon.enc x).toArray, .agg (cCon.enc y).toArray] ++ (⟨[ptr x2 0, ptr x3 0]⟩ : Array Value)) = ⟨[kC x, kC y, ptr x2 0, ptr x3 0]⟩ := rfl
        rw [e]
        refine (ord1_spec (g := g) (cmp := cmp) (ents := ents) (fb := fb) (mb := mb) (clk := clk) (H'.cellM (hG h2) rfl) (H'.cellM (hG h3) rfl) (H'.cellM (hG hf) hlf) ((H'.blk _ (hG hm)).2) hg (fun a b w L h => hcmp _ a b w L h) x y).mono ?_
        rintro e w' ⟨rfl, H2⟩
        exact ⟨rfl, ext_grow H2.ext⟩) hH hb (by simp; omega)
    refine Calls.mono hc ?_
    rintro e w' ⟨rfl, d', n, os, hp, hs, rfl⟩
    obtain ⟨g1, g2⟩ := permIn_all hp
    obtain ⟨cs', H', hts⟩ := hpost d' n os (by simpa using g1)
    refine ⟨d'.toList, cs', rfl, H', hts, by simpa using g2, ?_⟩
    have hpw := sortedIn_pw (lt := ltOf fun x y => cmp (getE ents x) (getE ents y)) (d := d') (by rw [g1]; exact hs)
    refine hpw.imp ?_
    intro x y h1
    unfold ltOf at h1
    simpa using h1
theorem bx1 {t : TypeId} {v : Value} (hv : v.cells.toList = [v]) (H : Hp w0 w L) (g : ∀ w' b, Hp w0 w' (⟨b, .t t, [v]⟩ :: L) → K (ptr b 0) w') : bx t v K w := by
  refine bx_h H fun w' b H' => ?_
  rw [hv] at H'; exact g w' b H'
theorem ordered_spec {g : Nat} {cmp : Ey → Ey → Int} (hw : MW f.ents f.mck) (hl : f.ents.length ≤ 4000) (H : Hp w0 w (f.mem fb mb sr sc F))
    (hg : enterOk Pg g = true) (hswo : Go.Sort.SWO (ltOf fun x y => cmp (getE f.ents x) (getE f.ents y))) (hcmp : ∀ (W : World) (a b : Ey) (w : World) (L : List Chunk), Hp W w L → Calls Pg g ⟨[vE a, vE b]⟩ w fun e w' => e = .returned (I (cmp a b)) ∧ Hp W w' L) :
    Calls Pg 51 ⟨[ptr fb 0, .func (.func g) ⟨[]⟩ ⟨[]⟩]⟩ w fun e w' => ∃ s' xs cs', e = .returned s' ∧ Hp w0 w' (cs' ++ f.mem fb mb sr sc F) ∧ TS cCon 119 s' xs cs' ∧ xs.Perm (mkeys f.ents) ∧ xs.Pairwise fun x y => ¬ cmp (getE f.ents y) (getE f.ents x) < 0 := by
  generalize hQ : (fun (e : Ending) (w' : World) => ∃ s' xs cs', e = .returned s' ∧ Hp w0 w' (cs' ++ f.mem fb mb sr sc F) ∧ TS cCon 119 s' xs cs' ∧ xs.Perm (mkeys f.ents) ∧ xs.Pairwise fun x y => ¬ cmp (getE f.ents y) (getE f.ents x) < 0 : ER) = Q
  apply F51_calls
  unfold F51
  refine bx1 rfl H fun w bf H => ?_
  refine bx1 rfl H fun w bg H => ?_
  unfold FS.mem at H
  unfold F51_j2
  refine ld_m H has (o := 0) (v := ptr fb 0) rfl ?_
  (try simp only [W0])
  refine ld_m H has (o := 4) (v := .map (some mb)) rfl ?_
  refine range_h mapC (ents := f.ents) (clock := f.mck) H has fun w r H => ?_
  unfold F51_j3
  refine loop4 (F51_l1_succ _) (fun m y2 y3 x5 x11 w => ∃ (seen : List Nat) (es : List (Con × Ey × Nat)) (c5 : List Chunk), y2 = ptr bf 0 ∧ y3 = ptr bg 0 ∧ x11 = ptr r 0 ∧ seen = es.map (·.2.2) ∧ es.Nodup ∧ (∀ e ∈ es, e ∈ f.ents) ∧ m = (f.ents.filter fun e => decide (e.2.2 ∉ seen)).length ∧ es.length + m ≤ f.ents.length ∧
    TS cCon 119 x5 (es.map (·.1)) c5 ∧
    Hp w0 w (⟨r, .o (iobj mb f.mck seen f.mck), []⟩ :: (c5 ++ (⟨bg, .t 129, [.func (.func g) ⟨[]⟩ ⟨[]⟩]⟩ :: ⟨bf, .t 55, [ptr fb 0]⟩ :: f.mem fb mb sr sc F)))) ?_ (m := (f.ents.filter fun e => decide (e.2.2 ∉ ([] : List Nat))).length)
    ⟨[], [], [], rfl, rfl, rfl, rfl, List.nodup_nil, by simp, rfl, by rw [List.length_nil, Nat.zero_add]; exact List.length_filter_le _ _, TS.nil, H⟩
  clear H
  rintro m k _ _ x5 _ w ⟨seen, es, c5, rfl, rfl, rfl, rfl, hnd, hsub, rfl, hle, h5, H⟩ hk
  unfold F51_b1
  unfold FS.mem at H
  have hndE : f.ents.Nodup := by
    have : (f.ents.map (·.2.2)).Nodup := hw.bn.imp fun h => Nat.ne_of_lt h
    exact (List.pairwise_map.1 this).imp fun h e => h (by rw [e])
  refine next_h (key := kC) (val := vE) (ents := f.ents) (clock := f.mck) H (by unfold Has; simp) (fun e he => hw.lt e he) (Nat.le_refl _) (fun hall => ?_) (fun w e he hns H => ?_)
  · (try simp only [W0])
    unfold F51_j1
    have hperm : es.Perm f.ents := by
      refine (List.perm_ext_iff_of_nodup hnd hndE).2 fun e => ⟨hsub e, fun he => ?_⟩
      have := hall e he
      obtain ⟨e', he', hb⟩ := List.mem_map.1 this
      have hbn : (f.ents.map (·.2.2)).Nodup := hw.bn.imp fun h => Nat.ne_of_lt h
      obtain ⟨i, hi, e1⟩ := List.getElem_of_mem (hsub e' he')
      obtain ⟨j, hj, e2⟩ := List.getElem_of_mem he
      have h3 : (f.ents.map (·.2.2))[i]'(by simpa using hi) = (f.ents.map (·.2.2))[j]'(by simpa using hj) := by
        rw [List.getElem_map, List.getElem_map, e1, e2]; exact hb
      have hij : i = j := nd_inj hbn _ _ h3
      subst hij
      rw [← e2, e1]; exact he'
    have H2 : Hp w0 w (c5 ++ (⟨bg, .t 129, [.func (.func g) ⟨[]⟩ ⟨[]⟩]⟩ :: ⟨bf, .t 55, [ptr fb 0]⟩ :: f.mem fb mb sr sc F)) := H.tail
    refine cal_h (sortC_spec (g := g) (x2 := bg) (x3 := bf) (fb := fb) (mb := mb) (clk := f.mck) (ents := f.ents) (cmp := cmp) (t2 := 129) (t3 := 55) (tf := 117) (lf := [sr, sc, I f.limit, I f.life, .map (some mb), I f.made, I f.clock]) h5 H2 (by rw [List.length_map]; omega) Has.here (Has.cons Has.here) (Has.cons (Has.cons Has.here)) rfl (Has.cons (Has.cons (Has.cons Has.here))) hg hswo hcmp) ?_
    rintro _ w ⟨xs', cs', rfl, H, h6, hp, hpw⟩
    (try simp only [W0])
    subst hQ
    refine ⟨_, xs', cs', rfl, ?_, h6, hp.trans ((hperm.map _).trans (List.Perm.refl _)), hpw⟩
    refine H.to fun q => ?_
    simp only [List.map_append, List.map_cons, List.sum_append, List.sum_cons]; omega
  · (try simp only [W0])
    refine entry_h (key := kC) (val := vE) (ents := f.ents) H (by unfold Has; simp) he hw ?_
    (try simp only [W0])
    refine al_m (ys := [I 0, U32 0, U32 0, I 0, I 0]) H (by kernel_rfl) fun w b5 H => ?_
    unfold kC
    refine stA_m (vs := Con.enc e.1) H updd rfl rfl (Con.enc_sc _) fun w H => ?_
    refine ldA_m (l := Con.enc e.1) H has rfl ?_
    have hm1 : e ∈ f.ents.filter fun x => decide (x.2.2 ∉ es.map (·.2.2)) := List.mem_filter.2 ⟨he, by simpa using hns⟩
    have hdec : (f.ents.filter fun x => decide (x.2.2 ∉ es.map (·.2.2) ++ [e.2.2])).length < (f.ents.filter fun x => decide (x.2.2 ∉ es.map (·.2.2))).length := by
      have hsub2 : List.Sublist (f.ents.filter fun x => decide (x.2.2 ∉ es.map (·.2.2) ++ [e.2.2])) (f.ents.filter fun x => decide (x.2.2 ∉ es.map (·.2.2))) := by
        refine filter_sub (fun x => ?_) f.ents
        simp only [List.mem_append, List.mem_singleton, not_or, decide_eq_true_eq]
        exact fun h => h.1
      refine Nat.lt_of_le_of_ne hsub2.length_le fun h => ?_
      have heq := hsub2.eq_of_length h
      have hm2 := hm1
      rw [← heq] at hm2
      have := (List.mem_filter.1 hm2).2
      simp at this
    have hlt : es.length < f.ents.length := by omega
    have H2 : Hp w0 w (c5 ++ (⟨b5, .t 119, Con.enc e.1⟩ :: ⟨r, .o (iobj mb f.mck (es.map (·.2.2) ++ [e.2.2]) f.mck), []⟩ :: ⟨bg, .t 129, [.func (.func g) ⟨[]⟩ ⟨[]⟩]⟩ :: ⟨bf, .t 55, [ptr fb 0]⟩ :: f.mem fb mb sr sc F)) := H.to fun q => by
      simp only [FS.mem, List.map_append, List.map_cons, List.sum_append, List.sum_cons]; omega
    refine app1_t (C := cCon) (x := e.1) (F := ⟨b5, .t 119, Con.enc e.1⟩ :: ⟨r, .o (iobj mb f.mck (es.map (·.2.2) ++ [e.2.2]) f.mck), []⟩ :: ⟨bg, .t 129, [.func (.func g) ⟨[]⟩ ⟨[]⟩]⟩ :: ⟨bf, .t 55, [ptr fb 0]⟩ :: f.mem fb mb sr sc F) elCon H2 h5 Split.here rfl (by decide) (by simp; omega) (by simp; omega) fun w s6 c6 H h6 => ?_
    refine hk _ _ _ _ _ _ hdec ⟨es.map (·.2.2) ++ [e.2.2], es ++ [e], c6, rfl, rfl, rfl, by simp, ?_, ?_, rfl, by rw [List.length_append, List.length_singleton]; omega, by simpa using h6, H.to fun q => by
      simp only [FS.mem, List.map_append, List.map_cons, List.sum_append, List.sum_cons]; omega⟩
    · rw [List.nodup_append]
      refine ⟨hnd, by simp, ?_⟩
      intro a ha b hb hab
      rw [List.mem_singleton.1 hb] at hab
      subst hab
      exact hns (List.mem_map.2 ⟨_, ha, rfl⟩)
    · intro x hx
      rcases List.mem_append.1 hx with hx | hx
      · exact hsub x hx
      · rw [List.mem_singleton.1 hx]; exact he
end
end Go.Proofs.Ytmmbepdghpjgeaa.Den
