/- Inherit: Cycle of the program. Conditions: none. -/
import Derived.Test.YtagcifbfokneoaaIhO
set_option linter.unusedVariables false
set_option linter.unusedSimpArgs false
set_option maxRecDepth 8000
set_option maxHeartbeats 1000000
namespace Go.Proofs.Ytagcifbfokneoaa.Den
open Go Go.RowKit
/-- The least cycle among pairs that have been looked at. -/
structure CycS (E : List (Nat × Nat)) (S : Nat → Nat → Prop) (t l : Nat) : Prop where
  ex : ∃ h, S t h ∧ (t, h) ∈ E ∧ dst E t h + 1 = l ∧ 0 ≤ dst E t h
  min : ∀ u h, S u h → (u, h) ∈ E → 0 ≤ dst E u h → (l : Int) < dst E u h + 1 ∨ ((l : Int) = dst E u h + 1 ∧ t ≤ u)
section
variable {w w' w0 : World} {L L' F cs cs2 cs3 : List Chunk} {s s2 sb se sd : Value} {K : VK} {R : ER} {base d out : List Int} {E E' : List (Nat × Nat)} {es : List (Int × Int)} {n to i u x : Nat} {S S' : Nat → Nat → Prop}
theorem CycS.mono {t l : Nat} (h : CycS E S t l) (hs : ∀ u h, S u h → S' u h) (hb : ∀ u h, S' u h → (u, h) ∈ E → 0 ≤ dst E u h → S u h ∨ ((l : Int) ≤ dst E u h + 1 ∧ t ≤ u)) : CycS E S' t l := by
  obtain ⟨y, y1, y2⟩ := h.ex
  refine ⟨⟨y, hs _ _ y1, y2⟩, fun u x hx he h0 => ?_⟩
  rcases hb u x hx he h0 with hh | hh
  · exact h.min u x hh he h0
  · omega
theorem Cycle_spec (h1 : TR cI w0 cs sb base) (h2 : TR cE w0 cs2 se es) (H : Hp w0 w L) (m1 : ∀ c ∈ cs, c ∈ L) (m2 : ∀ c ∈ cs2, c ∈ L) :
    Calls Pg 21 ⟨[.agg ⟨[sb, se]⟩]⟩ w (CycleQ base es w0 L) := by
  apply F21_calls
  unfold F21
  refine bx_m H fun w b H => ?_
  repeat (first | simp only [cI_enc, cE_enc, cN_enc, W0] | refine lss_a ?_ | refine lss_b ?_ | refine gtr_a ?_ | refine gtr_b ?_ | refine geq_a ?_ | refine geq_b ?_ | refine leq_a ?_ | refine leq_b ?_ | refine eql_a ?_ | refine eql_b ?_ | refine neq_a ?_ | refine neq_b ?_ | refine add_a ?_ | refine sub_a ?_ | refine ld_a ?_ | refine ldA_a ?_ | refine ldS_a ?_ | refine ldNS_a ?_ | refine rdA_s ?_ | refine rd1_s ?_ | refine drew_a fun w1 H1 => ?_ | refine st_a fun w1 H1 => ?_ | refine stA_a fun w1 H1 => ?_ | refine lenT_a ?_ | refine lenO_a ?_ | refine ixT_a ?_ | refine ixO_a ?_ | fail)
  refine cal_h (Check_spec h1 h2 H csub csub) ?_
  rintro _ w ⟨rfl, H⟩
  simp only [ret_k]
  refine neq_k (fun h => ?_) (fun h => ?_)
  · repeat (first | simp only [cI_enc, cE_enc, cN_enc, W0] | refine lss_a ?_ | refine lss_b ?_ | refine gtr_a ?_ | refine gtr_b ?_ | refine geq_a ?_ | refine geq_b ?_ | refine leq_a ?_ | refine leq_b ?_ | refine eql_a ?_ | refine eql_b ?_ | refine neq_a ?_ | refine neq_b ?_ | refine add_a ?_ | refine sub_a ?_ | refine ld_a ?_ | refine ldA_a ?_ | refine ldS_a ?_ | refine ldNS_a ?_ | refine rdA_s ?_ | refine rd1_s ?_ | refine drew_a fun w1 H1 => ?_ | refine st_a fun w1 H1 => ?_ | refine stA_a fun w1 H1 => ?_ | refine lenT_a ?_ | refine lenO_a ?_ | refine ixT_a ?_ | refine ixO_a ?_ | fail)
    exact .inl ⟨h, (by first | rfl | trivial), H.tail⟩
  repeat (first | simp only [cI_enc, cE_enc, cN_enc, W0] | refine lss_a ?_ | refine lss_b ?_ | refine gtr_a ?_ | refine gtr_b ?_ | refine geq_a ?_ | refine geq_b ?_ | refine leq_a ?_ | refine leq_b ?_ | refine eql_a ?_ | refine eql_b ?_ | refine neq_a ?_ | refine neq_b ?_ | refine add_a ?_ | refine sub_a ?_ | refine ld_a ?_ | refine ldA_a ?_ | refine ldS_a ?_ | refine ldNS_a ?_ | refine rdA_s ?_ | refine rd1_s ?_ | refine drew_a fun w1 H1 => ?_ | refine st_a fun w1 H1 => ?_ | refine stA_a fun w1 H1 => ?_ | refine lenT_a ?_ | refine lenO_a ?_ | refine ixT_a ?_ | refine ixO_a ?_ | fail)
  obtain ⟨c1, c2, c3, c4, c5, c6⟩ := chk_ok h
  have h2' := h2
  rw [c4] at h2'
  have h2' := toCN h2'
  have hel : (es.map toN).length ≤ 4000 := by simp; omega
  try unfold F21_j1
  repeat (first | simp only [cI_enc, cE_enc, cN_enc, W0] | refine lss_a ?_ | refine lss_b ?_ | refine gtr_a ?_ | refine gtr_b ?_ | refine geq_a ?_ | refine geq_b ?_ | refine leq_a ?_ | refine leq_b ?_ | refine eql_a ?_ | refine eql_b ?_ | refine neq_a ?_ | refine neq_b ?_ | refine add_a ?_ | refine sub_a ?_ | refine ld_a ?_ | refine ldA_a ?_ | refine ldS_a ?_ | refine ldNS_a ?_ | refine rdA_s ?_ | refine rd1_s ?_ | refine drew_a fun w1 H1 => ?_ | refine st_a fun w1 H1 => ?_ | refine stA_a fun w1 H1 => ?_ | refine lenT_a ?_ | refine lenO_a ?_ | refine ixT_a ?_ | refine ixO_a ?_ | fail)
  refine cal_h (holders_spec h1 h2' (by assumption) csub csub c5 c1 hel c6) ?_
  rintro _ w ⟨sh, ch, E', rfl, H, hh, hp, hi⟩
  repeat (first | simp only [cI_enc, cE_enc, cN_enc, W0] | refine lss_a ?_ | refine lss_b ?_ | refine gtr_a ?_ | refine gtr_b ?_ | refine geq_a ?_ | refine geq_b ?_ | refine leq_a ?_ | refine leq_b ?_ | refine eql_a ?_ | refine eql_b ?_ | refine neq_a ?_ | refine neq_b ?_ | refine add_a ?_ | refine sub_a ?_ | refine ld_a ?_ | refine ldA_a ?_ | refine ldS_a ?_ | refine ldNS_a ?_ | refine rdA_s ?_ | refine rd1_s ?_ | refine drew_a fun w1 H1 => ?_ | refine st_a fun w1 H1 => ?_ | refine stA_a fun w1 H1 => ?_ | refine lenT_a ?_ | refine lenO_a ?_ | refine ixT_a ?_ | refine ixO_a ?_ | fail)
  refine cal_h (waiters_spec h1 h2' (by assumption) csub csub c5 c1 hel c6) ?_
  rintro _ w ⟨sw, cw, E'', rfl, H, hw, _, hE'⟩
  subst hE'
  simp only [ret_k]
  unfold F21_j3
  repeat (first | simp only [cI_enc, cE_enc, cN_enc, W0] | refine lss_a ?_ | refine lss_b ?_ | refine gtr_a ?_ | refine gtr_b ?_ | refine geq_a ?_ | refine geq_b ?_ | refine leq_a ?_ | refine leq_b ?_ | refine eql_a ?_ | refine eql_b ?_ | refine neq_a ?_ | refine neq_b ?_ | refine add_a ?_ | refine sub_a ?_ | refine ld_a ?_ | refine ldA_a ?_ | refine ldS_a ?_ | refine ldNS_a ?_ | refine rdA_s ?_ | refine rd1_s ?_ | refine drew_a fun w1 H1 => ?_ | refine st_a fun w1 H1 => ?_ | refine stA_a fun w1 H1 => ?_ | refine lenT_a ?_ | refine lenO_a ?_ | refine ixT_a ?_ | refine ixO_a ?_ | fail)
  have H : Hp w0 w (cw ++ (ch ++ (⟨b, 25, [sb, se]⟩ :: L))) := H
  obtain ⟨hs, htop, hhl, hsub⟩ := id hh
  have hhl' : hs.length = base.length := by rw [hhl, adj_len]
  have mh : ∀ c ∈ ch, c ∈ cw ++ (ch ++ (⟨b, 25, [sb, se]⟩ :: L)) := by intro c hc; simp [hc]
  unfold F21_j4
  refine loop7 (F21_l2_succ _) (fun m x5 x6 x7 x8 x9 x25 x26 w => ∃ i : Nat, ∃ sf cf, x5 = sh ∧ x6 = sw ∧ x9 = sf ∧ x25 = I (base.length : Int) ∧ x26 = I i ∧ m + i = base.length ∧ Hp w0 w (cf ++ (cw ++ (ch ++ (⟨b, 25, [sb, se]⟩ :: L)))) ∧
      ((x7 = I (-1) ∧ x8 = I 0 ∧ cf = [] ∧ ∀ u h, u < i → (u, h) ∈ es.map toN → ¬ 0 ≤ dst (es.map toN) u h) ∨ ∃ t l : Nat, ∃ df, x7 = I t ∧ x8 = I l ∧ t < base.length ∧ TS cI 3 sf df cf ∧ df.length = base.length ∧ IsD (es.map toN) base.length t (gt df) ∧ CycS (es.map toN) (fun u _ => u < i) t l)) ?_ (m := base.length)
    ⟨0, .slice none 0 0, [], rfl, rfl, rfl, rfl, rfl, rfl, H, .inl ⟨rfl, rfl, rfl, by intro u h hu; omega⟩⟩
  clear H
  rintro m k sh sw x7 x8 sf _ _ w ⟨i, _, cf, rfl, rfl, rfl, rfl, rfl, hm, H, hc⟩ hk
  unfold F21_b1
  refine lss_k (fun hi' => ?_) (fun hi' => ?_)
  · have hin : i < base.length := by omega
    unfold F21_j5 F21_j7
    refine cal_h (dist_spec (css := []) (to := i) hw H (by intro c hc; simp [hc]) c5 c1 hel hin) ?_
    rintro _ w ⟨sd, csd, d, rfl, H, hsd, hdl, hD⟩
    simp only [ret_k]
    have hE : ∀ u, u < base.length → gt d u = dst (es.map toN) i u := fun u hu => hD.eq hu
    obtain ⟨ki, hki⟩ : ∃ ki, hs[i]? = some ki := ⟨_, List.getElem?_eq_getElem (by omega)⟩
    have hwi := hsub i ki _ hki (adj_get hin)
    have hwl : (adjAt Prod.fst Prod.snd E' i).length ≤ 4000 := adjAt_len (by rw [hp.length_eq]; exact hel)
    refine ix1_t (C := cS) htop H (by intro c hc; simp [hc]) hki rfl rfl ?_
    repeat (first | simp only [cI_enc, cE_enc, cN_enc, W0] | refine lss_a ?_ | refine lss_b ?_ | refine gtr_a ?_ | refine gtr_b ?_ | refine geq_a ?_ | refine geq_b ?_ | refine leq_a ?_ | refine leq_b ?_ | refine eql_a ?_ | refine eql_b ?_ | refine neq_a ?_ | refine neq_b ?_ | refine add_a ?_ | refine sub_a ?_ | refine ld_a ?_ | refine ldA_a ?_ | refine ldS_a ?_ | refine ldNS_a ?_ | refine rdA_s ?_ | refine rd1_s ?_ | refine drew_a fun w1 H1 => ?_ | refine st_a fun w1 H1 => ?_ | refine stA_a fun w1 H1 => ?_ | refine lenT_a ?_ | refine lenO_a ?_ | refine ixT_a ?_ | refine ixO_a ?_ | fail)
    unfold F21_j8
    refine loop12 (F21_l1_succ _ _) (fun q x5 x6 x7 x8 x9 x10 x11 x25 x26 x35 x36 x37 w => ∃ j : Nat, ∃ sf cf, x5 = sh ∧ x6 = sw ∧ x9 = sf ∧ x10 = I i ∧ x11 = sd ∧ x25 = I (base.length : Int) ∧ x26 = I i ∧ x35 = ki.val ∧ x36 = I ((adjAt Prod.fst Prod.snd E' i).length : Int) ∧ x37 = I j ∧ q + j = (adjAt Prod.fst Prod.snd E' i).length ∧
        Hp w0 w (cf ++ (csd ++ (cw ++ (ch ++ (⟨b, 25, [sb, se]⟩ :: L))))) ∧
        ((x7 = I (-1) ∧ x8 = I 0 ∧ cf = [] ∧ ∀ u h, (u < i ∨ (u = i ∧ h ∈ (adjAt Prod.fst Prod.snd E' i).take j)) → (u, h) ∈ es.map toN → ¬ 0 ≤ dst (es.map toN) u h) ∨
          ∃ t l : Nat, ∃ df, x7 = I t ∧ x8 = I l ∧ t < base.length ∧ ((TS cI 3 sf df cf ∧ t < i) ∨ (sf = sd ∧ df = d ∧ cf = [] ∧ t = i)) ∧ df.length = base.length ∧ IsD (es.map toN) base.length t (gt df) ∧ CycS (es.map toN) (fun u h => u < i ∨ (u = i ∧ h ∈ (adjAt Prod.fst Prod.snd E' i).take j)) t l)) ?_ (m := (adjAt Prod.fst Prod.snd E' i).length)
      ⟨0, sf, cf, rfl, rfl, rfl, rfl, rfl, rfl, rfl, rfl, rfl, rfl, rfl, H.re, ?_⟩
    rotate_left
    · rcases hc with ⟨e1, e2, e3, hc⟩ | ⟨t, l, df, e1, e2, ht, hts, hdf, hDf, hc⟩
      · exact .inl ⟨e1, e2, e3, fun u h hu => hc u h (by simpa using hu)⟩
      · have hti : t < i := by obtain ⟨_, y, _⟩ := hc.ex; exact y
        exact .inr ⟨t, l, df, e1, e2, ht, .inl ⟨hts, hti⟩, hdf, hDf, hc.mono (fun u h hu => .inl hu) fun u h hu _ _ => .inl (by simpa using hu)⟩
    clear H hc
    rintro q k2 sh sw x7 x8 sf _ sd _ _ _ _ _ w ⟨j, _, cf, rfl, rfl, rfl, rfl, rfl, rfl, rfl, rfl, rfl, rfl, hq, H, hc⟩ hk2
    unfold F21_b2
    refine lss_k (fun hj => ?_) (fun hj => ?_)
    · have hx : (adjAt Prod.fst Prod.snd E' i)[j]? = some (adjAt Prod.fst Prod.snd E' i)[j] := List.getElem?_eq_getElem (by omega)
      have htk : (adjAt Prod.fst Prod.snd E' i).take (j + 1) = (adjAt Prod.fst Prod.snd E' i).take j ++ [(adjAt Prod.fst Prod.snd E' i)[j]] := by rw [List.take_add_one, hx]; rfl
      generalize (adjAt Prod.fst Prod.snd E' i)[j] = y at hx htk
      have hyE := hp.subset (adj_mem_h.1 (List.mem_of_getElem? hx))
      have hyn := (c5 _ hyE).2
      have hyd : d[y]? = some (gt d y) := gt_some (by omega)
      have hye := hE y hyn
      have hyb : gt d y ≤ base.length := hD.val_le c5 hyn
      have split' : ∀ {u x : Nat}, (u < i ∨ (u = i ∧ x ∈ (adjAt Prod.fst Prod.snd E' i).take (j + 1))) → (u < i ∨ (u = i ∧ x ∈ (adjAt Prod.fst Prod.snd E' i).take j)) ∨ (u = i ∧ x = y) := by
        intro u x hh
        rcases hh with hh | ⟨hh, hx⟩
        · exact .inl (.inl hh)
        · rw [htk] at hx
          rcases List.mem_append.1 hx with hx | hx
          · exact .inl (.inr ⟨hh, hx⟩)
          · simp at hx; exact .inr ⟨hh, hx⟩
      have incl : ∀ {u x : Nat}, (u < i ∨ (u = i ∧ x ∈ (adjAt Prod.fst Prod.snd E' i).take j)) → (u < i ∨ (u = i ∧ x ∈ (adjAt Prod.fst Prod.snd E' i).take (j + 1))) := by
        intro u x hh
        rcases hh with hh | ⟨hh, hx⟩
        · exact .inl hh
        · exact .inr ⟨hh, by rw [htk]; simp [hx]⟩
      have here : i < i ∨ (i = i ∧ y ∈ (adjAt Prod.fst Prod.snd E' i).take (j + 1)) := .inr ⟨rfl, by rw [htk]; simp⟩
      have yes : ∀ {w : World} {lg : Nat}, Hp w0 w (csd ++ (cw ++ (ch ++ (⟨b, 25, [sb, se]⟩ :: L)))) → gt d y + 1 = lg → 0 ≤ gt d y → (∀ u x, (u < i ∨ (u = i ∧ x ∈ (adjAt Prod.fst Prod.snd E' i).take j)) → (u, x) ∈ es.map toN → 0 ≤ dst (es.map toN) u x → (lg : Int) < dst (es.map toN) u x + 1) →
          k2 sh sw (I i) (I lg) sd (I i) sd (I (base.length : Int)) (I i) ki.val (I ((adjAt Prod.fst Prod.snd E' i).length : Int)) (I ((j : Int) + 1)) w := by
        intro w lg H hlg hnn hmin
        refine hk2 (q - 1) _ _ _ _ _ _ _ _ _ _ _ _ _ (by omega) ⟨j + 1, sd, [], rfl, rfl, rfl, rfl, rfl, rfl, rfl, rfl, rfl, rfl, by omega, H, .inr ⟨i, lg, d, rfl, rfl, hin, .inr ⟨rfl, rfl, rfl, rfl⟩, hdl, hD, ⟨⟨y, here, hyE, by omega, by omega⟩, fun u x hh he h0 => ?_⟩⟩⟩
        rcases split' hh with hh | ⟨rfl, rfl⟩
        · exact .inl (hmin u x hh he h0)
        · exact .inr ⟨by omega, Nat.le_refl _⟩
      have no : ∀ {w : World}, Hp w0 w (cf ++ (csd ++ (cw ++ (ch ++ (⟨b, 25, [sb, se]⟩ :: L))))) → (0 ≤ gt d y → ∃ t l : Nat, x7 = I t ∧ x8 = I l ∧ (l : Int) ≤ gt d y + 1) →
          k2 sh sw x7 x8 sf (I i) sd (I (base.length : Int)) (I i) ki.val (I ((adjAt Prod.fst Prod.snd E' i).length : Int)) (I ((j : Int) + 1)) w := by
        intro w H hno
        refine hk2 (q - 1) _ _ _ _ _ _ _ _ _ _ _ _ _ (by omega) ⟨j + 1, sf, cf, rfl, rfl, rfl, rfl, rfl, rfl, rfl, rfl, rfl, rfl, by omega, H, ?_⟩
        rcases hc with ⟨e1, e2, e3, hc⟩ | ⟨t, l, df, e1, e2, ht, hts, hdf, hDf, hc⟩
        · refine .inl ⟨e1, e2, e3, fun u x hh he h0 => ?_⟩
          rcases split' hh with hh | ⟨rfl, rfl⟩
          · exact hc u x hh he h0
          · obtain ⟨t, l, e, _⟩ := hno (by omega)
            rw [e1] at e
            have e : (-1 : Int) = t := by injection e
            omega
        · refine .inr ⟨t, l, df, e1, e2, ht, hts, hdf, hDf, hc.mono (fun u x hh => incl hh) fun u x hh he h0 => ?_⟩
          rcases split' hh with hh | ⟨rfl, rfl⟩
          · exact .inl hh
          · obtain ⟨t', l', e, e', hle⟩ := hno (by omega)
            rw [e1] at e; rw [e2] at e'
            have e : (t : Int) = t' := by injection e
            have e' : (l : Int) = l' := by injection e'
            have hti : t ≤ u := by
              obtain ⟨z, z1, _⟩ := hc.ex
              rcases z1 with z1 | ⟨z1, _⟩ <;> omega
            exact .inr ⟨by omega, hti⟩
      unfold F21_j9 F21_j11
      refine ix1_t (C := cU) hwi H (by intro c hc; simp [hc]) hx rfl rfl ?_
      refine ix1_t (C := cI) (TS.tr hsd) H (by intro c hc; simp [hc]) hyd rfl rfl ?_
      refine geq_k (fun hg => ?_) (fun hg => ?_)
      · rcases hc with ⟨rfl, rfl, rfl, hc⟩ | ⟨t, l, df, rfl, rfl, ht, hts, hdf, hDf, hc⟩
        · repeat (first | simp only [cI_enc, cE_enc, cN_enc, W0] | refine lss_a ?_ | refine lss_b ?_ | refine gtr_a ?_ | refine gtr_b ?_ | refine geq_a ?_ | refine geq_b ?_ | refine leq_a ?_ | refine leq_b ?_ | refine eql_a ?_ | refine eql_b ?_ | refine neq_a ?_ | refine neq_b ?_ | refine add_a ?_ | refine sub_a ?_ | refine ld_a ?_ | refine ldA_a ?_ | refine ldS_a ?_ | refine ldNS_a ?_ | refine rdA_s ?_ | refine rd1_s ?_ | refine drew_a fun w1 H1 => ?_ | refine st_a fun w1 H1 => ?_ | refine stA_a fun w1 H1 => ?_ | refine lenT_a ?_ | refine lenO_a ?_ | refine ixT_a ?_ | refine ixO_a ?_ | fail)
          obtain ⟨lg, hlg⟩ : ∃ lg : Nat, gt d y + 1 = lg := ⟨(gt d y + 1).toNat, by omega⟩
          rw [hlg]
          exact yes (by assumption) hlg hg fun u x hh he h0 => absurd h0 (hc u x hh he)
        · repeat (first | simp only [cI_enc, cE_enc, cN_enc, W0] | refine lss_a ?_ | refine lss_b ?_ | refine gtr_a ?_ | refine gtr_b ?_ | refine geq_a ?_ | refine geq_b ?_ | refine leq_a ?_ | refine leq_b ?_ | refine eql_a ?_ | refine eql_b ?_ | refine neq_a ?_ | refine neq_b ?_ | refine add_a ?_ | refine sub_a ?_ | refine ld_a ?_ | refine ldA_a ?_ | refine ldS_a ?_ | refine ldNS_a ?_ | refine rdA_s ?_ | refine rd1_s ?_ | refine drew_a fun w1 H1 => ?_ | refine st_a fun w1 H1 => ?_ | refine stA_a fun w1 H1 => ?_ | refine lenT_a ?_ | refine lenO_a ?_ | refine ixT_a ?_ | refine ixO_a ?_ | fail)
          refine lss_k (fun hl => ?_) (fun hl => ?_)
          · repeat (first | simp only [cI_enc, cE_enc, cN_enc, W0] | refine lss_a ?_ | refine lss_b ?_ | refine gtr_a ?_ | refine gtr_b ?_ | refine geq_a ?_ | refine geq_b ?_ | refine leq_a ?_ | refine leq_b ?_ | refine eql_a ?_ | refine eql_b ?_ | refine neq_a ?_ | refine neq_b ?_ | refine add_a ?_ | refine sub_a ?_ | refine ld_a ?_ | refine ldA_a ?_ | refine ldS_a ?_ | refine ldNS_a ?_ | refine rdA_s ?_ | refine rd1_s ?_ | refine drew_a fun w1 H1 => ?_ | refine st_a fun w1 H1 => ?_ | refine stA_a fun w1 H1 => ?_ | refine lenT_a ?_ | refine lenO_a ?_ | refine ixT_a ?_ | refine ixO_a ?_ | fail)
            obtain ⟨lg, hlg⟩ : ∃ lg : Nat, gt d y + 1 = lg := ⟨(gt d y + 1).toNat, by omega⟩
            rw [hlg]
            exact yes (Hp.right (A := cf) (by assumption)) hlg hg fun u x hh he h0 => by have := hc.min u x hh he h0; omega
          · repeat (first | simp only [cI_enc, cE_enc, cN_enc, W0] | refine lss_a ?_ | refine lss_b ?_ | refine gtr_a ?_ | refine gtr_b ?_ | refine geq_a ?_ | refine geq_b ?_ | refine leq_a ?_ | refine leq_b ?_ | refine eql_a ?_ | refine eql_b ?_ | refine neq_a ?_ | refine neq_b ?_ | refine add_a ?_ | refine sub_a ?_ | refine ld_a ?_ | refine ldA_a ?_ | refine ldS_a ?_ | refine ldNS_a ?_ | refine rdA_s ?_ | refine rd1_s ?_ | refine drew_a fun w1 H1 => ?_ | refine st_a fun w1 H1 => ?_ | refine stA_a fun w1 H1 => ?_ | refine lenT_a ?_ | refine lenO_a ?_ | refine ixT_a ?_ | refine ixO_a ?_ | fail)
            exact no (by assumption) fun _ => ⟨t, l, rfl, rfl, by omega⟩
      · repeat (first | simp only [cI_enc, cE_enc, cN_enc, W0] | refine lss_a ?_ | refine lss_b ?_ | refine gtr_a ?_ | refine gtr_b ?_ | refine geq_a ?_ | refine geq_b ?_ | refine leq_a ?_ | refine leq_b ?_ | refine eql_a ?_ | refine eql_b ?_ | refine neq_a ?_ | refine neq_b ?_ | refine add_a ?_ | refine sub_a ?_ | refine ld_a ?_ | refine ldA_a ?_ | refine ldS_a ?_ | refine ldNS_a ?_ | refine rdA_s ?_ | refine rd1_s ?_ | refine drew_a fun w1 H1 => ?_ | refine st_a fun w1 H1 => ?_ | refine stA_a fun w1 H1 => ?_ | refine lenT_a ?_ | refine lenO_a ?_ | refine ixT_a ?_ | refine ixO_a ?_ | fail)
        exact no (by assumption) fun h => absurd h hg
    · repeat (first | simp only [cI_enc, cE_enc, cN_enc, W0] | refine lss_a ?_ | refine lss_b ?_ | refine gtr_a ?_ | refine gtr_b ?_ | refine geq_a ?_ | refine geq_b ?_ | refine leq_a ?_ | refine leq_b ?_ | refine eql_a ?_ | refine eql_b ?_ | refine neq_a ?_ | refine neq_b ?_ | refine add_a ?_ | refine sub_a ?_ | refine ld_a ?_ | refine ldA_a ?_ | refine ldS_a ?_ | refine ldNS_a ?_ | refine rdA_s ?_ | refine rd1_s ?_ | refine drew_a fun w1 H1 => ?_ | refine st_a fun w1 H1 => ?_ | refine stA_a fun w1 H1 => ?_ | refine lenT_a ?_ | refine lenO_a ?_ | refine ixT_a ?_ | refine ixO_a ?_ | fail)
      rw [List.take_of_length_le (by omega)] at hc
      have alls : ∀ {u x : Nat}, u < i + 1 → (u, x) ∈ es.map toN → (u < i ∨ (u = i ∧ x ∈ adjAt Prod.fst Prod.snd E' i)) := by
        intro u x hu he
        by_cases e : u = i
        · subst e; exact .inr ⟨rfl, adj_mem_h.2 (hp.symm.subset he)⟩
        · exact .inl (by omega)
      rcases hc with ⟨rfl, rfl, rfl, hc⟩ | ⟨t, l, df, rfl, rfl, ht, hts, hdf, hDf, hc⟩
      · exact hk (m - 1) _ _ _ _ _ _ _ _ (by omega) ⟨i + 1, sf, [], rfl, rfl, rfl, rfl, rfl, by omega, H.re, .inl ⟨rfl, rfl, rfl, fun u x hu he => hc u x (alls hu he) he⟩⟩
      · have hc' : CycS (es.map toN) (fun u _ => u < i + 1) t l := hc.mono (fun u x hh => by rcases hh with hh | ⟨hh, _⟩ <;> omega) fun u x hu he h0 => .inl (alls hu he)
        rcases hts with ⟨hts, _⟩ | ⟨rfl, rfl, rfl, e4⟩
        · exact hk (m - 1) _ _ _ _ _ _ _ _ (by omega) ⟨i + 1, sf, cf, rfl, rfl, rfl, rfl, rfl, by omega, H.re, .inr ⟨t, l, df, rfl, rfl, ht, hts, hdf, hDf, hc'⟩⟩
        · exact hk (m - 1) _ _ _ _ _ _ _ _ (by omega) ⟨i + 1, _, csd, rfl, rfl, rfl, rfl, rfl, by omega, H.re, .inr ⟨t, l, _, rfl, rfl, ht, hsd, hdf, hDf, hc'⟩⟩
  · obtain rfl : i = base.length := by omega
    unfold F21_j2
    rcases hc with ⟨rfl, rfl, rfl, hc⟩ | ⟨t, l, df, rfl, rfl, ht, hts, hdf, hDf, hc⟩
    · repeat (first | simp only [cI_enc, cE_enc, cN_enc, W0] | refine lss_a ?_ | refine lss_b ?_ | refine gtr_a ?_ | refine gtr_b ?_ | refine geq_a ?_ | refine geq_b ?_ | refine leq_a ?_ | refine leq_b ?_ | refine eql_a ?_ | refine eql_b ?_ | refine neq_a ?_ | refine neq_b ?_ | refine add_a ?_ | refine sub_a ?_ | refine ld_a ?_ | refine ldA_a ?_ | refine ldS_a ?_ | refine ldNS_a ?_ | refine rdA_s ?_ | refine rd1_s ?_ | refine drew_a fun w1 H1 => ?_ | refine st_a fun w1 H1 => ?_ | refine stA_a fun w1 H1 => ?_ | refine lenT_a ?_ | refine lenO_a ?_ | refine ixT_a ?_ | refine ixO_a ?_ | fail)
      exact .inr (.inl ⟨h, fun u hu x he => hc u x hu he, (by first | rfl | trivial), H.re⟩)
    · repeat (first | simp only [cI_enc, cE_enc, cN_enc, W0] | refine lss_a ?_ | refine lss_b ?_ | refine gtr_a ?_ | refine gtr_b ?_ | refine geq_a ?_ | refine geq_b ?_ | refine leq_a ?_ | refine leq_b ?_ | refine eql_a ?_ | refine eql_b ?_ | refine neq_a ?_ | refine neq_b ?_ | refine add_a ?_ | refine sub_a ?_ | refine ld_a ?_ | refine ldA_a ?_ | refine ldS_a ?_ | refine ldNS_a ?_ | refine rdA_s ?_ | refine rd1_s ?_ | refine drew_a fun w1 H1 => ?_ | refine st_a fun w1 H1 => ?_ | refine stA_a fun w1 H1 => ?_ | refine lenT_a ?_ | refine lenO_a ?_ | refine ixT_a ?_ | refine ixO_a ?_ | fail)
      have hE : ∀ u, u < base.length → gt df u = dst (es.map toN) t u := fun u hu => hDf.eq hu
      obtain ⟨y, y1, y2, y3, y4⟩ := hc.ex
      have hyn := (c5 _ y2).2
      have hyb : gt df y ≤ base.length := hDf.val_le c5 hyn
      have hye := hE y hyn
      refine lit1_t (C := cU) (x := t) elU H rfl (by decide) fun w s1 cs1 H hs1 => ?_
      refine cal_h (walk_spec hs1 hh (TS.tr hts) H csub csub hp hi c5 c1 hel ht hdf hDf (by omega) (.inr ⟨y, y2, by omega⟩)) ?_
      rintro _ w ⟨s, cs, rfl, H, hs⟩
      refine .inr (.inr ⟨h, s, cs, t, l, rfl, H.re, ⟨ht, ⟨y, y2, y3, y4⟩, fun u hu x he h0 => hc.min u x hu he h0⟩, hDf.dst, ?_⟩)
      rw [← chainP_congr hE]
      exact hs
end
end Go.Proofs.Ytagcifbfokneoaa.Den
