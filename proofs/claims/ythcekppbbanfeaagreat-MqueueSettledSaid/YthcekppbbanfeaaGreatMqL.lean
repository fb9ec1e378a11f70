/- The library's stable sort at the pairs of Late: ranges exchanged, rotations, insertion. Conditions: none. -/
import Derived.Test.YthcekppbbanfeaaGreatMqK
set_option linter.unusedVariables false
set_option linter.unusedSimpArgs false
set_option maxRecDepth 8000
set_option maxHeartbeats 2000000
namespace Go.Proofs.YthcekppbbanfeaaGreat.Den
open Go Go.RowKit
section
variable {w w' w0 : World} {L L' F cs cs2 cs3 : List Chunk} {s s2 : Value} {K : VK} {R : ER} {key : Pr → Int} {f : Nat}
/-- What a comparison says. -/
def CmpLate (key : Pr → Int) (f : Nat) : Prop := enterOk Pg f = true ∧ ∀ (x y : Pr) (w0 w : World) (L : List Chunk), Hp w0 w L → Calls Pg f ⟨[.agg ⟨cPr.enc x⟩, .agg ⟨cPr.enc y⟩]⟩ w fun e w' => ∃ r, e = .returned (I r) ∧ (r < 0 ↔ key x < key y) ∧ Hp w0 w' L
theorem cmpLate_k {x y : Pr} (hc : CmpLate key f) (H : Hp w0 w L) (g : ∀ w r, (r < 0 ↔ key x < key y) → Hp w0 w L → K (I r) w) : calD Pg R (.func (.func f) ⟨[]⟩ ⟨[]⟩) ⟨[.agg ⟨cPr.enc x⟩, .agg ⟨cPr.enc y⟩]⟩ K w := by
  refine calD_k (a := []) (b := [.agg ⟨cPr.enc x⟩, .agg ⟨cPr.enc y⟩]) (c := []) hc.1 ?_
  refine cal_h (hc.2 x y w0 w L H) ?_
  rintro _ w ⟨r, rfl, h, H⟩
  exact g w r h H
theorem swapRLate_spec {P X M Y S : List Pr} {v4 : Value} (h : TS cPr 136 s (P ++ (X ++ (M ++ (Y ++ S)))) cs) (hxy : X.length = Y.length) (hn : (P ++ (X ++ (M ++ (Y ++ S)))).length < 2 ^ 30) (H : Hp w0 w (cs ++ F)) :
    Calls Pg 114 ⟨[s, I (P.length : Int), I ((P.length + X.length + M.length : Nat) : Int), I (X.length : Int), v4]⟩ w fun e w' => ∃ cs', e = .returned (.tuple ⟨[]⟩) ∧ TS cPr 136 s (P ++ (Y ++ (M ++ (X ++ S)))) cs' ∧ Hp w0 w' (cs' ++ F) := by
  generalize hQ : (fun (e : Ending) (w' : World) => ∃ cs', e = .returned (.tuple ⟨[]⟩) ∧ TS cPr 136 s (P ++ (Y ++ (M ++ (X ++ S)))) cs' ∧ Hp w0 w' (cs' ++ F) : ER) = Q
  apply F114_calls
  unfold F114 F114_j1
  have hlen : P.length + X.length + M.length + Y.length ≤ (P ++ (X ++ (M ++ (Y ++ S)))).length := by simp only [List.length_append]; omega
  refine loop5 (F114_l1_succ _) (fun m x0 x1 x2 x3 x10 w => ∃ (i : Nat) (cs : List Chunk), x0 = s ∧ x1 = I (P.length : Int) ∧ x2 = I ((P.length + X.length + M.length : Nat) : Int) ∧ x3 = I (X.length : Int) ∧ x10 = I (i : Int) ∧ m + i = X.length ∧
    TS cPr 136 s (P ++ ((Y.take i ++ X.drop i) ++ (M ++ ((X.take i ++ Y.drop i) ++ S)))) cs ∧ Hp w0 w (cs ++ F)) ?_ (m := X.length) ⟨0, cs, rfl, rfl, rfl, rfl, rfl, rfl, by simpa using h, H⟩
  clear H h
  rintro m k _ _ _ _ _ w ⟨i, cs, rfl, rfl, rfl, rfl, rfl, hm, hT, H⟩ hk
  unfold F114_b1
  refine lss_k (fun hi => ?_) (fun hi => ?_)
  · (try simp only [W0])
    have hi1 : i < X.length := by omega
    have hi2 : i < Y.length := by omega
    have ex : X = X.take i ++ X[i] :: X.drop (i + 1) := by rw [← List.drop_eq_getElem_cons hi1, List.take_append_drop]
    have ey : Y = Y.take i ++ Y[i] :: Y.drop (i + 1) := by rw [← List.drop_eq_getElem_cons hi2, List.take_append_drop]
    have hx' : X.drop i = X[i] :: X.drop (i + 1) := List.drop_eq_getElem_cons hi1
    have hy' : Y.drop i = Y[i] :: Y.drop (i + 1) := List.drop_eq_getElem_cons hi2
    have hxt : X.take (i + 1) = X.take i ++ [X[i]] := by rw [List.take_add_one, List.getElem?_eq_getElem hi1]; rfl
    have hyt : Y.take (i + 1) = Y.take i ++ [Y[i]] := by rw [List.take_add_one, List.getElem?_eq_getElem hi2]; rfl
    rw [hx', hy'] at hT
    generalize X[i] = x at *
    generalize Y[i] = y at *
    have lx : (X.take i).length = i := by rw [List.length_take]; omega
    have ly : (Y.take i).length = i := by rw [List.length_take]; omega
    have ldx : (X.drop (i + 1)).length = X.length - (i + 1) := List.length_drop
    generalize hU : X.take i = U at *
    generalize hV : Y.take i = V at *
    generalize hX2 : X.drop (i + 1) = X2 at *
    generalize hY2 : Y.drop (i + 1) = Y2 at *
    have e1 : P ++ ((V ++ x :: X2) ++ (M ++ ((U ++ y :: Y2) ++ S))) = (P ++ V) ++ x :: (X2 ++ (M ++ (U ++ y :: (Y2 ++ S)))) := by simp
    have e2 : (P ++ V) ++ x :: (X2 ++ (M ++ (U ++ y :: (Y2 ++ S)))) = (P ++ V ++ x :: (X2 ++ M ++ U)) ++ y :: (Y2 ++ S) := by simp
    have l1 : (P ++ V).length = P.length + i := by rw [List.length_append, ly]
    have l2 : (P ++ V ++ x :: (X2 ++ M ++ U)).length = P.length + X.length + M.length + i := by simp only [List.length_append, List.length_cons, lx, ly, ldx]; omega
    rw [e1] at hT
    have g1 : ((P ++ V) ++ x :: (X2 ++ (M ++ (U ++ y :: (Y2 ++ S)))))[P.length + i]? = some x := by rw [← l1]; exact get_at
    have g2 : ((P ++ V) ++ x :: (X2 ++ (M ++ (U ++ y :: (Y2 ++ S)))))[P.length + X.length + M.length + i]? = some y := by rw [e2, ← l2]; exact get_at
    have hb1 := (List.getElem?_eq_some_iff.1 g1).1
    have hb2 := (List.getElem?_eq_some_iff.1 g2).1
    have hset : (((P ++ V) ++ x :: (X2 ++ (M ++ (U ++ y :: (Y2 ++ S))))).set (P.length + i) y).set (P.length + X.length + M.length + i) x = P ++ ((Y.take (i + 1) ++ X2) ++ (M ++ ((X.take (i + 1) ++ Y2) ++ S))) := by
      rw [← l1, set_at, show (P ++ V) ++ y :: (X2 ++ (M ++ (U ++ y :: (Y2 ++ S)))) = (P ++ V ++ y :: (X2 ++ M ++ U)) ++ y :: (Y2 ++ S) from by simp, show P.length + X.length + M.length + i = (P ++ V ++ y :: (X2 ++ M ++ U)).length from by rw [← l2]; simp, set_at, hxt, hyt]
      simp
    unfold F114_j2
    refine drew_k H fun w H => ?_
    refine add_k (z := ((P.length + i : Nat) : Int)) (by omega) (by omega) (by omega) ?_
    refine add_k (z := ((P.length + X.length + M.length + i : Nat) : Int)) (by omega) (by omega) (by omega) ?_
    refine add_k (z := ((P.length + X.length + M.length + i : Nat) : Int)) (by omega) (by omega) (by omega) ?_
    refine ixN_t (C := cPr) hT.tr H (fun c hc => List.mem_append_left _ hc) g2 (by decide) ?_
    refine add_k (z := ((P.length + i : Nat) : Int)) (by omega) (by omega) (by omega) ?_
    refine ixN_t (C := cPr) hT.tr H (fun c hc => List.mem_append_left _ hc) g1 (by decide) ?_
    (try simp only [W0])
    refine istN_t (C := cPr) (x := y) hT H Split.here hb1 fun w c1 H h1 => ?_
    (try simp only [W0])
    refine istN_t (C := cPr) (x := x) h1 H Split.here (by rw [List.length_set]; exact hb2) fun w c2 H h2 => ?_
    (try simp only [W0])
    refine add_k (z := ((i + 1 : Nat) : Int)) (by omega) (by omega) (by omega) ?_
    rw [hset] at h2
    refine hk (m - 1) _ _ _ _ _ _ (by omega) ⟨i + 1, c2, rfl, rfl, rfl, rfl, rfl, by omega, ?_, H⟩
    rw [hX2, hY2]; exact h2
  · (try simp only [W0])
    rw [List.take_of_length_le (l := X) (by omega), List.take_of_length_le (l := Y) (by omega), List.drop_eq_nil_of_le (show X.length ≤ i by omega), List.drop_eq_nil_of_le (show Y.length ≤ i by omega), List.append_nil, List.append_nil] at hT
    subst hQ
    exact ⟨cs, rfl, hT, H⟩
theorem rotLate_spec {P X Y S : List Pr} {v4 : Value} (h : TS cPr 136 s (P ++ (X ++ (Y ++ S))) cs) (hx : 0 < X.length) (hy : 0 < Y.length) (hn : (P ++ (X ++ (Y ++ S))).length < 2 ^ 30) (H : Hp w0 w (cs ++ F)) :
    Calls Pg 112 ⟨[s, I (P.length : Int), I ((P.length + X.length : Nat) : Int), I ((P.length + X.length + Y.length : Nat) : Int), v4]⟩ w fun e w' => ∃ cs', e = .returned (.tuple ⟨[]⟩) ∧ TS cPr 136 s (P ++ (Y ++ (X ++ S))) cs' ∧ Hp w0 w' (cs' ++ F) := by
  generalize hQ : (fun (e : Ending) (w' : World) => ∃ cs', e = .returned (.tuple ⟨[]⟩) ∧ TS cPr 136 s (P ++ (Y ++ (X ++ S))) cs' ∧ Hp w0 w' (cs' ++ F) : ER) = Q
  apply F112_calls
  unfold F112 F112_j2
  have hn2 : P.length + X.length + Y.length < 2 ^ 30 := by simp only [List.length_append] at hn; omega
  refine sub_k (z := (X.length : Int)) (by omega) (by omega) (by omega) ?_
  refine sub_k (z := (Y.length : Int)) (by omega) (by omega) (by omega) ?_
  refine loop5 (F112_l1_succ _) (fun m x0 x2 x4 x10 x11 w => ∃ (P' X' Y' S' : List Pr) (cs : List Chunk), x0 = s ∧ x2 = I ((P.length + X.length : Nat) : Int) ∧ x10 = I (X'.length : Int) ∧ x11 = I (Y'.length : Int) ∧ 0 < X'.length ∧ 0 < Y'.length ∧ m = X'.length + Y'.length ∧ P'.length + X'.length = P.length + X.length ∧
    X'.length ≤ X.length ∧ Y'.length ≤ Y.length ∧ P' ++ (Y' ++ (X' ++ S')) = P ++ (Y ++ (X ++ S)) ∧ TS cPr 136 s (P' ++ (X' ++ (Y' ++ S'))) cs ∧ Hp w0 w (cs ++ F)) ?_ (m := X.length + Y.length) ⟨P, X, Y, S, cs, rfl, rfl, rfl, rfl, hx, hy, rfl, rfl, Nat.le_refl _, Nat.le_refl _, rfl, h, H⟩
  clear H h
  rintro m k _ _ x4 _ _ w ⟨P', X', Y', S', cs, rfl, rfl, rfl, rfl, hx', hy', rfl, hpl, hxl, hyl, he, hT, H⟩ hk
  have hlen : (P' ++ (X' ++ (Y' ++ S'))).length < 2 ^ 30 := by
    have := congrArg List.length he
    simp only [List.length_append] at this hn ⊢
    omega
  unfold F112_b1
  refine neq_k (fun h1 => ?_) (fun h1 => ?_)
  · (try simp only [W0])
    unfold F112_j3
    refine gtr_k (fun h2 => ?_) (fun h2 => ?_)
    · unfold F112_j4
      (try simp only [W0])
      unfold F112_j5
      have e : X' = X'.take Y'.length ++ X'.drop Y'.length := (List.take_append_drop _ _).symm
      have l1 : (X'.take Y'.length).length = Y'.length := by rw [List.length_take]; omega
      have l2 : (X'.drop Y'.length).length = X'.length - Y'.length := List.length_drop
      generalize X'.take Y'.length = X1 at *
      generalize X'.drop Y'.length = X2 at *
      subst e
      rw [List.length_append] at hx' hxl hpl h1 h2 hk ⊢
      rw [List.append_assoc] at hT hlen
      refine sub_k (z := (P'.length : Int)) (by omega) (by omega) (by omega) ?_
      have hs := swapRLate_spec (P := P') (X := X1) (M := X2) (Y := Y') (S := S') (v4 := x4) hT l1 hlen H
      rw [show P'.length + X1.length + X2.length = P.length + X.length from by omega, l1] at hs
      refine cal_h hs ?_
      rintro _ w ⟨c2, rfl, hT2, H⟩
      (try simp only [W0])
      refine sub_k (z := (X2.length : Int)) (by omega) (by omega) (by omega) ?_
      refine hk (X2.length + X1.length) _ _ _ _ _ _ (by omega) ⟨P' ++ Y', X2, X1, S', c2, rfl, rfl, rfl, by rw [l1], by omega, by omega, rfl, by rw [List.length_append]; omega, by omega, by omega, ?_, by simpa using hT2, H⟩
      rw [← he]; simp
    · unfold F112_j4
      (try simp only [W0])
      unfold F112_j6
      have e : Y' = Y'.take (Y'.length - X'.length) ++ Y'.drop (Y'.length - X'.length) := (List.take_append_drop _ _).symm
      have l1 : (Y'.take (Y'.length - X'.length)).length = Y'.length - X'.length := by rw [List.length_take]; omega
      have l2 : (Y'.drop (Y'.length - X'.length)).length = X'.length := by rw [List.length_drop]; omega
      generalize Y'.take (Y'.length - X'.length) = Y1 at *
      generalize Y'.drop (Y'.length - X'.length) = Y2 at *
      subst e
      rw [List.length_append] at hy' hyl h1 h2 hk l1 ⊢
      rw [List.append_assoc] at hT hlen
      refine sub_k (z := (P'.length : Int)) (by omega) (by omega) (by omega) ?_
      refine add_k (z := ((P.length + X.length + (Y1.length + Y2.length) : Nat) : Int)) (by omega) (by omega) (by omega) ?_
      refine sub_k (z := ((P.length + X.length + Y1.length : Nat) : Int)) (by omega) (by omega) (by omega) ?_
      have hs := swapRLate_spec (P := P') (X := X') (M := Y1) (Y := Y2) (S := S') (v4 := x4) hT l2.symm hlen H
      rw [show P'.length + X'.length + Y1.length = P.length + X.length + Y1.length from by omega] at hs
      refine cal_h hs ?_
      rintro _ w ⟨c2, rfl, hT2, H⟩
      (try simp only [W0])
      refine sub_k (z := (Y1.length : Int)) (by omega) (by omega) (by omega) ?_
      refine hk (Y2.length + Y1.length) _ _ _ _ _ _ (by omega) ⟨P', Y2, Y1, X' ++ S', c2, rfl, rfl, by rw [l2], rfl, by omega, by omega, rfl, by omega, by omega, by omega, ?_, by simpa using hT2, H⟩
      rw [← he]; simp
  · (try simp only [W0])
    unfold F112_j1
    refine sub_k (z := (P'.length : Int)) (by omega) (by omega) (by omega) ?_
    have hs := swapRLate_spec (P := P') (X := X') (M := []) (Y := Y') (S := S') (v4 := x4) hT (by omega) hlen H
    rw [show P'.length + X'.length + ([] : List Pr).length = P.length + X.length from by simp; omega] at hs
    refine cal_h hs ?_
    rintro _ w ⟨c2, rfl, hT2, H⟩
    subst hQ
    refine ⟨c2, (by first | rfl | trivial), ?_, H⟩
    rw [← he]; exact hT2
theorem insLate_spec (hc : CmpLate key f) {P A S : List Pr} (h : TS cPr 136 s (P ++ (A ++ S)) cs) (hn : (P ++ (A ++ S)).length < 2 ^ 30) (H : Hp w0 w (cs ++ F)) :
    Calls Pg 105 ⟨[s, I (P.length : Int), I ((P.length + A.length : Nat) : Int), .func (.func f) ⟨[]⟩ ⟨[]⟩]⟩ w fun e w' => ∃ C cs', e = .returned (.tuple ⟨[]⟩) ∧ TS cPr 136 s (P ++ (C ++ S)) cs' ∧ Srt key C ∧ Same key A C ∧ Hp w0 w' (cs' ++ F) := by
  generalize hQ : (fun (e : Ending) (w' : World) => ∃ C cs', e = .returned (.tuple ⟨[]⟩) ∧ TS cPr 136 s (P ++ (C ++ S)) cs' ∧ Srt key C ∧ Same key A C ∧ Hp w0 w' (cs' ++ F) : ER) = Q
  apply F105_calls
  unfold F105
  have hn2 : P.length + A.length < 2 ^ 30 := by simp only [List.length_append] at hn; omega
  refine add_k (z := ((P.length + 1 : Nat) : Int)) (by omega) (by omega) (by omega) ?_
  unfold F105_j1
  refine loop5 (F105_l2_succ _) (fun m x0 x1 x2 x3 x8 w => ∃ (t : Nat) (C : List Pr) (cs : List Chunk), x0 = s ∧ x1 = I (P.length : Int) ∧ x2 = I ((P.length + A.length : Nat) : Int) ∧ x3 = .func (.func f) ⟨[]⟩ ⟨[]⟩ ∧ x8 = I ((P.length + t : Nat) : Int) ∧ 1 ≤ t ∧ m = A.length - t ∧
    Same key (A.take t) C ∧ Srt key C ∧ TS cPr 136 s (P ++ (C ++ (A.drop t ++ S))) cs ∧ Hp w0 w (cs ++ F)) ?_ (m := A.length - 1) ⟨1, A.take 1, cs, rfl, rfl, rfl, rfl, rfl, Nat.le_refl _, rfl, Same.refl, ?_, ?_, H⟩
  rotate_left
  · cases A with
    | nil => exact Srt.nil
    | cons a A => exact Srt.one
  · rw [← List.append_assoc (A.take 1), List.take_append_drop]; exact h
  clear H h
  rintro m k s _ _ _ _ w ⟨t, C, cs, rfl, rfl, rfl, rfl, rfl, ht, rfl, hsame, hsrt, hT, H⟩ hk
  unfold F105_b1
  refine lss_k (fun hi => ?_) (fun hi => ?_)
  · (try simp only [W0])
    have hi1 : t < A.length := by omega
    have hd : A.drop t = A[t] :: A.drop (t + 1) := List.drop_eq_getElem_cons hi1
    have htk : A.take (t + 1) = A.take t ++ [A[t]] := by rw [List.take_add_one, List.getElem?_eq_getElem hi1]; rfl
    rw [hd] at hT
    generalize A[t] = x at *
    generalize hR : A.drop (t + 1) = R2 at *
    have hCl : C.length = t := by rw [hsame.len, List.length_take]; omega
    unfold F105_j2 F105_j4 F105_j5
    have hlen : P.length + t < (P ++ (C ++ (x :: R2 ++ S))).length := by simp only [List.length_append, List.length_cons]; omega
    refine loop6 (F105_l1_succ _ _) (fun m x0 x1 x2 x3 x8 x9 w => ∃ (u : Nat) (cs : List Chunk), x0 = s ∧ x1 = I (P.length : Int) ∧ x2 = I ((P.length + A.length : Nat) : Int) ∧ x3 = .func (.func f) ⟨[]⟩ ⟨[]⟩ ∧ x8 = I ((P.length + t : Nat) : Int) ∧ x9 = I ((P.length + u : Nat) : Int) ∧ u ≤ t ∧ m = u ∧
      (∀ y ∈ C.drop u, key x < key y) ∧ TS cPr 136 s (P ++ (C.take u ++ (x :: C.drop u ++ (R2 ++ S)))) cs ∧ Hp w0 w (cs ++ F)) ?_ (m := t) ⟨t, cs, rfl, rfl, rfl, rfl, rfl, rfl, Nat.le_refl _, rfl, ?_, ?_, H⟩
    rotate_left
    · rw [List.drop_eq_nil_of_le (by omega)]; simp
    · rw [List.drop_eq_nil_of_le (by omega), List.take_of_length_le (by omega)]; exact hT
    clear H hT
    rintro u k2 s _ _ _ _ _ w ⟨_, cs, rfl, rfl, rfl, rfl, rfl, rfl, hu, rfl, hlt, hT, H⟩ hk2
    have stop : ∀ w, Hp w0 w (cs ++ F) → (u = 0 ∨ ∃ y, C[u - 1]? = some y ∧ key y < key x + 1) → F105_j3 Q k s (I (P.length : Int)) (I ((P.length + A.length : Nat) : Int)) (.func (.func f) ⟨[]⟩ ⟨[]⟩) (I ((P.length + t : Nat) : Int)) w := by
      intro w H hst
      unfold F105_j3
      refine add_k (z := ((P.length + (t + 1) : Nat) : Int)) (by omega) (by omega) (by omega) ?_
      have hge : C.length ≤ u ∨ ∃ y, C[u]? = some y ∧ key x ≤ key y := by
        by_cases hcu : u < C.length
        · have := hlt C[u] (by rw [List.drop_eq_getElem_cons hcu]; exact List.mem_cons_self ..)
          exact .inr ⟨_, List.getElem?_eq_getElem hcu, by omega⟩
        · exact .inl (by omega)
      refine hk (A.length - (t + 1)) _ _ _ _ _ _ (by omega) ⟨t + 1, C.take u ++ ([x] ++ C.drop u), cs, rfl, rfl, rfl, rfl, rfl, by omega, rfl, ?_, hsrt.ins hst hge, ?_, H⟩
      · rw [htk]
        refine (hsame.app Same.refl).trans ?_
        have e : C ++ [x] = C.take u ++ (C.drop u ++ [x]) := by rw [← List.append_assoc, List.take_append_drop]
        rw [e]
        refine Same.refl.app (Same.swap fun z hz y hy => ?_)
        rw [List.mem_singleton.1 hy]; exact hlt z hz
      · rw [hR]; simpa using hT
    unfold F105_b2 F105_j7
    refine drew_k H fun w H => ?_
    have lu : (C.take u).length = u := by rw [List.length_take]; omega
    refine gtr_k (fun hg => ?_) (fun hg => ?_)
    · (try simp only [W0])
      obtain ⟨v, rfl⟩ : ∃ v, u = v + 1 := ⟨u - 1, by omega⟩
      have hv : v < C.length := by omega
      have ec : C.take (v + 1) = C.take v ++ [C[v]] := by rw [List.take_add_one, List.getElem?_eq_getElem hv]; rfl
      have ed : C.drop v = C[v] :: C.drop (v + 1) := List.drop_eq_getElem_cons hv
      have ecv : C[v]? = some C[v] := List.getElem?_eq_getElem hv
      generalize C[v] = y at *
      have lv : (C.take v).length = v := by rw [List.length_take]; omega
      rw [ec] at hT
      have eT : P ++ ((C.take v ++ [y]) ++ (x :: C.drop (v + 1) ++ (R2 ++ S))) = (P ++ C.take v) ++ y :: x :: (C.drop (v + 1) ++ (R2 ++ S)) := by simp
      rw [eT] at hT
      have l1 : (P ++ C.take v).length = P.length + v := by rw [List.length_append, lv]
      have g1 : ((P ++ C.take v) ++ y :: x :: (C.drop (v + 1) ++ (R2 ++ S)))[P.length + v]? = some y := by rw [← l1]; exact get_at
      have g2 : ((P ++ C.take v) ++ y :: x :: (C.drop (v + 1) ++ (R2 ++ S)))[P.length + (v + 1)]? = some x := by rw [← Nat.add_assoc, ← l1]; exact get_at1
      have hb1 := (List.getElem?_eq_some_iff.1 g1).1
      have hb2 := (List.getElem?_eq_some_iff.1 g2).1
      refine ixN_t (C := cPr) hT.tr H (fun c hc => List.mem_append_left _ hc) g2 (by decide) ?_
      (try simp only [W0])
      refine sub_k (z := ((P.length + v : Nat) : Int)) (by omega) (by omega) (by omega) ?_
      (try simp only [W0])
      refine ixN_t (C := cPr) hT.tr H (fun c hc => List.mem_append_left _ hc) g1 (by decide) ?_
      (try simp only [W0])
      refine cmpLate_k hc H fun w r hr H => ?_
      (try simp only [W0])
      refine lss_k (fun hr0 => ?_) (fun hr0 => ?_)
      · (try simp only [W0])
        have hxy := hr.1 hr0
        unfold F105_j6
        refine drew_k H fun w H => ?_
        refine sub_k (z := ((P.length + v : Nat) : Int)) (by omega) (by omega) (by omega) ?_
        refine sub_k (z := ((P.length + v : Nat) : Int)) (by omega) (by omega) (by omega) ?_
        refine ixN_t (C := cPr) hT.tr H (fun c hc => List.mem_append_left _ hc) g1 (by decide) ?_
        refine ixN_t (C := cPr) hT.tr H (fun c hc => List.mem_append_left _ hc) g2 (by decide) ?_
        (try simp only [W0])
        refine istN_t (C := cPr) (x := y) hT H Split.here hb2 fun w c1 H h1 => ?_
        (try simp only [W0])
        refine istN_t (C := cPr) (x := x) h1 H Split.here (by rw [List.length_set]; exact hb1) fun w c2 H h2 => ?_
        (try simp only [W0])
        refine sub_k (z := ((P.length + v : Nat) : Int)) (by omega) (by omega) (by omega) ?_
        rw [← Nat.add_assoc, ← l1, set2_dn] at h2
        refine hk2 v _ _ _ _ _ _ _ (by omega) ⟨v, c2, rfl, rfl, rfl, rfl, rfl, rfl, by omega, rfl, ?_, ?_, H⟩
        · intro z hz
          rw [ed] at hz
          rcases List.mem_cons.1 hz with rfl | hz
          · exact hxy
          · exact hlt z hz
        · rw [ed]; simpa using h2
      · (try simp only [W0])
        have hxy : ¬ key x < key y := fun h => hr0 (hr.2 h)
        exact stop w H (.inr ⟨y, by simpa using ecv, by omega⟩)
    · (try simp only [W0])
      exact stop w H (.inl (by omega))
  · (try simp only [W0])
    subst hQ
    rw [List.take_of_length_le (by omega)] at hsame
    rw [List.drop_eq_nil_of_le (by omega)] at hT
    exact ⟨C, cs, rfl, hT, hsrt, hsame, H⟩
end
end Go.Proofs.YthcekppbbanfeaaGreat.Den
