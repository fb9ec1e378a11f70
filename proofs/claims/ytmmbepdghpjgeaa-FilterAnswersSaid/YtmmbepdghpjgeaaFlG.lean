/- Packet filter, the reader of a rule's text: choose. Conditions: none. -/
import Derived.Test.YtmmbepdghpjgeaaFlE
set_option linter.unusedVariables false
set_option linter.unusedSimpArgs false
set_option maxRecDepth 8000
set_option maxHeartbeats 1000000
namespace Go.Proofs.Ytmmbepdghpjgeaa.Den
open Go Go.RowKit
/-- Is a word with these first n bytes still possible? -/
def vb (run : List Nat) (n : Nat) (wd : ByteArray) : Bool := decide (n ≤ wd.size ∧ (bts wd).take n = run.take n)
def lev {α : Type} (f g : α → Bool) (q : Nat) (ws : List α) : List Bool := (ws.take q).map f ++ (ws.drop q).map g
section
variable {α : Type} {f g : α → Bool} {ws : List α} {q : Nat} {x : α}
theorem lev_len (h : q ≤ ws.length) : (lev f g q ws).length = ws.length := by simp [lev]; omega
theorem lev_get (h : ws[q]? = some x) : (lev f g q ws)[q]? = some (g x) := by
  have hq := (List.getElem?_eq_some_iff.1 h).1
  unfold lev
  rw [List.getElem?_append_right (by simp; omega)]
  have : (q - (List.map f (List.take q ws)).length) = 0 := by simp; omega
  rw [this, List.getElem?_map, List.getElem?_drop]; simp [h]
theorem lev_set (h : ws[q]? = some x) : (lev f g q ws).set q (f x) = lev f g (q + 1) ws := by
  have hq := (List.getElem?_eq_some_iff.1 h).1
  unfold lev
  rw [List.set_append_right _ _ (by simp; omega)]
  have : (q - (List.map f (List.take q ws)).length) = 0 := by simp; omega
  rw [this, List.drop_eq_getElem_cons hq, List.take_add_one, h, (List.getElem?_eq_some_iff.1 h).2]; simp
theorem lev_same (h : ws[q]? = some x) (e : f x = g x) : lev f g (q + 1) ws = lev f g q ws := by
  rw [← lev_set h, e]
  have h1 := lev_get (f := f) (g := g) h
  obtain ⟨h2, h3⟩ := List.getElem?_eq_some_iff.1 h1
  rw [← h3]; exact List.set_getElem_self h2
theorem lev_zero : lev f g 0 ws = ws.map g := by simp [lev]
theorem lev_all (h : ws.length ≤ q) : lev f g q ws = ws.map f := by unfold lev; rw [List.take_of_length_le h, List.drop_of_length_le h]; simp
end
section
variable {S : ByteArray} {i n : Nat} {wd : ByteArray}
theorem run_at (h : n < (wordAt S i).length) : (wordAt S i)[n]? = some (chr S (i + n)) ∧ chr S (i + n) ≠ 32 ∧ i + n < S.size := by
  obtain ⟨x, h1, h2, h3⟩ := takeWhile_get (p := (· != 32)) ((bts S).drop i) n h
  have hc : chr S (i + n) = x := by rw [chr_drop, List.getD_eq_getElem?_getD, h1]; rfl
  refine ⟨by rw [hc]; exact h2, by rw [hc]; simpa using h3, ?_⟩
  have := (List.getElem?_eq_some_iff.1 h1).1
  rw [List.length_drop, bts_len] at this; omega
theorem run_stop : chr S (i + (wordAt S i).length) = 32 ∨ (S.size ≤ i + (wordAt S i).length) := by
  rcases Nat.lt_or_ge (i + (wordAt S i).length) S.size with h | h
  · left
    have hl : (wordAt S i).length < ((bts S).drop i).length := by rw [List.length_drop, bts_len]; omega
    have h1 : ((bts S).drop i)[(((bts S).drop i).takeWhile (· != 32)).length]? = some (((bts S).drop i)[(wordAt S i).length]'hl) := List.getElem?_eq_getElem hl
    have := takeWhile_end ((bts S).drop i) _ h1
    rw [chr_drop, List.getD_eq_getElem?_getD, List.getElem?_eq_getElem hl]
    simpa using this
  · exact .inr h
theorem ends_run (h : n ≤ (wordAt S i).length) : endsP S (i + n) = decide (n = (wordAt S i).length) := by
  rcases Nat.lt_or_ge n (wordAt S i).length with h1 | h1
  · obtain ⟨_, h2, h3⟩ := run_at h1
    rw [decide_eq_false (by omega)]
    unfold endsP
    rw [decide_eq_false (by omega)]; simpa using h2
  · obtain rfl : n = (wordAt S i).length := by omega
    rw [decide_eq_true rfl]
    unfold endsP
    rcases run_stop (S := S) (i := i) with h2 | h2
    · simp [h2]
    · simp [h2]
theorem vb_mono {run : List Nat} (h : vb run (n + 1) wd = true) : vb run n wd = true := by
  unfold vb at *
  rw [decide_eq_true_eq] at *
  refine ⟨by omega, ?_⟩
  have := congrArg (List.take n) h.2
  rwa [List.take_take, List.take_take, Nat.min_eq_left (by omega)] at this
theorem vb_step (h : vb (wordAt S i) n wd = true) (hn : n ≤ (wordAt S i).length) (hw : ∀ x ∈ bts wd, x ≠ 32 ∧ x ≠ 10) :
    vb (wordAt S i) (n + 1) wd = (decide (n < wd.size) && decide (chr S (i + n) = chr wd n)) := by
  unfold vb at h
  rw [decide_eq_true_eq] at h
  by_cases hl : n < wd.size
  · have hl' : n < (bts wd).length := by rw [bts_len]; exact hl
    have hx : (bts wd)[n]? = some (chr wd n) := by
      unfold chr; rw [List.getD_eq_getElem?_getD, List.getElem?_eq_getElem hl']; rfl
    have hxw := hw _ (List.mem_of_getElem? hx)
    rw [Bool.eq_iff_iff]
    simp only [vb, decide_eq_true_eq, Bool.and_eq_true, hl, true_and]
    rw [List.take_add_one, List.take_add_one, hx, h.2]
    constructor
    · rintro ⟨_, h2⟩
      have h3 := List.append_cancel_left h2
      rcases Nat.lt_or_ge n (wordAt S i).length with h1 | h1
      · rw [(run_at h1).1] at h3; simp at h3; exact h3.symm
      · rw [List.getElem?_eq_none h1] at h3; simp at h3
    · intro h2
      refine ⟨by omega, ?_⟩
      rcases Nat.lt_or_ge n (wordAt S i).length with h1 | h1
      · rw [(run_at h1).1, h2]
      · obtain rfl : n = (wordAt S i).length := by omega
        rcases run_stop (S := S) (i := i) with h3 | h3
        · exact absurd (h2 ▸ h3) hxw.1
        · rw [chr_out h3] at h2; exact absurd h2.symm hxw.2
  · rw [decide_eq_false hl, Bool.false_and]
    unfold vb; rw [decide_eq_false]
    rintro ⟨h1, _⟩; omega
end
theorem elBool : ElT 155 4 cBool.sz 1 [.bool false] := ⟨by kernel_rfl, by kernel_rfl, rfl⟩
section
variable {w w' w0 : World} {L L' F cs A X Y : List Chunk} {s : Value} {K : VK} {R : ER} {b i j at' : Nat} {S : ByteArray}
theorem fchoose_spec {ws : List ByteArray} {k : Nat} (hws : TR cStr w0 cs s ws) (m1 : ∀ c ∈ cs, c ∈ L) (H : Hp w0 w L) (hu : Upd L b (.t 102) [.string S, I (i : Int)] (.t 102) [.string S, I (j : Int)] L') (hn : chooseP S i ws = some (k, j))
    (hw : ∀ wd ∈ ws, wd.size ≤ 1000 ∧ ∀ x ∈ bts wd, x ≠ 32 ∧ x ≠ 10) (hwl : ws.length ≤ 1000) (hS : S.size ≤ 1000) (hi : i ≤ S.size) :
    Calls Pg 63 ⟨[ptr b 0, s]⟩ w fun e w' => e = .returned (I (k : Int)) ∧ Hp w0 w' L' := by
  obtain ⟨X, Y, rfl, rfl⟩ := hu
  unfold chooseP at hn
  rw [Option.map_eq_some_iff] at hn
  obtain ⟨k', hk, hn⟩ := hn
  obtain ⟨rfl, rfl⟩ := Prod.mk.inj hn
  rw [List.findIdx?_eq_some_iff_getElem] at hk
  obtain ⟨hk1', hk2, hk3⟩ := hk
  have hrun : bts ws[k'] = wordAt S i := by simpa using hk2
  have hle : i + (wordAt S i).length ≤ S.size := by
    rcases Nat.eq_zero_or_pos (wordAt S i).length with h | h
    · omega
    · have := (run_at (S := S) (i := i) (n := (wordAt S i).length - 1) (by omega)).2.2; omega
  have hwk := hw _ (List.getElem_mem hk1')
  generalize hQ : (fun (e : Ending) (w' : World) => e = .returned (I (k' : Int)) ∧ Hp w0 w' (X ++ ⟨b, .t 102, [.string S, I ((i + (wordAt S i).length : Nat) : Int)]⟩ :: Y) : ER) = Q
  apply F63_calls
  unfold F63
  refine pv_of (lenS_tr hws) ?_
  refine make_t (C := cBool) (x := false) (n := ws.length) elBool rfl H rfl (by omega) (by omega) fun w s5 c5 H h5 => ?_
  have h5l : TS cBool 4 s5 (lev (fun _ => true) (fun _ => false) 0 ws) c5 := by
    rw [lev_zero]
    have : ws.map (fun _ => false) = List.replicate ws.length false := List.map_const' ..
    rw [this]; exact h5
  clear h5
  unfold F63_j16
  refine pv_of (lenS_ts h5l) ?_
  rw [lev_len (Nat.zero_le _)]
  unfold F63_j17
  refine loop5 (F63_l3_succ _) (fun m x0 x1 x5 x15 x16 w => ∃ (q : Nat) (c5 : List Chunk), x0 = ptr b 0 ∧ s = x1 ∧ s5 = x5 ∧ x15 = I (ws.length : Int) ∧ x16 = I (q : Int) ∧ m + q = ws.length ∧ TS cBool 4 s5 (lev (fun _ => true) (fun _ => false) q ws) c5 ∧
    Hp w0 w (c5 ++ (X ++ ⟨b, .t 102, [.string S, I (i : Int)]⟩ :: Y))) ?_ (m := ws.length) ⟨0, c5, rfl, rfl, rfl, rfl, rfl, rfl, h5l, H⟩
  clear H h5l c5
  rintro m kk _ _ _ _ _ w ⟨q, c5, rfl, rfl, rfl, rfl, rfl, hm, h5, H⟩ hkk
  unfold F63_b3
  refine lss_k (fun hq => ?_) (fun hq => ?_)
  · simp only [W0]
    have hx : ws[q]? = some ws[q] := List.getElem?_eq_getElem (by omega)
    refine ist1_t (x := true) h5 H Split.here (by rw [lev_len (by omega)]; omega) rfl rfl fun w c5 H h5 => ?_
    have h5' : TS cBool 4 s5 (lev (fun _ => true) (fun _ => false) (q + 1) ws) c5 := by rw [← lev_set hx]; exact h5
    refine add_k (z := ((q + 1 : Nat) : Int)) (by omega) (by omega) (by omega) ?_
    exact hkk (m - 1) _ _ _ _ _ _ (by omega) ⟨q + 1, c5, rfl, rfl, rfl, rfl, rfl, by omega, h5', H⟩
  · simp only [W0]
    rw [lev_all (by omega)] at h5
    have h5' : TS cBool 4 s5 (ws.map (vb (wordAt S i) 0)) c5 := by
      have : ws.map (vb (wordAt S i) 0) = ws.map (fun _ => true) := List.map_congr_left fun x _ => (by unfold vb; exact decide_eq_true ⟨Nat.zero_le _, by rw [List.take_zero, List.take_zero]⟩ : vb (wordAt S i) 0 x = true)
      rw [this]; exact h5
    clear h5
    unfold F63_j1 F63_j2
    refine loop4 (F63_l2_succ _) (fun m x0 x1 x5 x7 w => ∃ (n : Nat) (c5 : List Chunk), x0 = ptr b 0 ∧ s = x1 ∧ s5 = x5 ∧ x7 = I (n : Int) ∧ m + n = (wordAt S i).length ∧ TS cBool 4 s5 (ws.map (vb (wordAt S i) n)) c5 ∧
      Hp w0 w (c5 ++ (X ++ ⟨b, .t 102, [.string S, I (i : Int)]⟩ :: Y))) ?_ (m := (wordAt S i).length) ⟨0, c5, rfl, rfl, rfl, rfl, rfl, h5', H⟩
    clear H h5' c5 hkk kk hq hm q m
    rintro m k1 _ _ _ _ w ⟨n, c5, rfl, rfl, rfl, rfl, hm, h5, H⟩ hk1
    unfold F63_b1 F63_j4 F63_j8
    refine pv_of (lenS_tr hws) ?_
    unfold F63_j9
    refine loop8 (F63_l1_succ _ _) (fun m' x0 x1 x5 x7 x8 x25 x26 x27 w => ∃ (q : Nat) (sm : Bool) (c5 : List Chunk), x0 = ptr b 0 ∧ s = x1 ∧ s5 = x5 ∧ x7 = I (n : Int) ∧ x8 = .bool sm ∧ s = x25 ∧ x26 = I (ws.length : Int) ∧ x27 = I (q : Int) ∧ m' + q = ws.length ∧
      (∀ q' wd, q' < q → ws[q']? = some wd → vb (wordAt S i) (n + 1) wd = true → sm = true) ∧ (∀ q' wd, q' < q → ws[q']? = some wd → bts wd = wordAt S i → n ≠ (wordAt S i).length) ∧
      TS cBool 4 s5 (lev (vb (wordAt S i) (n + 1)) (vb (wordAt S i) n) q ws) c5 ∧
      Hp w0 w (c5 ++ (X ++ ⟨b, .t 102, [.string S, I (i : Int)]⟩ :: Y))) ?_ (m := ws.length) ⟨0, false, c5, rfl, rfl, rfl, rfl, rfl, rfl, rfl, rfl, rfl, fun _ _ h => absurd h (Nat.not_lt_zero _), fun _ _ h => absurd h (Nat.not_lt_zero _), by rw [lev_zero]; exact h5, H⟩
    clear H h5 c5
    rintro m' k2 _ _ _ _ _ _ _ _ w ⟨q, sm, c5, rfl, rfl, rfl, rfl, rfl, rfl, rfl, rfl, hm', hsm, hfd, h5, H⟩ hk2
    unfold F63_b2
    refine lss_k (fun hq => ?_) (fun hq => ?_)
    · simp only [W0]
      have hx : ws[q]? = some ws[q] := List.getElem?_eq_getElem (by omega)
      generalize ws[q] = wd at hx
      have hwd := hw wd (List.mem_of_getElem? hx)
      unfold F63_j10 F63_j12
      refine ix1_t (C := cStr) hws H (by intro c hc; exact List.mem_append_right _ (m1 c hc)) hx rfl rfl ?_
      refine ix1_t (C := cBool) h5.tr H (by intro c hc; exact List.mem_append_left _ hc) (lev_get hx) rfl rfl ?_
      have next : ∀ (sm' : Bool) (c5 : List Chunk) (w : World), (vb (wordAt S i) (n + 1) wd = true → sm' = true) → (sm = true → sm' = true) → (bts wd = wordAt S i → n ≠ (wordAt S i).length) → TS cBool 4 s5 (lev (vb (wordAt S i) (n + 1)) (vb (wordAt S i) n) (q + 1) ws) c5 →
          Hp w0 w (c5 ++ (X ++ ⟨b, .t 102, [.string S, I (i : Int)]⟩ :: Y)) → F63_j11 Q k1 k2 (ptr b 0) s s5 (I (n : Int)) (.bool sm') s (I (ws.length : Int)) (I (q : Int)) w := by
        intro sm' c5 w g1 g2 g3 g4 g5
        unfold F63_j11
        refine add_k (z := ((q + 1 : Nat) : Int)) (by omega) (by omega) (by omega) ?_
        refine hk2 (m' - 1) _ _ _ _ _ _ _ _ _ (by omega) ⟨q + 1, sm', c5, rfl, rfl, rfl, rfl, rfl, rfl, rfl, rfl, by omega, ?_, ?_, g4, g5⟩
        · intro q' wd' hq' hwd' hv
          rcases Nat.lt_or_ge q' q with h | h
          · exact g2 (hsm q' wd' h hwd' hv)
          · obtain rfl : q' = q := by omega
            rw [hx] at hwd'; injection hwd' with hwd'; subst hwd'; exact g1 hv
        · intro q' wd' hq' hwd' hv
          rcases Nat.lt_or_ge q' q with h | h
          · exact hfd q' wd' h hwd' hv
          · obtain rfl : q' = q := by omega
            rw [hx] at hwd'; injection hwd' with hwd'; subst hwd'; exact g3 hv
      cases hv : vb (wordAt S i) n wd with
      | false =>
        try simp only [W0]
        have hv1 : vb (wordAt S i) (n + 1) wd = false := by
          cases h : vb (wordAt S i) (n + 1) wd with
          | false => rfl
          | true => rw [vb_mono h] at hv; cases hv
        refine next sm c5 w (by rw [hv1]; intro h; cases h) (fun h => h) ?_ ?_ H
        · rintro h rfl
          unfold vb at hv
          have hsz : wd.size = (wordAt S i).length := by rw [← h, bts_len]
          rw [decide_eq_true ⟨by omega, by rw [h]⟩] at hv; cases hv
        · rw [lev_same hx (by rw [hv, hv1])]; exact h5
      | true =>
        try simp only [W0]
        unfold F63_j13 F63_j15
        have hnr : n ≤ (wordAt S i).length := by omega
        have hstep := vb_step hv hnr hwd.2
        have hvd := hv
        unfold vb at hvd
        rw [decide_eq_true_eq] at hvd
        refine pv_of (lenStr_mk wd) ?_
        have cont : (bts wd = wordAt S i → n ≠ (wordAt S i).length) → ∀ w, Hp w0 w (c5 ++ (X ++ ⟨b, .t 102, [.string S, I (i : Int)]⟩ :: Y)) → F63_j14 Q k1 k2 (ptr b 0) s s5 (I (n : Int)) (.bool sm) (I (q : Int)) (.string wd) s (I (ws.length : Int)) (I (q : Int)) w := by
          clear H
          intro hne w H
          unfold F63_j14
          refine drew_k H fun w H => ?_
          refine pv_of (lenStr_mk wd) ?_
          have wr : ∀ (v : Bool) (w : World), Hp w0 w (c5 ++ (X ++ ⟨b, .t 102, [.string S, I (i : Int)]⟩ :: Y)) → v = vb (wordAt S i) (n + 1) wd → pv (ixS 1 s5 (I (q : Int))) (fun v31 => st1 v31 (.bool v) fun v32 =>
              gd (.bool sm) false (pv (some s5)) fun v34 => gd (.bool sm) false (pv (some (I (q : Int)))) fun v35 => gd (.bool sm) false (pv (ixS 1 v34 v35)) fun v36 => gd (.bool sm) false (ld1 v36) fun v37 => pv (pickO (.bool sm) (.bool true) v37) fun v38 =>
              F63_j11 Q k1 k2 (ptr b 0) s s5 (I (n : Int)) v38 s (I (ws.length : Int)) (I (q : Int))) w := by
            rintro v w H rfl
            refine ist1_t (x := vb (wordAt S i) (n + 1) wd) h5 H Split.here (by rw [lev_len (by omega)]; omega) rfl rfl fun w c5 H h5 => ?_
            have hgt := h5
            rw [lev_set hx] at h5
            cases sm with
            | true =>
              try simp only [W0]
              exact next true c5 w (fun _ => rfl) (fun h => h) hne h5 H
            | false =>
              try simp only [W0]
              refine ix1_t (C := cBool) hgt.tr H (by intro c hc; exact List.mem_append_left _ hc) (List.getElem?_set_self (by rw [lev_len (by omega)]; omega)) rfl rfl ?_
              try simp only [W0]
              exact next _ c5 w (fun h => h) (fun h => by cases h) hne h5 H
          refine lss_k (fun hl => ?_) (fun hl => ?_)
          · simp only [W0]
            refine ld_m H hasP.app (v := I (i : Int)) rfl ?_
            try simp only [W0]
            refine add_k (z := ((i + n : Nat) : Int)) (by omega) (by omega) (by omega) ?_
            try simp only [W0]
            refine cal_h (fchar_spec H hasP.app) ?_
            rintro _ w ⟨rfl, H⟩
            try simp only [W0]
            refine pv_of (ixStr_chr (by omega)) ?_
            try simp only [W0]
            rw [bin_eql]
            try simp only [W0]
            refine wr _ w H ?_
            rw [hstep, decide_eq_true (show n < wd.size by omega), Bool.true_and]
            exact decide_eq_decide.2 (by omega)
          · simp only [W0]
            refine wr _ w H ?_
            rw [hstep, decide_eq_false (show ¬ n < wd.size by omega), Bool.false_and]
        refine eql_k (fun hl => ?_) (fun hl => ?_)
        · simp only [W0]
          refine ld_m H hasP.app (v := I (i : Int)) rfl ?_
          try simp only [W0]
          refine add_k (z := ((i + n : Nat) : Int)) (by omega) (by omega) (by omega) ?_
          try simp only [W0]
          refine cal_h (fends_spec H hasP.app) ?_
          rintro _ w ⟨rfl, H⟩
          rw [ends_run hnr]
          by_cases he : n = (wordAt S i).length
          · rw [decide_eq_true he]
            try simp only [W0]
            refine ld_m H hasP.app (v := I (i : Int)) rfl ?_
            refine add_k (z := ((i + n : Nat) : Int)) (by omega) (by omega) (by omega) ?_
            try simp only [W0]
            refine st_m H (updP.app) (by simp) rfl fun w H => ?_
            have hbw : bts wd = wordAt S i := by
              have := hvd.2
              rw [List.take_of_length_le (by rw [bts_len]; omega), List.take_of_length_le (by omega)] at this
              exact this
            have hqk : q = k' := by
              rcases Nat.lt_trichotomy q k' with h | h | h
              · exfalso
                have := hk3 q h
                obtain ⟨h1, h2⟩ := List.getElem?_eq_some_iff.1 hx
                rw [h2, hbw] at this; simp at this
              · exact h
              · exact absurd he (hfd k' _ h (List.getElem?_eq_getElem hk1') hrun)
            subst hqk
            subst he
            subst hQ
            exact ⟨rfl, H.right⟩
          · rw [decide_eq_false he]
            try simp only [W0]
            exact cont (fun _ => he) w H
        · simp only [W0]
          refine cont ?_ w H
          rintro h rfl
          rw [← bts_len, h] at hl; exact hl rfl
    · simp only [W0]
      have hq' : q = ws.length := by omega
      have hne := hfd k' _ (by omega) (List.getElem?_eq_getElem hk1') hrun
      have hs1 : sm = true := by
        refine hsm k' _ (by omega) (List.getElem?_eq_getElem hk1') ?_
        unfold vb
        rw [decide_eq_true_eq]
        refine ⟨?_, by rw [hrun]⟩
        rw [← bts_len, hrun]; omega
      subst hs1
      unfold F63_j5
      try simp only [W0]
      unfold F63_j6
      try simp only [W0]
      unfold F63_j3
      refine add_k (z := ((n + 1 : Nat) : Int)) (by omega) (by omega) (by omega) ?_
      rw [lev_all (by omega)] at h5
      exact hk1 (m - 1) _ _ _ _ _ (by omega) ⟨n + 1, c5, rfl, rfl, rfl, rfl, by omega, h5, H⟩
end
end Go.Proofs.Ytmmbepdghpjgeaa.Den
