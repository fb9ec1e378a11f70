/- Channels: finding a message, Read. Conditions: none. -/
import Derived.Test.YtmkcjopacmadhaaGreatChW
set_option linter.unusedVariables false
set_option linter.unusedSimpArgs false
set_option maxRecDepth 8000
set_option maxHeartbeats 2000000
namespace Go.Proofs.YtmkcjopacmadhaaGreat.Den
open Go Go.RowKit
section
variable {w w' w0 : World} {L L' F cs cs2 cs3 A D D' : List Chunk} {s s2 : Value} {K : VK} {R : ER} {tb n b c r : Nat} {T : Tbl} {pri th code val p id room x y q : Int} {ch : Chn} {e : Ent} {m : Msg} {mh : Sh}
theorem nanL_spec (H : Hp w0 w L) : Calls Pg 177 ⟨[I x]⟩ w fun x w' => x = .returned (.bool false) ∧ Hp w0 w' L := by
  apply F177_calls
  unfold F177
  repeat (first | simp only [W0, pO, Option.map_some, Option.map_none] | with_reducible (first | refine lss_a ?_ | refine lss_b ?_ | refine gtr_a ?_ | refine gtr_b ?_ | refine geq_a ?_ | refine geq_b ?_ | refine leq_a ?_ | refine leq_b ?_ | refine eql_a ?_ | refine eql_b ?_ | refine neq_a ?_ | refine neq_b ?_ | refine add_a ?_ | refine sub_a ?_ | refine ld_a ?_ | refine ldA_a ?_ | refine ldS_a ?_ | refine ldNS_a ?_ | refine rdA_s ?_ | refine rd1_s ?_ | refine drew_a fun w1 H1 => ?_ | refine st_a fun w1 H1 => ?_ | refine stA_a fun w1 H1 => ?_ | refine lenT_a ?_ | refine lenO_a ?_ | refine ixT_a ?_ | refine ixO_a ?_ | refine bld_a ?_ | refine min_a ?_ | refine max_a ?_  | refine ldT_a ?_ | refine ldC_a ?_ | refine ldX_a ?_ | refine ldM_a ?_ | refine rdT_a ?_ | refine rdC_a ?_ | refine rdX_a ?_ | refine rdM_a ?_ | refine getCh_a ?_ | refine getCh2_a ?_ | refine getCn_a ?_ | refine getCn2_a ?_ | refine getPl_a ?_ | refine getPl2_a ?_ | refine getTk_a ?_ | refine getAn2_a ?_ | refine lenE_a ?_ | refine lenR_a ?_ | refine cv8_a ?_ | refine cv64_a ?_ | fail))
  exact ⟨(by first | rfl | trivial), H⟩
theorem cmpL_spec (H : Hp w0 w L) : Calls Pg 165 ⟨[I x, I y]⟩ w fun e w' => e = .returned (I (cmpv x y)) ∧ Hp w0 w' L := by
  apply F165_calls
  unfold F165
  refine cal_h (nanL_spec H) ?_
  rintro _ w ⟨rfl, H⟩
  repeat (first | simp only [W0, pO, Option.map_some, Option.map_none] | with_reducible (first | refine lss_a ?_ | refine lss_b ?_ | refine gtr_a ?_ | refine gtr_b ?_ | refine geq_a ?_ | refine geq_b ?_ | refine leq_a ?_ | refine leq_b ?_ | refine eql_a ?_ | refine eql_b ?_ | refine neq_a ?_ | refine neq_b ?_ | refine add_a ?_ | refine sub_a ?_ | refine ld_a ?_ | refine ldA_a ?_ | refine ldS_a ?_ | refine ldNS_a ?_ | refine rdA_s ?_ | refine rd1_s ?_ | refine drew_a fun w1 H1 => ?_ | refine st_a fun w1 H1 => ?_ | refine stA_a fun w1 H1 => ?_ | refine lenT_a ?_ | refine lenO_a ?_ | refine ixT_a ?_ | refine ixO_a ?_ | refine bld_a ?_ | refine min_a ?_ | refine max_a ?_  | refine ldT_a ?_ | refine ldC_a ?_ | refine ldX_a ?_ | refine ldM_a ?_ | refine rdT_a ?_ | refine rdC_a ?_ | refine rdX_a ?_ | refine rdM_a ?_ | refine getCh_a ?_ | refine getCh2_a ?_ | refine getCn_a ?_ | refine getCn2_a ?_ | refine getPl_a ?_ | refine getPl2_a ?_ | refine getTk_a ?_ | refine getAn2_a ?_ | refine lenE_a ?_ | refine lenR_a ?_ | refine cv8_a ?_ | refine cv64_a ?_ | fail))
  refine cal_h (nanL_spec (by assumption)) ?_
  rintro _ w ⟨rfl, H⟩
  repeat (first | simp only [W0, pO, Option.map_some, Option.map_none] | with_reducible (first | refine lss_a ?_ | refine lss_b ?_ | refine gtr_a ?_ | refine gtr_b ?_ | refine geq_a ?_ | refine geq_b ?_ | refine leq_a ?_ | refine leq_b ?_ | refine eql_a ?_ | refine eql_b ?_ | refine neq_a ?_ | refine neq_b ?_ | refine add_a ?_ | refine sub_a ?_ | refine ld_a ?_ | refine ldA_a ?_ | refine ldS_a ?_ | refine ldNS_a ?_ | refine rdA_s ?_ | refine rd1_s ?_ | refine drew_a fun w1 H1 => ?_ | refine st_a fun w1 H1 => ?_ | refine stA_a fun w1 H1 => ?_ | refine lenT_a ?_ | refine lenO_a ?_ | refine ixT_a ?_ | refine ixO_a ?_ | refine bld_a ?_ | refine min_a ?_ | refine max_a ?_  | refine ldT_a ?_ | refine ldC_a ?_ | refine ldX_a ?_ | refine ldM_a ?_ | refine rdT_a ?_ | refine rdC_a ?_ | refine rdX_a ?_ | refine rdM_a ?_ | refine getCh_a ?_ | refine getCh2_a ?_ | refine getCn_a ?_ | refine getCn2_a ?_ | refine getPl_a ?_ | refine getPl2_a ?_ | refine getTk_a ?_ | refine getAn2_a ?_ | refine lenE_a ?_ | refine lenR_a ?_ | refine cv8_a ?_ | refine cv64_a ?_ | fail))
  unfold F165_j1 cmpv
  by_cases h1 : x < y
  · repeat (first | simp only [W0, pO, Option.map_some, Option.map_none] | with_reducible (first | refine lss_a ?_ | refine lss_b ?_ | refine gtr_a ?_ | refine gtr_b ?_ | refine geq_a ?_ | refine geq_b ?_ | refine leq_a ?_ | refine leq_b ?_ | refine eql_a ?_ | refine eql_b ?_ | refine neq_a ?_ | refine neq_b ?_ | refine add_a ?_ | refine sub_a ?_ | refine ld_a ?_ | refine ldA_a ?_ | refine ldS_a ?_ | refine ldNS_a ?_ | refine rdA_s ?_ | refine rd1_s ?_ | refine drew_a fun w1 H1 => ?_ | refine st_a fun w1 H1 => ?_ | refine stA_a fun w1 H1 => ?_ | refine lenT_a ?_ | refine lenO_a ?_ | refine ixT_a ?_ | refine ixO_a ?_ | refine bld_a ?_ | refine min_a ?_ | refine max_a ?_  | refine ldT_a ?_ | refine ldC_a ?_ | refine ldX_a ?_ | refine ldM_a ?_ | refine rdT_a ?_ | refine rdC_a ?_ | refine rdX_a ?_ | refine rdM_a ?_ | refine getCh_a ?_ | refine getCh2_a ?_ | refine getCn_a ?_ | refine getCn2_a ?_ | refine getPl_a ?_ | refine getPl2_a ?_ | refine getTk_a ?_ | refine getAn2_a ?_ | refine lenE_a ?_ | refine lenR_a ?_ | refine cv8_a ?_ | refine cv64_a ?_ | fail))
    rw [if_pos h1]; exact ⟨rfl, H⟩
  · by_cases h2 : y < x
    · repeat (first | simp only [W0, pO, Option.map_some, Option.map_none] | with_reducible (first | refine lss_a ?_ | refine lss_b ?_ | refine gtr_a ?_ | refine gtr_b ?_ | refine geq_a ?_ | refine geq_b ?_ | refine leq_a ?_ | refine leq_b ?_ | refine eql_a ?_ | refine eql_b ?_ | refine neq_a ?_ | refine neq_b ?_ | refine add_a ?_ | refine sub_a ?_ | refine ld_a ?_ | refine ldA_a ?_ | refine ldS_a ?_ | refine ldNS_a ?_ | refine rdA_s ?_ | refine rd1_s ?_ | refine drew_a fun w1 H1 => ?_ | refine st_a fun w1 H1 => ?_ | refine stA_a fun w1 H1 => ?_ | refine lenT_a ?_ | refine lenO_a ?_ | refine ixT_a ?_ | refine ixO_a ?_ | refine bld_a ?_ | refine min_a ?_ | refine max_a ?_  | refine ldT_a ?_ | refine ldC_a ?_ | refine ldX_a ?_ | refine ldM_a ?_ | refine rdT_a ?_ | refine rdC_a ?_ | refine rdX_a ?_ | refine rdM_a ?_ | refine getCh_a ?_ | refine getCh2_a ?_ | refine getCn_a ?_ | refine getCn2_a ?_ | refine getPl_a ?_ | refine getPl2_a ?_ | refine getTk_a ?_ | refine getAn2_a ?_ | refine lenE_a ?_ | refine lenR_a ?_ | refine cv8_a ?_ | refine cv64_a ?_ | fail))
      rw [if_neg h1, if_pos h2]; exact ⟨rfl, H⟩
    · repeat (first | simp only [W0, pO, Option.map_some, Option.map_none] | with_reducible (first | refine lss_a ?_ | refine lss_b ?_ | refine gtr_a ?_ | refine gtr_b ?_ | refine geq_a ?_ | refine geq_b ?_ | refine leq_a ?_ | refine leq_b ?_ | refine eql_a ?_ | refine eql_b ?_ | refine neq_a ?_ | refine neq_b ?_ | refine add_a ?_ | refine sub_a ?_ | refine ld_a ?_ | refine ldA_a ?_ | refine ldS_a ?_ | refine ldNS_a ?_ | refine rdA_s ?_ | refine rd1_s ?_ | refine drew_a fun w1 H1 => ?_ | refine st_a fun w1 H1 => ?_ | refine stA_a fun w1 H1 => ?_ | refine lenT_a ?_ | refine lenO_a ?_ | refine ixT_a ?_ | refine ixO_a ?_ | refine bld_a ?_ | refine min_a ?_ | refine max_a ?_  | refine ldT_a ?_ | refine ldC_a ?_ | refine ldX_a ?_ | refine ldM_a ?_ | refine rdT_a ?_ | refine rdC_a ?_ | refine rdX_a ?_ | refine rdM_a ?_ | refine getCh_a ?_ | refine getCh2_a ?_ | refine getCn_a ?_ | refine getCn2_a ?_ | refine getPl_a ?_ | refine getPl2_a ?_ | refine getTk_a ?_ | refine getAn2_a ?_ | refine lenE_a ?_ | refine lenR_a ?_ | refine cv8_a ?_ | refine cv64_a ?_ | fail))
      rw [if_neg h1, if_neg h2]; exact ⟨rfl, H⟩
theorem bsM_spec {xs : List Nat} {cv : Nat → Int} {f : Nat} {cap : List Value} (h : TR cP w0 cs s xs) (H : Hp w0 w L) (m1 : ∀ c ∈ cs, c ∈ L) (hl : xs.length < 2 ^ 61) (hok : enterOk Pg f = true)
    (hc : ∀ x ∈ xs, ∀ w, Hp w0 w L → Calls Pg f ⟨[] ++ [ptr x 0, I q] ++ cap⟩ w fun e w' => e = .returned (I (cv x)) ∧ Hp w0 w' L)
    (hm : ∀ (i j : Nat) a b, i < j → xs[i]? = some a → xs[j]? = some b → cv b < 0 → cv a < 0) :
    Calls Pg 163 ⟨[s, I q, .func (.func f) ⟨[]⟩ ⟨cap⟩]⟩ w fun e w' => ∃ (i : Nat) (fd : Bool), e = .returned (.tuple ⟨[I i, .bool fd]⟩) ∧ Hp w0 w' L ∧ i ≤ xs.length ∧
      (∀ (k : Nat) a, k < i → xs[k]? = some a → cv a < 0) ∧ (∀ (k : Nat) a, i ≤ k → xs[k]? = some a → 0 ≤ cv a) ∧ (fd = true ↔ ∃ a, xs[i]? = some a ∧ cv a = 0) := by
  apply F163_calls
  unfold F163
  repeat (first | simp only [W0, pO, Option.map_some, Option.map_none] | with_reducible (first | refine lss_a ?_ | refine lss_b ?_ | refine gtr_a ?_ | refine gtr_b ?_ | refine geq_a ?_ | refine geq_b ?_ | refine leq_a ?_ | refine leq_b ?_ | refine eql_a ?_ | refine eql_b ?_ | refine neq_a ?_ | refine neq_b ?_ | refine add_a ?_ | refine sub_a ?_ | refine ld_a ?_ | refine ldA_a ?_ | refine ldS_a ?_ | refine ldNS_a ?_ | refine rdA_s ?_ | refine rd1_s ?_ | refine drew_a fun w1 H1 => ?_ | refine st_a fun w1 H1 => ?_ | refine stA_a fun w1 H1 => ?_ | refine lenT_a ?_ | refine lenO_a ?_ | refine ixT_a ?_ | refine ixO_a ?_ | refine bld_a ?_ | refine min_a ?_ | refine max_a ?_  | refine ldT_a ?_ | refine ldC_a ?_ | refine ldX_a ?_ | refine ldM_a ?_ | refine rdT_a ?_ | refine rdC_a ?_ | refine rdX_a ?_ | refine rdM_a ?_ | refine getCh_a ?_ | refine getCh2_a ?_ | refine getCn_a ?_ | refine getCn2_a ?_ | refine getPl_a ?_ | refine getPl2_a ?_ | refine getTk_a ?_ | refine getAn2_a ?_ | refine lenE_a ?_ | refine lenR_a ?_ | refine cv8_a ?_ | refine cv64_a ?_ | fail))
  unfold F163_j2
  refine loop6 (F163_l1_succ _) (fun m x0 x1 x2 x8 x9 x10 w => ∃ i j : Nat, x0 = s ∧ x1 = I q ∧ x2 = .func (.func f) ⟨[]⟩ ⟨cap⟩ ∧ x8 = I (xs.length : Int) ∧ x9 = I (i : Int) ∧ x10 = I (j : Int) ∧ m + i = j ∧ j ≤ xs.length ∧
      (∀ (k : Nat) a, k < i → xs[k]? = some a → cv a < 0) ∧ (∀ (k : Nat) a, j ≤ k → xs[k]? = some a → 0 ≤ cv a) ∧ Hp w0 w L) ?_ (m := xs.length)
    ⟨0, xs.length, rfl, rfl, rfl, rfl, rfl, rfl, by omega, Nat.le_refl _, by omega, fun k a hk ha => by have := (List.getElem?_eq_some_iff.1 ha).1; omega, by assumption⟩
  clear H
  rintro m k x0 x1 x2 x8 x9 x10 w ⟨i, j, rfl, rfl, rfl, rfl, rfl, rfl, hij, hj, hlo, hhi, H⟩ hk
  unfold F163_b1
  refine lss_k (fun hi => ?_) (fun hi => ?_)
  · simp only [W0]
    unfold F163_j3
    refine half_h (by omega) ?_
    have hlt : (i + j) / 2 < xs.length := by omega
    obtain ⟨x, hx⟩ : ∃ x, xs[(i + j) / 2]? = some x := ⟨_, List.getElem?_eq_getElem hlt⟩
    refine ix1_t (C := cP) h H m1 hx rfl rfl ?_
    refine calD_k (a := []) hok ?_
    refine cal_h (hc x (List.mem_of_getElem? hx) _ H) ?_
    rintro _ w2 ⟨rfl, H2⟩
    simp only [ret_k]
    refine lss_k (fun hn => ?_) (fun hn => ?_)
    · simp only [W0]
      refine add_k (z := (((i + j) / 2 + 1 : Nat) : Int)) (by omega) (by omega) (by omega) ?_
      refine hk (j - ((i + j) / 2 + 1)) _ _ _ _ _ _ _ (by omega) ⟨(i + j) / 2 + 1, j, rfl, rfl, rfl, rfl, rfl, rfl, by omega, hj, fun k' a hk' ha => ?_, hhi, H2⟩
      rcases Nat.lt_or_ge k' ((i + j) / 2) with h1 | h1
      · exact hm k' _ a x h1 ha hx hn
      · obtain rfl : k' = (i + j) / 2 := by omega
        rw [hx] at ha; injection ha with ha; rw [← ha]; exact hn
    · simp only [W0]
      refine hk ((i + j) / 2 - i) _ _ _ _ _ _ _ (by omega) ⟨i, (i + j) / 2, rfl, rfl, rfl, rfl, rfl, rfl, by omega, by omega, hlo, fun k' a hk' ha => ?_, H2⟩
      rcases Nat.lt_or_ge ((i + j) / 2) k' with h1 | h1
      · have : ¬ cv a < 0 := fun h2 => hn (hm _ k' x a h1 hx ha h2)
        omega
      · obtain rfl : k' = (i + j) / 2 := by omega
        rw [hx] at ha; injection ha with ha; rw [← ha]; omega
  · simp only [W0]
    obtain rfl : i = j := by omega
    unfold F163_j1
    refine lss_k (fun hi => ?_) (fun hi => ?_)
    · obtain ⟨x, hx⟩ : ∃ x, xs[i]? = some x := ⟨_, List.getElem?_eq_getElem (by omega)⟩
      simp only [W0]
      refine ix1_t (C := cP) h H m1 hx rfl rfl ?_
      refine calD_k (a := []) hok ?_
      refine cal_h (hc x (List.mem_of_getElem? hx) _ H) ?_
      rintro _ w2 ⟨rfl, H2⟩
      simp only [ret_k, bin_eql, W0]
      exact ⟨i, _, rfl, H2, hj, hlo, hhi, by simp [hx]⟩
    · simp only [W0]
      exact ⟨i, _, rfl, H, hj, hlo, hhi, by simp [show xs[i]? = none from List.getElem?_eq_none (by omega)]⟩
theorem heldC_spec (hA : TblAt tb T n A) (hm : oget r T.mss = some m) (H : Hp w0 w L) (hs : ∀ c ∈ A, c ∈ L := by exact csub) : Calls Pg 164 ⟨[ptr r 0, I q]⟩ w fun e w' => e = .returned (I (cmpv m.id q)) ∧ Hp w0 w' L := by
  apply F164_calls
  unfold F164
  have m1 := hs
  repeat (first | simp only [W0, pO, Option.map_some, Option.map_none] | with_reducible (first | refine lss_a ?_ | refine lss_b ?_ | refine gtr_a ?_ | refine gtr_b ?_ | refine geq_a ?_ | refine geq_b ?_ | refine leq_a ?_ | refine leq_b ?_ | refine eql_a ?_ | refine eql_b ?_ | refine neq_a ?_ | refine neq_b ?_ | refine add_a ?_ | refine sub_a ?_ | refine ld_a ?_ | refine ldA_a ?_ | refine ldS_a ?_ | refine ldNS_a ?_ | refine rdA_s ?_ | refine rd1_s ?_ | refine drew_a fun w1 H1 => ?_ | refine st_a fun w1 H1 => ?_ | refine stA_a fun w1 H1 => ?_ | refine lenT_a ?_ | refine lenO_a ?_ | refine ixT_a ?_ | refine ixO_a ?_ | refine bld_a ?_ | refine min_a ?_ | refine max_a ?_  | refine ldT_a ?_ | refine ldC_a ?_ | refine ldX_a ?_ | refine ldM_a ?_ | refine rdT_a ?_ | refine rdC_a ?_ | refine rdX_a ?_ | refine rdM_a ?_ | refine getCh_a ?_ | refine getCh2_a ?_ | refine getCn_a ?_ | refine getCn2_a ?_ | refine getPl_a ?_ | refine getPl2_a ?_ | refine getTk_a ?_ | refine getAn2_a ?_ | refine lenE_a ?_ | refine lenR_a ?_ | refine cv8_a ?_ | refine cv64_a ?_ | fail))
  refine cal_h (cmpL_spec H) ?_
  rintro _ w ⟨rfl, H⟩
  repeat (first | simp only [W0, pO, Option.map_some, Option.map_none] | with_reducible (first | refine lss_a ?_ | refine lss_b ?_ | refine gtr_a ?_ | refine gtr_b ?_ | refine geq_a ?_ | refine geq_b ?_ | refine leq_a ?_ | refine leq_b ?_ | refine eql_a ?_ | refine eql_b ?_ | refine neq_a ?_ | refine neq_b ?_ | refine add_a ?_ | refine sub_a ?_ | refine ld_a ?_ | refine ldA_a ?_ | refine ldS_a ?_ | refine ldNS_a ?_ | refine rdA_s ?_ | refine rd1_s ?_ | refine drew_a fun w1 H1 => ?_ | refine st_a fun w1 H1 => ?_ | refine stA_a fun w1 H1 => ?_ | refine lenT_a ?_ | refine lenO_a ?_ | refine ixT_a ?_ | refine ixO_a ?_ | refine bld_a ?_ | refine min_a ?_ | refine max_a ?_  | refine ldT_a ?_ | refine ldC_a ?_ | refine ldX_a ?_ | refine ldM_a ?_ | refine rdT_a ?_ | refine rdC_a ?_ | refine rdX_a ?_ | refine rdM_a ?_ | refine getCh_a ?_ | refine getCh2_a ?_ | refine getCn_a ?_ | refine getCn2_a ?_ | refine getPl_a ?_ | refine getPl2_a ?_ | refine getTk_a ?_ | refine getAn2_a ?_ | refine lenE_a ?_ | refine lenR_a ?_ | refine cv8_a ?_ | refine cv64_a ?_ | fail))
  exact ⟨(by first | rfl | trivial), H⟩
/-- The message that is not replied to, by its number. -/
def Tbl.find (T : Tbl) (id : Int) : Option Nat := T.ml.find? fun r => match oget r T.mss with
  | some m => decide (m.id = id)
  | none => false
def Tbl.held (T : Tbl) (p id : Int) : Option Nat × Int := match T.find id with
  | none => (none, 3)
  | some r => match oget r T.mss with
    | none => (none, 3)
    | some m => match oget m.ch T.chs with
      | none => (none, 3)
      | some ch => if ch.pr = p then (some r, 0) else (none, 32)
theorem find_some (h : T.find id = some r) : r ∈ T.ml ∧ ∃ m, oget r T.mss = some m ∧ m.id = id := by
  unfold Tbl.find at h
  have h1 := List.mem_of_find?_eq_some h
  have h2 := List.find?_some h
  refine ⟨h1, ?_⟩
  cases hm : oget r T.mss with
  | none => simp [hm] at h2
  | some m => simp [hm] at h2; exact ⟨m, rfl, h2⟩
theorem find_none (h : T.find id = none) : ∀ r ∈ T.ml, ∀ m, oget r T.mss = some m → m.id ≠ id := by
  unfold Tbl.find at h
  intro r hr m hm he
  have := List.find?_eq_none.1 h r hr
  simp [hm, he] at this
theorem Tbl.Ok.uniq (hok : T.Ok n) {a b : Nat} {x y : Msg} (ha : a ∈ T.ml) (hb : b ∈ T.ml) (hx : oget a T.mss = some x) (hy : oget b T.mss = some y) (h : x.id = y.id) : a = b := by
  obtain ⟨i, hi, rfl⟩ := List.getElem_of_mem ha
  obtain ⟨j, hj, rfl⟩ := List.getElem_of_mem hb
  rcases Nat.lt_trichotomy i j with hij | hij | hij
  · have := List.pairwise_iff_getElem.1 hok.mi i j hi hj hij x y hx hy; omega
  · subst hij; rfl
  · have := List.pairwise_iff_getElem.1 hok.mi j i hj hi hij y x hy hx; omega
theorem find_eq (hok : T.Ok n) (hr : r ∈ T.ml) (hm : oget r T.mss = some m) (he : m.id = id) : T.find id = some r := by
  cases h : T.find id with
  | none => exact absurd he (find_none h r hr m hm)
  | some a =>
    obtain ⟨h1, x, h2, h3⟩ := find_some h
    rw [hok.uniq h1 hr h2 hm (by omega)]
theorem held_spec (hA : TblAt tb T n A) (hn : n < 1000000) (hok : T.Ok n) (H : Hp w0 w L) (hs : ∀ c ∈ A, c ∈ L := by exact csub) :
    Calls Pg 135 ⟨[ptr tb 0, I p, I id]⟩ w fun x w' => x = .returned (.tuple ⟨[pO (T.held p id).1, I (T.held p id).2]⟩) ∧ Hp w0 w' L := by
  apply F135_calls
  unfold F135
  have m1 := hs
  obtain ⟨q1, q2, q3, q4⟩ := hok.nn
  have ql := hok.ln
  obtain ⟨cm, A1, e1, t1, _⟩ := hA.top
  have hcm : ∀ c ∈ cm, c ∈ L := fun c hc => hs c (e1.mem.2 (by simp [hc]))
  repeat (first | simp only [W0, pO, Option.map_some, Option.map_none] | with_reducible (first | refine lss_a ?_ | refine lss_b ?_ | refine gtr_a ?_ | refine gtr_b ?_ | refine geq_a ?_ | refine geq_b ?_ | refine leq_a ?_ | refine leq_b ?_ | refine eql_a ?_ | refine eql_b ?_ | refine neq_a ?_ | refine neq_b ?_ | refine add_a ?_ | refine sub_a ?_ | refine ld_a ?_ | refine ldA_a ?_ | refine ldS_a ?_ | refine ldNS_a ?_ | refine rdA_s ?_ | refine rd1_s ?_ | refine drew_a fun w1 H1 => ?_ | refine st_a fun w1 H1 => ?_ | refine stA_a fun w1 H1 => ?_ | refine lenT_a ?_ | refine lenO_a ?_ | refine ixT_a ?_ | refine ixO_a ?_ | refine bld_a ?_ | refine min_a ?_ | refine max_a ?_  | refine ldT_a ?_ | refine ldC_a ?_ | refine ldX_a ?_ | refine ldM_a ?_ | refine rdT_a ?_ | refine rdC_a ?_ | refine rdX_a ?_ | refine rdM_a ?_ | refine getCh_a ?_ | refine getCh2_a ?_ | refine getCn_a ?_ | refine getCn2_a ?_ | refine getPl_a ?_ | refine getPl2_a ?_ | refine getTk_a ?_ | refine getAn2_a ?_ | refine lenE_a ?_ | refine lenR_a ?_ | refine cv8_a ?_ | refine cv64_a ?_ | fail))
  have hcv : ∀ a ∈ T.ml, ∃ x, oget a T.mss = some x := fun a ha => by obtain ⟨x, h, _⟩ := hok.ms a ha; exact ⟨x, h⟩
  refine cal_h (bsM_spec (f := 164) (cap := []) (cv := fun a => cmpv (((oget a T.mss).map Msg.id).getD 0) id) t1.tr H hcm (by omega) (by kernel_rfl) (fun a ha w H => ?_) (fun i j a b hij ha hb hn => ?_)) ?_
  · obtain ⟨x, hx⟩ := hcv a ha
    rw [hx]
    exact heldC_spec hA hx H hs
  · obtain ⟨hi, rfl⟩ := List.getElem?_eq_some_iff.1 ha
    obtain ⟨hj, rfl⟩ := List.getElem?_eq_some_iff.1 hb
    obtain ⟨x, hx⟩ := hcv _ (List.getElem_mem hi)
    obtain ⟨y, hy⟩ := hcv _ (List.getElem_mem hj)
    have := List.pairwise_iff_getElem.1 hok.mi i j hi hj hij x y hx hy
    rw [hx]; rw [hy] at hn
    simp only [Option.map_some, Option.getD_some] at hn ⊢
    unfold cmpv at hn ⊢
    split at hn <;> split <;> first | omega | (split at hn <;> omega) | (split <;> omega)
  rintro _ w ⟨i, fd, rfl, H, hi, hlo, hhi, hfd⟩
  repeat (first | simp only [W0, pO, Option.map_some, Option.map_none] | with_reducible (first | refine lss_a ?_ | refine lss_b ?_ | refine gtr_a ?_ | refine gtr_b ?_ | refine geq_a ?_ | refine geq_b ?_ | refine leq_a ?_ | refine leq_b ?_ | refine eql_a ?_ | refine eql_b ?_ | refine neq_a ?_ | refine neq_b ?_ | refine add_a ?_ | refine sub_a ?_ | refine ld_a ?_ | refine ldA_a ?_ | refine ldS_a ?_ | refine ldNS_a ?_ | refine rdA_s ?_ | refine rd1_s ?_ | refine drew_a fun w1 H1 => ?_ | refine st_a fun w1 H1 => ?_ | refine stA_a fun w1 H1 => ?_ | refine lenT_a ?_ | refine lenO_a ?_ | refine ixT_a ?_ | refine ixO_a ?_ | refine bld_a ?_ | refine min_a ?_ | refine max_a ?_  | refine ldT_a ?_ | refine ldC_a ?_ | refine ldX_a ?_ | refine ldM_a ?_ | refine rdT_a ?_ | refine rdC_a ?_ | refine rdX_a ?_ | refine rdM_a ?_ | refine getCh_a ?_ | refine getCh2_a ?_ | refine getCn_a ?_ | refine getCn2_a ?_ | refine getPl_a ?_ | refine getPl2_a ?_ | refine getTk_a ?_ | refine getAn2_a ?_ | refine lenE_a ?_ | refine lenR_a ?_ | refine cv8_a ?_ | refine cv64_a ?_ | fail))
  cases fd with
  | false =>
    repeat (first | simp only [W0, pO, Option.map_some, Option.map_none] | with_reducible (first | refine lss_a ?_ | refine lss_b ?_ | refine gtr_a ?_ | refine gtr_b ?_ | refine geq_a ?_ | refine geq_b ?_ | refine leq_a ?_ | refine leq_b ?_ | refine eql_a ?_ | refine eql_b ?_ | refine neq_a ?_ | refine neq_b ?_ | refine add_a ?_ | refine sub_a ?_ | refine ld_a ?_ | refine ldA_a ?_ | refine ldS_a ?_ | refine ldNS_a ?_ | refine rdA_s ?_ | refine rd1_s ?_ | refine drew_a fun w1 H1 => ?_ | refine st_a fun w1 H1 => ?_ | refine stA_a fun w1 H1 => ?_ | refine lenT_a ?_ | refine lenO_a ?_ | refine ixT_a ?_ | refine ixO_a ?_ | refine bld_a ?_ | refine min_a ?_ | refine max_a ?_  | refine ldT_a ?_ | refine ldC_a ?_ | refine ldX_a ?_ | refine ldM_a ?_ | refine rdT_a ?_ | refine rdC_a ?_ | refine rdX_a ?_ | refine rdM_a ?_ | refine getCh_a ?_ | refine getCh2_a ?_ | refine getCn_a ?_ | refine getCn2_a ?_ | refine getPl_a ?_ | refine getPl2_a ?_ | refine getTk_a ?_ | refine getAn2_a ?_ | refine lenE_a ?_ | refine lenR_a ?_ | refine cv8_a ?_ | refine cv64_a ?_ | fail))
    have hno : T.find id = none := by
      cases h : T.find id with
      | none => rfl
      | some r =>
        exfalso
        obtain ⟨h1, x, h2, h3⟩ := find_some h
        obtain ⟨k, hk, rfl⟩ := List.getElem_of_mem h1
        have hz : cmpv (((oget T.ml[k] T.mss).map Msg.id).getD 0) id = 0 := by rw [h2]; simp [cmpv, h3]
        rcases Nat.lt_or_ge k i with h4 | h4
        · have := hlo k _ h4 (List.getElem?_eq_getElem hk); omega
        · rcases Nat.lt_or_ge i k with h5 | h5
          · have hil : i < T.ml.length := by omega
            obtain ⟨y, hy⟩ := hcv _ (List.getElem_mem hil)
            have h6 := List.pairwise_iff_getElem.1 hok.mi i k hil hk h5 y x hy h2
            have h7 := hhi i _ (Nat.le_refl _) (List.getElem?_eq_getElem hil)
            rw [hy] at h7
            simp only [Option.map_some, Option.getD_some] at h7
            unfold cmpv at h7
            rw [if_pos (by omega)] at h7
            omega
          · obtain rfl : k = i := by omega
            have := hfd.2 ⟨_, List.getElem?_eq_getElem hk, hz⟩
            cases this
    unfold Tbl.held
    rw [hno]
    exact ⟨(by first | rfl | trivial), H⟩
  | true =>
    obtain ⟨r, hr, hz⟩ := hfd.1 rfl
    have hrm := List.mem_of_getElem? hr
    obtain ⟨x, hx, ch, hc⟩ := hok.ms r hrm
    rw [hx] at hz
    simp only [Option.map_some, Option.getD_some] at hz
    have hid : x.id = id := by unfold cmpv at hz; split at hz; · omega
                               · split at hz <;> omega
    repeat (first | simp only [W0, pO, Option.map_some, Option.map_none] | with_reducible (first | refine lss_a ?_ | refine lss_b ?_ | refine gtr_a ?_ | refine gtr_b ?_ | refine geq_a ?_ | refine geq_b ?_ | refine leq_a ?_ | refine leq_b ?_ | refine eql_a ?_ | refine eql_b ?_ | refine neq_a ?_ | refine neq_b ?_ | refine add_a ?_ | refine sub_a ?_ | refine ld_a ?_ | refine ldA_a ?_ | refine ldS_a ?_ | refine ldNS_a ?_ | refine rdA_s ?_ | refine rd1_s ?_ | refine drew_a fun w1 H1 => ?_ | refine st_a fun w1 H1 => ?_ | refine stA_a fun w1 H1 => ?_ | refine lenT_a ?_ | refine lenO_a ?_ | refine ixT_a ?_ | refine ixO_a ?_ | refine bld_a ?_ | refine min_a ?_ | refine max_a ?_  | refine ldT_a ?_ | refine ldC_a ?_ | refine ldX_a ?_ | refine ldM_a ?_ | refine rdT_a ?_ | refine rdC_a ?_ | refine rdX_a ?_ | refine rdM_a ?_ | refine getCh_a ?_ | refine getCh2_a ?_ | refine getCn_a ?_ | refine getCn2_a ?_ | refine getPl_a ?_ | refine getPl2_a ?_ | refine getTk_a ?_ | refine getAn2_a ?_ | refine lenE_a ?_ | refine lenR_a ?_ | refine cv8_a ?_ | refine cv64_a ?_ | fail))
    unfold F135_j1
    repeat (first | simp only [W0, pO, Option.map_some, Option.map_none] | with_reducible (first | refine lss_a ?_ | refine lss_b ?_ | refine gtr_a ?_ | refine gtr_b ?_ | refine geq_a ?_ | refine geq_b ?_ | refine leq_a ?_ | refine leq_b ?_ | refine eql_a ?_ | refine eql_b ?_ | refine neq_a ?_ | refine neq_b ?_ | refine add_a ?_ | refine sub_a ?_ | refine ld_a ?_ | refine ldA_a ?_ | refine ldS_a ?_ | refine ldNS_a ?_ | refine rdA_s ?_ | refine rd1_s ?_ | refine drew_a fun w1 H1 => ?_ | refine st_a fun w1 H1 => ?_ | refine stA_a fun w1 H1 => ?_ | refine lenT_a ?_ | refine lenO_a ?_ | refine ixT_a ?_ | refine ixO_a ?_ | refine bld_a ?_ | refine min_a ?_ | refine max_a ?_  | refine ldT_a ?_ | refine ldC_a ?_ | refine ldX_a ?_ | refine ldM_a ?_ | refine rdT_a ?_ | refine rdC_a ?_ | refine rdX_a ?_ | refine rdM_a ?_ | refine getCh_a ?_ | refine getCh2_a ?_ | refine getCn_a ?_ | refine getCn2_a ?_ | refine getPl_a ?_ | refine getPl2_a ?_ | refine getTk_a ?_ | refine getAn2_a ?_ | refine lenE_a ?_ | refine lenR_a ?_ | refine cv8_a ?_ | refine cv64_a ?_ | fail))
    refine ix1_t (C := cP) t1.tr H hcm hr rfl rfl ?_
    repeat (first | simp only [W0, pO, Option.map_some, Option.map_none] | with_reducible (first | refine lss_a ?_ | refine lss_b ?_ | refine gtr_a ?_ | refine gtr_b ?_ | refine geq_a ?_ | refine geq_b ?_ | refine leq_a ?_ | refine leq_b ?_ | refine eql_a ?_ | refine eql_b ?_ | refine neq_a ?_ | refine neq_b ?_ | refine add_a ?_ | refine sub_a ?_ | refine ld_a ?_ | refine ldA_a ?_ | refine ldS_a ?_ | refine ldNS_a ?_ | refine rdA_s ?_ | refine rd1_s ?_ | refine drew_a fun w1 H1 => ?_ | refine st_a fun w1 H1 => ?_ | refine stA_a fun w1 H1 => ?_ | refine lenT_a ?_ | refine lenO_a ?_ | refine ixT_a ?_ | refine ixO_a ?_ | refine bld_a ?_ | refine min_a ?_ | refine max_a ?_  | refine ldT_a ?_ | refine ldC_a ?_ | refine ldX_a ?_ | refine ldM_a ?_ | refine rdT_a ?_ | refine rdC_a ?_ | refine rdX_a ?_ | refine rdM_a ?_ | refine getCh_a ?_ | refine getCh2_a ?_ | refine getCn_a ?_ | refine getCn2_a ?_ | refine getPl_a ?_ | refine getPl2_a ?_ | refine getTk_a ?_ | refine getAn2_a ?_ | refine lenE_a ?_ | refine lenR_a ?_ | refine cv8_a ?_ | refine cv64_a ?_ | fail))
    unfold Tbl.held
    rw [find_eq hok hrm hx hid]
    simp only [hx, hc]
    by_cases hp : ch.pr = p
    · repeat (first | simp only [W0, pO, Option.map_some, Option.map_none] | with_reducible (first | refine lss_a ?_ | refine lss_b ?_ | refine gtr_a ?_ | refine gtr_b ?_ | refine geq_a ?_ | refine geq_b ?_ | refine leq_a ?_ | refine leq_b ?_ | refine eql_a ?_ | refine eql_b ?_ | refine neq_a ?_ | refine neq_b ?_ | refine add_a ?_ | refine sub_a ?_ | refine ld_a ?_ | refine ldA_a ?_ | refine ldS_a ?_ | refine ldNS_a ?_ | refine rdA_s ?_ | refine rd1_s ?_ | refine drew_a fun w1 H1 => ?_ | refine st_a fun w1 H1 => ?_ | refine stA_a fun w1 H1 => ?_ | refine lenT_a ?_ | refine lenO_a ?_ | refine ixT_a ?_ | refine ixO_a ?_ | refine bld_a ?_ | refine min_a ?_ | refine max_a ?_  | refine ldT_a ?_ | refine ldC_a ?_ | refine ldX_a ?_ | refine ldM_a ?_ | refine rdT_a ?_ | refine rdC_a ?_ | refine rdX_a ?_ | refine rdM_a ?_ | refine getCh_a ?_ | refine getCh2_a ?_ | refine getCn_a ?_ | refine getCn2_a ?_ | refine getPl_a ?_ | refine getPl2_a ?_ | refine getTk_a ?_ | refine getAn2_a ?_ | refine lenE_a ?_ | refine lenR_a ?_ | refine cv8_a ?_ | refine cv64_a ?_ | fail))
      refine ix1_t (C := cP) t1.tr H hcm hr rfl rfl ?_
      rw [if_pos hp]
      exact ⟨(by first | rfl | trivial), H⟩
    · repeat (first | simp only [W0, pO, Option.map_some, Option.map_none] | with_reducible (first | refine lss_a ?_ | refine lss_b ?_ | refine gtr_a ?_ | refine gtr_b ?_ | refine geq_a ?_ | refine geq_b ?_ | refine leq_a ?_ | refine leq_b ?_ | refine eql_a ?_ | refine eql_b ?_ | refine neq_a ?_ | refine neq_b ?_ | refine add_a ?_ | refine sub_a ?_ | refine ld_a ?_ | refine ldA_a ?_ | refine ldS_a ?_ | refine ldNS_a ?_ | refine rdA_s ?_ | refine rd1_s ?_ | refine drew_a fun w1 H1 => ?_ | refine st_a fun w1 H1 => ?_ | refine stA_a fun w1 H1 => ?_ | refine lenT_a ?_ | refine lenO_a ?_ | refine ixT_a ?_ | refine ixO_a ?_ | refine bld_a ?_ | refine min_a ?_ | refine max_a ?_  | refine ldT_a ?_ | refine ldC_a ?_ | refine ldX_a ?_ | refine ldM_a ?_ | refine rdT_a ?_ | refine rdC_a ?_ | refine rdX_a ?_ | refine rdM_a ?_ | refine getCh_a ?_ | refine getCh2_a ?_ | refine getCn_a ?_ | refine getCn2_a ?_ | refine getPl_a ?_ | refine getPl2_a ?_ | refine getTk_a ?_ | refine getAn2_a ?_ | refine lenE_a ?_ | refine lenR_a ?_ | refine cv8_a ?_ | refine cv64_a ?_ | fail))
      rw [if_neg hp]
      exact ⟨(by first | rfl | trivial), H⟩
def Tbl.asked (T : Tbl) (p id : Int) (n : Nat) : Option Nat × Int := if ¬ proc p then (none, 34) else if 4096 < n then (none, 20) else T.held p id
theorem asked_spec {l : List Int} {dv : Value} (hA : TblAt tb T n A) (hn : n < 1000000) (hok : T.Ok n) (hd : lenS dv = some (I (l.length : Int))) (H : Hp w0 w L) (hs : ∀ c ∈ A, c ∈ L := by exact csub) :
    Calls Pg 87 ⟨[ptr tb 0, I p, I id, dv]⟩ w fun x w' => x = .returned (.tuple ⟨[pO (T.asked p id l.length).1, I (T.asked p id l.length).2]⟩) ∧ Hp w0 w' L := by
  apply F87_calls
  unfold F87
  repeat (first | simp only [W0, pO, Option.map_some, Option.map_none] | with_reducible (first | refine lss_a ?_ | refine lss_b ?_ | refine gtr_a ?_ | refine gtr_b ?_ | refine geq_a ?_ | refine geq_b ?_ | refine leq_a ?_ | refine leq_b ?_ | refine eql_a ?_ | refine eql_b ?_ | refine neq_a ?_ | refine neq_b ?_ | refine add_a ?_ | refine sub_a ?_ | refine ld_a ?_ | refine ldA_a ?_ | refine ldS_a ?_ | refine ldNS_a ?_ | refine rdA_s ?_ | refine rd1_s ?_ | refine drew_a fun w1 H1 => ?_ | refine st_a fun w1 H1 => ?_ | refine stA_a fun w1 H1 => ?_ | refine lenT_a ?_ | refine lenO_a ?_ | refine ixT_a ?_ | refine ixO_a ?_ | refine bld_a ?_ | refine min_a ?_ | refine max_a ?_  | refine ldT_a ?_ | refine ldC_a ?_ | refine ldX_a ?_ | refine ldM_a ?_ | refine rdT_a ?_ | refine rdC_a ?_ | refine rdX_a ?_ | refine rdM_a ?_ | refine getCh_a ?_ | refine getCh2_a ?_ | refine getCn_a ?_ | refine getCn2_a ?_ | refine getPl_a ?_ | refine getPl2_a ?_ | refine getTk_a ?_ | refine getAn2_a ?_ | refine lenE_a ?_ | refine lenR_a ?_ | refine cv8_a ?_ | refine cv64_a ?_ | fail))
  unfold Tbl.asked
  refine cal_h (process_spec H) ?_
  rintro _ w ⟨rfl, H⟩
  by_cases h1 : proc p
  rotate_left
  · rw [decide_eq_false h1, if_pos h1]
    repeat (first | simp only [W0, pO, Option.map_some, Option.map_none] | with_reducible (first | refine lss_a ?_ | refine lss_b ?_ | refine gtr_a ?_ | refine gtr_b ?_ | refine geq_a ?_ | refine geq_b ?_ | refine leq_a ?_ | refine leq_b ?_ | refine eql_a ?_ | refine eql_b ?_ | refine neq_a ?_ | refine neq_b ?_ | refine add_a ?_ | refine sub_a ?_ | refine ld_a ?_ | refine ldA_a ?_ | refine ldS_a ?_ | refine ldNS_a ?_ | refine rdA_s ?_ | refine rd1_s ?_ | refine drew_a fun w1 H1 => ?_ | refine st_a fun w1 H1 => ?_ | refine stA_a fun w1 H1 => ?_ | refine lenT_a ?_ | refine lenO_a ?_ | refine ixT_a ?_ | refine ixO_a ?_ | refine bld_a ?_ | refine min_a ?_ | refine max_a ?_  | refine ldT_a ?_ | refine ldC_a ?_ | refine ldX_a ?_ | refine ldM_a ?_ | refine rdT_a ?_ | refine rdC_a ?_ | refine rdX_a ?_ | refine rdM_a ?_ | refine getCh_a ?_ | refine getCh2_a ?_ | refine getCn_a ?_ | refine getCn2_a ?_ | refine getPl_a ?_ | refine getPl2_a ?_ | refine getTk_a ?_ | refine getAn2_a ?_ | refine lenE_a ?_ | refine lenR_a ?_ | refine cv8_a ?_ | refine cv64_a ?_ | fail))
    exact ⟨(by first | rfl | trivial), H⟩
  rw [decide_eq_true h1, if_neg (fun h => h h1)]
  repeat (first | simp only [W0, pO, Option.map_some, Option.map_none] | with_reducible (first | refine lss_a ?_ | refine lss_b ?_ | refine gtr_a ?_ | refine gtr_b ?_ | refine geq_a ?_ | refine geq_b ?_ | refine leq_a ?_ | refine leq_b ?_ | refine eql_a ?_ | refine eql_b ?_ | refine neq_a ?_ | refine neq_b ?_ | refine add_a ?_ | refine sub_a ?_ | refine ld_a ?_ | refine ldA_a ?_ | refine ldS_a ?_ | refine ldNS_a ?_ | refine rdA_s ?_ | refine rd1_s ?_ | refine drew_a fun w1 H1 => ?_ | refine st_a fun w1 H1 => ?_ | refine stA_a fun w1 H1 => ?_ | refine lenT_a ?_ | refine lenO_a ?_ | refine ixT_a ?_ | refine ixO_a ?_ | refine bld_a ?_ | refine min_a ?_ | refine max_a ?_  | refine ldT_a ?_ | refine ldC_a ?_ | refine ldX_a ?_ | refine ldM_a ?_ | refine rdT_a ?_ | refine rdC_a ?_ | refine rdX_a ?_ | refine rdM_a ?_ | refine getCh_a ?_ | refine getCh2_a ?_ | refine getCn_a ?_ | refine getCn2_a ?_ | refine getPl_a ?_ | refine getPl2_a ?_ | refine getTk_a ?_ | refine getAn2_a ?_ | refine lenE_a ?_ | refine lenR_a ?_ | refine cv8_a ?_ | refine cv64_a ?_ | fail))
  refine pv_of hd ?_
  by_cases h2 : 4096 < l.length
  · rw [if_pos h2]
    repeat (first | simp only [W0, pO, Option.map_some, Option.map_none] | with_reducible (first | refine lss_a ?_ | refine lss_b ?_ | refine gtr_a ?_ | refine gtr_b ?_ | refine geq_a ?_ | refine geq_b ?_ | refine leq_a ?_ | refine leq_b ?_ | refine eql_a ?_ | refine eql_b ?_ | refine neq_a ?_ | refine neq_b ?_ | refine add_a ?_ | refine sub_a ?_ | refine ld_a ?_ | refine ldA_a ?_ | refine ldS_a ?_ | refine ldNS_a ?_ | refine rdA_s ?_ | refine rd1_s ?_ | refine drew_a fun w1 H1 => ?_ | refine st_a fun w1 H1 => ?_ | refine stA_a fun w1 H1 => ?_ | refine lenT_a ?_ | refine lenO_a ?_ | refine ixT_a ?_ | refine ixO_a ?_ | refine bld_a ?_ | refine min_a ?_ | refine max_a ?_  | refine ldT_a ?_ | refine ldC_a ?_ | refine ldX_a ?_ | refine ldM_a ?_ | refine rdT_a ?_ | refine rdC_a ?_ | refine rdX_a ?_ | refine rdM_a ?_ | refine getCh_a ?_ | refine getCh2_a ?_ | refine getCn_a ?_ | refine getCn2_a ?_ | refine getPl_a ?_ | refine getPl2_a ?_ | refine getTk_a ?_ | refine getAn2_a ?_ | refine lenE_a ?_ | refine lenR_a ?_ | refine cv8_a ?_ | refine cv64_a ?_ | fail))
    exact ⟨(by first | rfl | trivial), H⟩
  rw [if_neg h2]
  repeat (first | simp only [W0, pO, Option.map_some, Option.map_none] | with_reducible (first | refine lss_a ?_ | refine lss_b ?_ | refine gtr_a ?_ | refine gtr_b ?_ | refine geq_a ?_ | refine geq_b ?_ | refine leq_a ?_ | refine leq_b ?_ | refine eql_a ?_ | refine eql_b ?_ | refine neq_a ?_ | refine neq_b ?_ | refine add_a ?_ | refine sub_a ?_ | refine ld_a ?_ | refine ldA_a ?_ | refine ldS_a ?_ | refine ldNS_a ?_ | refine rdA_s ?_ | refine rd1_s ?_ | refine drew_a fun w1 H1 => ?_ | refine st_a fun w1 H1 => ?_ | refine stA_a fun w1 H1 => ?_ | refine lenT_a ?_ | refine lenO_a ?_ | refine ixT_a ?_ | refine ixO_a ?_ | refine bld_a ?_ | refine min_a ?_ | refine max_a ?_  | refine ldT_a ?_ | refine ldC_a ?_ | refine ldX_a ?_ | refine ldM_a ?_ | refine rdT_a ?_ | refine rdC_a ?_ | refine rdX_a ?_ | refine rdM_a ?_ | refine getCh_a ?_ | refine getCh2_a ?_ | refine getCn_a ?_ | refine getCn2_a ?_ | refine getPl_a ?_ | refine getPl2_a ?_ | refine getTk_a ?_ | refine getAn2_a ?_ | refine lenE_a ?_ | refine lenR_a ?_ | refine cv8_a ?_ | refine cv64_a ?_ | fail))
  refine cal_h (held_spec hA hn hok H hs) ?_
  rintro _ w ⟨rfl, H⟩
  repeat (first | simp only [W0, pO, Option.map_some, Option.map_none] | with_reducible (first | refine lss_a ?_ | refine lss_b ?_ | refine gtr_a ?_ | refine gtr_b ?_ | refine geq_a ?_ | refine geq_b ?_ | refine leq_a ?_ | refine leq_b ?_ | refine eql_a ?_ | refine eql_b ?_ | refine neq_a ?_ | refine neq_b ?_ | refine add_a ?_ | refine sub_a ?_ | refine ld_a ?_ | refine ldA_a ?_ | refine ldS_a ?_ | refine ldNS_a ?_ | refine rdA_s ?_ | refine rd1_s ?_ | refine drew_a fun w1 H1 => ?_ | refine st_a fun w1 H1 => ?_ | refine stA_a fun w1 H1 => ?_ | refine lenT_a ?_ | refine lenO_a ?_ | refine ixT_a ?_ | refine ixO_a ?_ | refine bld_a ?_ | refine min_a ?_ | refine max_a ?_  | refine ldT_a ?_ | refine ldC_a ?_ | refine ldX_a ?_ | refine ldM_a ?_ | refine rdT_a ?_ | refine rdC_a ?_ | refine rdX_a ?_ | refine rdM_a ?_ | refine getCh_a ?_ | refine getCh2_a ?_ | refine getCn_a ?_ | refine getCn2_a ?_ | refine getPl_a ?_ | refine getPl2_a ?_ | refine getTk_a ?_ | refine getAn2_a ?_ | refine lenE_a ?_ | refine lenR_a ?_ | refine cv8_a ?_ | refine cv64_a ?_ | fail))
  exact ⟨(by first | rfl | trivial), H⟩
theorem held_ok {e : Int} (hok : T.Ok n) (h : T.held p id = (some r, e)) : e = 0 ∧ r ∈ T.ml ∧ ∃ m ch, oget r T.mss = some m ∧ m.id = id ∧ oget m.ch T.chs = some ch ∧ ch.pr = p := by
  unfold Tbl.held at h
  split at h
  · cases h
  · rename_i a ha
    obtain ⟨h1, x, h2, h3⟩ := find_some ha
    obtain ⟨_, h4, ch, h5⟩ := hok.ms a h1
    rw [h2] at h4; injection h4 with h4; subst h4
    simp only [h2, h5] at h
    split at h
    · injection h with h6 h7; injection h6 with h6; subst h6
      exact ⟨h7.symm, h1, x, ch, h2, h3, h5, by assumption⟩
    · cases h
theorem held_no {e : Int} (h : T.held p id = (none, e)) : e ≠ 0 := by
  unfold Tbl.held at h
  split at h
  · injection h with _ h; omega
  · split at h
    · injection h with _ h; omega
    · split at h
      · injection h with _ h; omega
      · split at h
        · cases h
        · injection h with _ h; omega
theorem asked_no {e : Int} {l : Nat} (h : T.asked p id l = (none, e)) : e ≠ 0 := by
  unfold Tbl.asked at h
  split at h
  · injection h with _ h; omega
  · split at h
    · injection h with _ h; omega
    · exact held_no h
theorem asked_ok {e : Int} {l : Nat} (hok : T.Ok n) (h : T.asked p id l = (some r, e)) : proc p ∧ l ≤ 4096 ∧ e = 0 ∧ r ∈ T.ml ∧ ∃ m ch, oget r T.mss = some m ∧ m.id = id ∧ oget m.ch T.chs = some ch ∧ ch.pr = p := by
  unfold Tbl.asked at h
  split at h
  · cases h
  · rename_i h1
    split at h
    · cases h
    · rename_i h2
      exact ⟨Decidable.not_not.1 h1, by omega, held_ok hok h⟩
end
end Go.Proofs.YtmkcjopacmadhaaGreat.Den
