/- Message queue: Messages, walked. Conditions: none. -/
import Derived.Test.YthcekppbbanfeaaGreatMqI
import Derived.Test.YthcekppbbanfeaaGreatMqP
import Derived.Test.YthcekppbbanfeaaGreatMqSC
import Derived.Test.YthcekppbbanfeaaGreatFnsB
set_option linter.unusedVariables false
set_option linter.unusedSimpArgs false
set_option maxRecDepth 8000
set_option maxHeartbeats 2000000
namespace Go.Proofs.YthcekppbbanfeaaGreat.Den
open Go Go.RowKit
instance : Inhabited Kp := ⟨⟨⟨0, ⟨none, 0, 0⟩, []⟩, 0⟩⟩
theorem ltOf_bef (x y : Kp) : ltOf befK x y = lessK x y := befK_lt x y
theorem swoK : Go.Sort.SWO (ltOf befK) where
  irrefl x := by rw [ltOf_bef]; exact lessK_irrefl x
  trans x y z h1 h2 := by
    rw [ltOf_bef] at *
    unfold lessK at *; rw [decide_eq_true_eq] at *; omega
  ntrans x y z h1 h2 := by
    rw [ltOf_bef] at *
    exact lessK_ntrans h1 h2
/-- What a message says. -/
def Ms.say (m : Ms) : Int × List Int := (m.pri, m.bs)
section
variable {w w' w0 : World} {L L' F G cs cs2 A X Y cm cr D : List Chunk} {s s2 sm sr ss : Value} {K : VK} {R : ER} {b i j qb : Nat} {q : Q25} {m : Ms} {xs : List Kp}
theorem sortK_spec (h : TS cKp 97 s xs cs) (H : Hp w0 w (cs ++ G)) (hl : xs.length ≤ 4000) :
    Calls Pg 39 ⟨[s, .func (.func 40) ⟨[]⟩ ⟨[]⟩]⟩ w fun e w' => ∃ xs' cs', e = .returned (.tuple ⟨[]⟩) ∧ Hp w0 w' (cs' ++ G) ∧ TS cKp 97 s xs' cs' ∧ xs'.Perm xs ∧ xs'.Pairwise fun x y => lessK y x = false := by
  have hbl : ∀ (n : Nat) W, n < 2 ^ 20 → Calls Pg 73 ⟨[U64 (n : Int)]⟩ W fun e w' => e = .returned (I (Lib.bitLen n : Nat)) ∧ w' = W := by
    intro n W hn
    have h := Any.bits_Len (SlLaysF0.n15.bits (P := Pg) (ρ := sortC_ren) { sortC with }) (n : Int) W (by omega) (by omega)
    rw [Int.toNat_natCast] at h
    exact h
  apply F39_calls
  unfold F39
  refine pv_of (lenS_ts h) ?_
  have hcv : cvI .u64 (I (xs.length : Int)) = some (U64 (xs.length : Int)) := by
    rw [cvI_mk]
    congr 2
    simp [IntKind.wrap, IntKind.bits, IntKind.signed]; omega
  refine pv_of hcv ?_
  refine cal_h (hbl xs.length w (by omega)) ?_
  rintro _ w2 ⟨rfl, e2⟩
  replace e2 := e2.symm
  subst e2
  (try simp only [W0])
  rcases Nat.eq_zero_or_pos xs.length with h0 | h0
  · have hE : xs = [] := List.length_eq_zero_iff.1 h0
    subst hE
    obtain ⟨p, cap, rfl⟩ : ∃ p cap, s = .slice p 0 cap := by
      rcases h with ⟨_, ⟨a, rfl⟩, _, _⟩ | ⟨b, cap, rest, _, rfl, _⟩
      · exact ⟨a, 0, rfl⟩
      · exact ⟨_, cap, rfl⟩
    have hp := AnyF.pdqsortCmpFunc_none (P := Pg) (ρ := sortC_ren) sortC p cap (Lib.bitLen 0) (.func (.func 40) ⟨[]⟩ ⟨[]⟩) w
    refine cal_h hp ?_
    rintro _ w2 ⟨rfl, e2⟩
    replace e2 := e2.symm
    subst e2
    exact ⟨[], cs, (by first | rfl | trivial), H, h, List.Perm.refl _, List.Pairwise.nil⟩
  · obtain ⟨b, cap, rfl, hH, hb, hpost⟩ := sort_bridge h H h0
    have hsc : ∀ x : Kp, ∀ v ∈ cKp.enc x, v.oneCell' = true := fun x v hv => by
      simp only [cKp, Kp.enc, List.mem_cons, List.not_mem_nil, or_false] at hv; rcases hv with rfl | rfl | rfl <;> rfl
    have hlim : Lib.bitLen xs.toArray.size < 4611686018427387904 := Nat.lt_of_le_of_lt (Lib.bitLen_le xs.toArray.size 62 (by omega) (by rw [List.size_toArray]; omega)) (by omega)
    have hp := AnyQ.pdqsortCmpFunc_all (P := Pg) (ρ := sortC_ren) sortC 3 Tryz.isAgg97 Tryz.sizeOf97 cKp.enc befK 40 ⟨[]⟩ swoK b 0 cap xs.toArray w
      (enters_of Tryz.func40 (by kernel_rfl) rfl) (fun m os dk hs x y => by
        obtain ⟨cs', H', _⟩ := hpost dk m os (by simpa using hs)
        have e : (#[.agg (cKp.enc x).toArray, .agg (cKp.enc y).toArray] ++ (⟨[]⟩ : Array Value)) = ⟨[.agg ⟨x.enc⟩, .agg ⟨y.enc⟩]⟩ := rfl
        rw [e]
        refine (before_spec (x := x) (y := y) (Hp.refl _)).mono ?_
        rintro e w' ⟨rfl, H2⟩
        exact ⟨rfl, ext_grow H2.ext⟩) ⟨cKp.len, hsc, hH, hb⟩ (xs.toArray.size + 1) 0 xs.toArray.size (Lib.bitLen xs.toArray.size) xs.toArray w (by omega) rfl (SWK.start hH) (Nat.zero_le _) (Nat.le_refl _) (by simp; omega) hlim (Or.inl rfl)
    refine cal_h hp ?_
    rintro _ w' ⟨rfl, n, os, rfl⟩
    have hs := Sort.pdq_sorts (ltOf befK) swoK xs.toArray 0 xs.toArray.size (Lib.bitLen xs.toArray.size) true true (Nat.zero_le _) (Nat.le_refl _) (Or.inl rfl)
    generalize Sort.pdq (ltOf befK) xs.toArray 0 xs.toArray.size (Lib.bitLen xs.toArray.size) true true = d' at *
    obtain ⟨g1, g2⟩ := permIn_all hs.1
    obtain ⟨cs', H', hts⟩ := hpost d' n os (by simpa using g1)
    refine ⟨d'.toList, cs', (by first | rfl | trivial), H', hts, by simpa using g2, ?_⟩
    have hpw := sortedIn_pw (lt := ltOf befK) (d := d') (by rw [g1]; exact hs.2)
    exact hpw.imp fun h => by rwa [ltOf_bef] at h
theorem clone_spec (h : TS cKp 97 s xs cs) (hsub : ∀ c ∈ cs, c ∈ L) (H : Hp w0 w L) (hl : xs.length ≤ 4000) :
    Calls Pg 38 ⟨[s]⟩ w fun e w' => ∃ s' cs', e = .returned s' ∧ TS cKp 97 s' xs cs' ∧ Hp w0 w' (cs' ++ L) := by
  apply F38_calls
  unfold F38
  obtain ⟨a, n, c, rfl⟩ : ∃ a n c, s = .slice a n c := by
    obtain ⟨k, rfl⟩ := h.sh
    exact ⟨k.a, k.n, k.c, rfl⟩
  cases a with
  | none =>
    (try simp only [W0])
    have h0 : xs = [] := by
      rcases h with ⟨h0, _, h1, _⟩ | ⟨b, cap, rest, _, h2, _⟩
      · exact List.length_eq_zero_iff.1 (by first | exact h0 | exact h1)
      · cases h2
    subst h0
    exact ⟨_, [], rfl, TS.nil, H⟩
  | some a =>
    (try simp only [W0])
    refine lit0_t (C := cKp) elKp H fun w s2 H h2 => ?_
    refine append_t (C := cKp) (F := L) elKp H h2 Split.nil h.tr hsub (by simp; omega) (by simp; omega) fun w s' c' H h' => ?_
    exact ⟨s', c', (by first | rfl | trivial), by simpa using h', H⟩
theorem messages_spec (hD : ∀ c ∈ D, c ∈ F) (hq : QAt w0 D q sm sr ss cm cr cs) (H : Hp w0 w (q.mem qb sm sr ss cm cr cs F)) :
    Calls Pg 10 ⟨[ptr qb 0]⟩ w fun e w' => ∃ (s' : Value) (c' D' : List Chunk) (ys : List Ms) (zs : List Kp), e = .returned s' ∧ zs.Perm q.ms ∧ (zs.Pairwise fun x y => lessK y x = false) ∧ TS cMs 43 s' ys c' ∧ ys.map Ms.say = zs.map (fun z => z.m.say) ∧ (∀ y ∈ ys, MsOK w0 D' y) ∧ Hp w0 w' (c' ++ (D' ++ q.mem qb sm sr ss cm cr cs F)) := by
  have hlm := hq.lm
  have hsm : scalar sm = true := hq.m.sc
  apply F10_calls
  unfold F10
  (try simp only [W0])
  unfold F10_j1
  (try simp only [W0])
  unfold Q25.mem at H
  refine ld_m H Has.here (o := 0) (v := sm) rfl ?_
  refine cal_h (clone_spec hq.m (fun c hc => List.mem_cons_of_mem _ (List.mem_append_left _ hc)) H (by omega)) ?_
  rintro _ w ⟨s1, c1, rfl, h1, H⟩
  (try simp only [W0])
  refine cal_h (sortK_spec h1 H (by omega)) ?_
  rintro _ w ⟨zs, c2, rfl, H, h2, hp, hpw⟩
  (try simp only [W0])
  have hzl : zs.length ≤ 64 := by rw [hp.length_eq]; exact hlm
  have hzd : ∀ z ∈ zs, MsOK w0 D z.m := fun z hz => hq.dm z (hp.mem_iff.1 hz)
  unfold F10_j3
  refine pv_of (lenS_ts h2) ?_
  unfold F10_j4
  refine loop4 (F10_l1_succ _) (fun m x4 x16 x17 x18 w => ∃ (i : Nat) (c' D' : List Chunk) (ys : List Ms), s1 = x16 ∧ x17 = I (zs.length : Int) ∧ x18 = I (i : Int) ∧ m + i = zs.length ∧ TS cMs 43 x4 ys c' ∧ ys.map Ms.say = (zs.take i).map (fun z => z.m.say) ∧ (∀ y ∈ ys, MsOK w0 D' y) ∧ Hp w0 w (c' ++ (D' ++ (c2 ++ q.mem qb sm sr ss cm cr cs F)))) ?_ (m := zs.length) ⟨0, [], [], [], rfl, rfl, rfl, rfl, TS.nil, rfl, by simp, H⟩
  clear H
  rintro m k x4 _ _ _ w ⟨i, c', D', ys, rfl, rfl, rfl, hmi, hT, hsay, hok, H⟩ hk
  have hyl : ys.length = i := by
    have := congrArg List.length hsay
    rw [List.length_map, List.length_map, List.length_take] at this; omega
  unfold F10_b1
  refine lss_k (fun hi => ?_) (fun hi => ?_)
  · (try simp only [W0])
    have hzz : zs[i]? = some zs[i] := List.getElem?_eq_getElem (by omega)
    generalize zs[i] = z at hzz
    unfold F10_j5
    refine ixN_t (C := cKp) h2.tr H (fun c hc => List.mem_append_right _ (List.mem_append_right _ (List.mem_append_left _ hc))) hzz (by decide) ?_
    refine al_m (ys := [I 0, .slice none 0 0, I 0]) H (by kernel_rfl) fun w b6 H => ?_
    refine stA_m (vs := z.enc) H Upd.here rfl rfl (cKp.sc z) fun w H => ?_
    (try simp only [W0])
    refine ldP_m (ys := z.m.enc) H Has.here (o := 0) (by simp [Kp.enc]) rfl ?_
    refine cal_h (copied_spec (hzd z (List.mem_of_getElem? hzz)) (fun c hc => List.mem_cons_of_mem _ (List.mem_append_right _ (List.mem_append_right _ (List.mem_append_right _ (List.mem_cons_of_mem _ (List.mem_append_right _ (List.mem_append_right _ (List.mem_append_right _ (hD c hc))))))))) H) ?_
    rintro _ w ⟨sh, D2, rfl, hok2, H⟩
    (try simp only [W0])
    refine app1_t (C := cMs) (x := { z.m with sh := sh }) (F := D2 ++ (⟨b6, .t 97, z.enc⟩ :: (D' ++ (c2 ++ q.mem qb sm sr ss cm cr cs F)))) elMsL H hT (Split.app (Split.cons Split.here)) rfl (by decide) (by omega) (by omega) fun w s' c3 H h3 => ?_
    refine add_k (z := ((i + 1 : Nat) : Int)) (by omega) (by omega) (by omega) ?_
    refine hk (m - 1) _ _ _ _ _ (by omega) ⟨i + 1, c3, D2 ++ D', ys ++ [{ z.m with sh := sh }], rfl, rfl, rfl, by omega, h3, ?_, ?_, H.to fun q => ?_⟩
    · rw [List.take_add_one, hzz, List.map_append, List.map_append, hsay]; rfl
    · intro y hy
      rcases List.mem_append.1 hy with hy | hy
      · exact (hok y hy).mono fun c hc => List.mem_append_right _ hc
      · rw [List.mem_singleton.1 hy]; exact hok2.mono fun c hc => List.mem_append_left _ hc
    · simp only [List.map_append, List.map_cons, List.sum_append, List.sum_cons]; omega
  · (try simp only [W0])
    unfold F10_j2
    rw [List.take_of_length_le (by omega)] at hsay
    refine ⟨x4, c', D', ys, zs, rfl, hp, hpw, hT, hsay, hok, H.to fun q => ?_⟩
    simp only [List.map_append, List.sum_append]; omega
end
end Go.Proofs.YthcekppbbanfeaaGreat.Den
