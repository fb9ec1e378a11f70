/- Message queue, the reference: data, small functions. Conditions: none. -/
import Derived.Test.YthcekppbbanfeaaGreatOf
import Derived.Test.YthcekppbbanfeaaGreatMqR
import Derived.Test.YthcekppbbanfeaaGreatMqO
set_option linter.unusedVariables false
set_option linter.unusedSimpArgs false
set_option maxRecDepth 8000
set_option maxHeartbeats 2000000
namespace Go.Proofs.YthcekppbbanfeaaGreat.Den
open Go Go.RowKit
structure Wt where
  th : Int
  m : Ms
  dl : Int
def Wt.enc (k : Wt) : List Value := [I k.th, I k.m.pri, k.m.sh.val, I k.dl]
def cWt : Cod Wt := ⟨4, Wt.enc, fun _ => rfl, by intro a c hc; simp only [Wt.enc, List.mem_cons, List.not_mem_nil, or_false] at hc; rcases hc with rfl | rfl | rfl | rfl <;> rfl⟩
structure RQ where
  max : Int
  size : Int
  ms : List Ms
  sn : List Wt
  rc : List Wt
  now : Int
  nt : Nc
  reg : Bool
def RQ.cells (r : RQ) (sm ss sr : Value) : List Value := [I r.max, I r.size, sm, ss, sr, I r.now, I r.nt.ow, I r.nt.ki, I r.nt.co, I r.nt.pr, I r.nt.cd, I r.nt.va, .bool r.reg]
def RQ.mem (rb : Nat) (sm ss sr : Value) (cm cs cr : List Chunk) (r : RQ) (F : List Chunk) : List Chunk := ⟨rb, .t 75, r.cells sm ss sr⟩ :: (cm ++ (cs ++ (cr ++ F)))
structure RAt (w0 : World) (D : List Chunk) (r : RQ) (sm ss sr : Value) (cm cs cr : List Chunk) : Prop where
  m : TS cMs 49 sm r.ms cm
  s : TO cWt 124 ss r.sn cs
  q : TO cWt 124 sr r.rc cr
  dm : ∀ k ∈ r.ms, MsOK w0 D k
  ds : ∀ k ∈ r.sn, MsOK w0 D k.m
  lm : r.ms.length ≤ 64
  lr : r.rc.length ≤ 64
  ls : r.sn.length ≤ 64
/-- What a call leaves. -/
def RAfter (w0 w' : World) (D F : List Chunk) (rb : Nat) (r' : RQ) (es : List En) (ns : List Nc) (se sn : Value) : Prop := ∃ (D' : List Chunk) (sm ss sr : Value) (cm cs cr ce cn : List Chunk),
  TS cEn 127 se es ce ∧ TS cNc 73 sn ns cn ∧ RAt w0 (D' ++ D) r' sm ss sr cm cs cr ∧ (∀ e ∈ es, MsOK w0 (D' ++ D) e.m) ∧ Hp w0 w' (ce ++ (cn ++ r'.mem rb sm ss sr cm cs cr (D' ++ F)))
theorem elRMs : ElT 48 49 cMs.sz 32 [I 0, .slice none 0 0] := ⟨by kernel_rfl, by kernel_rfl, rfl⟩
theorem elWt : ElT 71 124 cWt.sz 48 [I 0, I 0, .slice none 0 0, I 0] := ⟨by kernel_rfl, by kernel_rfl, rfl⟩
theorem elREn : ElT 77 127 cEn.sz 48 [I 0, I 0, .slice none 0 0, I 0] := ⟨by kernel_rfl, by kernel_rfl, rfl⟩
theorem elRNc : ElT 78 73 cNc.sz 48 [I 0, I 0, I 0, I 0, I 0, I 0] := ⟨by kernel_rfl, by kernel_rfl, rfl⟩
def nc0 : Nc := ⟨0, 0, 0, 0, 0, 0⟩
def r0 (mx sz : Int) : RQ := ⟨mx, sz, [], [], [], 0, nc0, false⟩
def RQ.blocked (r : RQ) (th : Int) : Bool := decide (th ∈ r.sn.map Wt.th) || decide (th ∈ r.rc.map Wt.th)
def waitsE (now : Int) (wait : Bool) (dl n : Int) : Int := if wait = false then 2 else if dl ≠ 0 ∧ dl ≤ now then 37 else if 64 ≤ n then 18 else 0
section
variable {w w' w0 : World} {L L' F cs cs2 A X Y cm cr D : List Chunk} {s s2 sm sr ss : Value} {K : VK} {R : ER} {b i j rb : Nat} {r : RQ} {m : Ms} {th dl now : Int} {wait : Bool} {xs : List Wt}
theorem RAt.grow {D' : List Chunk} (h : RAt w0 D r sm ss sr cm cs cr) : RAt w0 (D' ++ D) r sm ss sr cm cs cr :=
  ⟨h.m, h.s, h.q, fun k hk => (h.dm k hk).mono fun c hc => List.mem_append_right _ hc, fun k hk => (h.ds k hk).mono fun c hc => List.mem_append_right _ hc, h.lm, h.lr, h.ls⟩
theorem RAt.monoD {D' : List Chunk} (h : RAt w0 D r sm ss sr cm cs cr) (hD : ∀ c ∈ D, c ∈ D') : RAt w0 D' r sm ss sr cm cs cr :=
  ⟨h.m, h.s, h.q, fun k hk => (h.dm k hk).mono hD, fun k hk => (h.ds k hk).mono hD, h.lm, h.lr, h.ls⟩
theorem RAfter.same (h : RAt w0 D r sm ss sr cm cs cr) (H : Hp w0 w (r.mem rb sm ss sr cm cs cr F)) : RAfter w0 w D F rb r [] [] (.slice none 0 0) (.slice none 0 0) :=
  ⟨[], sm, ss, sr, cm, cs, cr, [], [], TS.nil, TS.nil, h, by simp, H⟩
theorem RAfter.drop {c : Chunk} {es : List En} {ns : List Nc} {se sn : Value} (h : RAfter w0 w D (c :: F) rb r es ns se sn) : RAfter w0 w D F rb r es ns se sn := by
  obtain ⟨D', sm, ss, sr, cm, cs, cr, ce, cn, h1, h2, h3, h4, H⟩ := h
  refine ⟨D', sm, ss, sr, cm, cs, cr, ce, cn, h1, h2, h3, h4, H.to fun q => ?_⟩
  simp only [RQ.mem, List.map_append, List.map_cons, List.sum_append, List.sum_cons]; omega
theorem mem_RF {c : Chunk} (h : c ∈ F) : c ∈ r.mem rb sm ss sr cm cs cr F := List.mem_cons_of_mem _ (List.mem_append_right _ (List.mem_append_right _ (List.mem_append_right _ h)))
theorem rnew_spec {mx sz : Int} (H : Hp w0 w L) : Calls Pg 8 ⟨[I mx, I sz]⟩ w fun e w' => (badNew mx sz ∧ e = .returned (.tuple ⟨[.pointer none, I 34]⟩) ∧ Hp w0 w' L) ∨
    ∃ rb, ¬ badNew mx sz ∧ e = .returned (.tuple ⟨[ptr rb 0, I 0]⟩) ∧ RAt w0 [] (r0 mx sz) (.slice none 0 0) (.slice none 0 0) (.slice none 0 0) [] [] [] ∧ Hp w0 w' ((r0 mx sz).mem rb (.slice none 0 0) (.slice none 0 0) (.slice none 0 0) [] [] [] L) := by
  apply F8_calls
  unfold F8
  refine lss_k (fun h1 => ?_) (fun h1 => ?_)
  · (try simp only [W0])
    exact .inl ⟨.inl h1, (by first | rfl | trivial), H⟩
  (try simp only [W0])
  refine gtr_k (fun h2 => ?_) (fun h2 => ?_)
  · (try simp only [W0])
    exact .inl ⟨.inr (.inl h2), (by first | rfl | trivial), H⟩
  (try simp only [W0])
  refine lss_k (fun h3 => ?_) (fun h3 => ?_)
  · (try simp only [W0])
    exact .inl ⟨.inr (.inr (.inl h3)), (by first | rfl | trivial), H⟩
  (try simp only [W0])
  refine gtr_k (fun h4 => ?_) (fun h4 => ?_)
  · (try simp only [W0])
    exact .inl ⟨.inr (.inr (.inr h4)), (by first | rfl | trivial), H⟩
  (try simp only [W0])
  refine bld_a ?_
  refine bx_m H fun w rb H => ?_
  exact .inr ⟨rb, by unfold badNew; omega, rfl, ⟨TS.nil, TO.nil, TO.nil, by simp [r0], by simp [r0], by simp [r0], by simp [r0], by simp [r0]⟩, H⟩
theorem rcopied_spec (hm : MsOK w0 D m) (hD : ∀ c ∈ D, c ∈ L) (H : Hp w0 w L) :
    Calls Pg 45 ⟨[.agg ⟨m.enc⟩]⟩ w fun e w' => ∃ (sh : Sh) (D' : List Chunk), e = .returned (.agg ⟨({ m with sh := sh } : Ms).enc⟩) ∧ MsOK w0 D' { m with sh := sh } ∧ Hp w0 w' (D' ++ L) := by
  obtain ⟨h1, h2⟩ := hm
  apply F45_calls
  unfold F45
  refine bx_m (vs := m.enc) H fun w b1 H => ?_
  refine al_m (ys := [I 0, .slice none 0 0]) H (by kernel_rfl) fun w b2 H => ?_
  refine drew_k H fun w H => ?_
  (try simp only [W0])
  refine ld_m H (Has.cons Has.here) (o := 0) (v := I m.pri) rfl ?_
  have c1 : w.cell? ⟨b1, 1, none⟩ = some m.sh.val := H.cellM (t := 49) (Has.cons Has.here) rfl
  (try simp only [W0])
  refine lit0_t (C := cB) elB H fun w s0 H h0 => ?_
  refine rd1_m H (Has.cons Has.here) (o := 0) rfl ?_
  (try simp only [W0])
  refine ldS_m H (Has.cons Has.here) (o := 1) (v := m.sh.val) rfl (by intro z hz; rw [List.mem_singleton.1 hz]; exact c1) ?_
  (try simp only [W0])
  refine append_t (C := cB) (F := ⟨b2, .t 49, [I 0, .slice none 0 0]⟩ :: ⟨b1, .t 49, m.enc⟩ :: L) elB H h0 Split.nil h1 (fun c hc => List.mem_cons_of_mem _ (List.mem_cons_of_mem _ (hD c hc))) (by simp; omega) (by simp; omega) fun w s' c' H h' => ?_
  rw [List.nil_append] at h'
  obtain ⟨k, rfl⟩ := h'.sh
  refine rd1_m H (Has.app (Has.cons Has.here)) (o := 0) rfl ?_
  refine bld_a ?_
  (try simp only [W0])
  refine stA_m (vs := ({ m with sh := k } : Ms).enc) H (Upd.app Upd.here) rfl rfl (cMs.sc _) fun w H => ?_
  refine ldA_m (l := ({ m with sh := k } : Ms).enc) H (Has.app Has.here) rfl ?_
  refine ⟨k, c', (by first | rfl | trivial), ⟨h'.tr, h2⟩, H.to fun q => ?_⟩
  simp only [List.map_append, List.map_cons, List.sum_append, List.sum_cons]; omega
theorem rwaits_spec {n : Nat} {l : List Value} {a : Option Addr} {c : Nat} (hm : Has L rb (.t 75) l) (hl : l[5]? = some (I now)) (H : Hp w0 w L) : Calls Pg 57 ⟨[ptr rb 0, .bool wait, I dl, .slice a n c]⟩ w fun e w' => e = .returned (I (waitsE now wait dl n)) ∧ Hp w0 w' L := by
  apply F57_calls
  unfold F57 waitsE
  (try simp only [W0])
  cases wait with
  | false => (try simp only [W0]); exact ⟨(by first | rfl | trivial), H⟩
  | true =>
    (try simp only [W0])
    unfold F57_j1
    have e0 : ¬ (true = false) := by decide
    refine neq_k (fun h => ?_) (fun h => ?_)
    · (try simp only [W0])
      refine ld_m H hm (o := 5) hl ?_
      (try simp only [W0])
      refine leq_k (fun h2 => ?_) (fun h2 => ?_)
      · (try simp only [W0])
        exact ⟨by rw [if_neg e0, if_pos ⟨h, h2⟩], H⟩
      · (try simp only [W0])
        refine geq_k (fun h3 => ?_) (fun h3 => ?_)
        · (try simp only [cnd_true])
          exact ⟨by rw [if_neg e0, if_neg (fun h' => h2 h'.2), if_pos h3], H⟩
        · (try simp only [cnd_false])
          exact ⟨by rw [if_neg e0, if_neg (fun h' => h2 h'.2), if_neg h3], H⟩
    · (try simp only [W0])
      refine geq_k (fun h3 => ?_) (fun h3 => ?_)
      · (try simp only [cnd_true])
        exact ⟨by rw [if_neg e0, if_neg (fun h' => h'.1 h), if_pos h3], H⟩
      · (try simp only [cnd_false])
        exact ⟨by rw [if_neg e0, if_neg (fun h' => h'.1 h), if_neg h3], H⟩
/-- The first place of a thread. -/
def AtW (th : Int) (xs : List Wt) (i : Int) : Prop := (th ∉ xs.map Wt.th ∧ i = -1) ∨ ∃ (k : Nat) (x : Wt), xs[k]? = some x ∧ x.th = th ∧ (∀ y ∈ xs.take k, y.th ≠ th) ∧ i = (k : Int)
theorem AtW.ge {i : Int} (h : AtW th xs i) : decide (0 ≤ i) = decide (th ∈ xs.map Wt.th) := by
  rcases h with ⟨h1, rfl⟩ | ⟨k, x, h1, h2, _, rfl⟩
  · rw [decide_eq_false (by omega), decide_eq_false h1]
  · rw [decide_eq_true (by omega), decide_eq_true (h2 ▸ List.mem_map_of_mem (List.mem_of_getElem? h1))]
theorem rindex_spec (h : TR cWt w0 cs s xs) (m1 : ∀ c ∈ cs, c ∈ L) (hn : xs.length ≤ 2 ^ 20) (H : Hp w0 w L) : Calls Pg 64 ⟨[s, I th]⟩ w fun e w' => ∃ i, e = .returned (I i) ∧ AtW th xs i ∧ Hp w0 w' L := by
  generalize hQ : (fun (e : Ending) (w' : World) => ∃ i, e = .returned (I i) ∧ AtW th xs i ∧ Hp w0 w' L : ER) = Q
  apply F64_calls
  unfold F64 F64_j2 F64_j3
  refine loop3 (F64_l1_succ _) (fun m x0 x1 x5 w => ∃ i : Nat, s = x0 ∧ x1 = I th ∧ x5 = I (i : Int) ∧ m + i = xs.length ∧ (∀ y ∈ xs.take i, y.th ≠ th) ∧ Hp w0 w L) ?_ (m := xs.length) ⟨0, rfl, rfl, rfl, rfl, by simp, H⟩
  clear H
  rintro m k _ _ _ w ⟨i, rfl, rfl, rfl, hm, hno, H⟩ hk
  unfold F64_b1
  refine pv_of (lenS_tr h) ?_
  refine lss_k (fun hi => ?_) (fun hi => ?_)
  · (try simp only [W0])
    have hx : xs[i]? = some xs[i] := List.getElem?_eq_getElem (by omega)
    generalize xs[i] = y at hx
    unfold F64_j4
    refine ixF_t (C := cWt) (f := 0) (v := I y.th) h H m1 hx rfl ?_
    refine eql_k (fun he => ?_) (fun he => ?_)
    · (try simp only [W0])
      subst hQ
      exact ⟨i, rfl, .inr ⟨i, y, hx, he, hno, rfl⟩, H⟩
    · (try simp only [W0])
      refine add_k (z := ((i + 1 : Nat) : Int)) (by omega) (by omega) (by omega) ?_
      refine hk (m - 1) _ _ _ _ (by omega) ⟨i + 1, rfl, rfl, rfl, by omega, fun z hz => ?_, H⟩
      rw [List.take_add_one, hx] at hz
      rcases List.mem_append.1 hz with hz | hz
      · exact hno z hz
      · simp at hz; subst hz; exact he
  · (try simp only [W0])
    unfold F64_j1
    subst hQ
    rw [List.take_of_length_le (by omega)] at hno
    refine ⟨-1, rfl, .inl ⟨fun hm => ?_, rfl⟩, H⟩
    obtain ⟨y, hy, e⟩ := List.mem_map.1 hm
    exact hno y hy e
theorem rwithout_spec {k : Nat} (h : TR cWt w0 cs s xs) (m1 : ∀ c ∈ cs, c ∈ L) (hn : xs.length ≤ 2 ^ 20) (hk : k < xs.length) (H : Hp w0 w L) : Calls Pg 65 ⟨[s, I (k : Int)]⟩ w fun e w' => ∃ s' c', e = .returned s' ∧ TS cWt 124 s' (xs.eraseIdx k) c' ∧ Hp w0 w' (c' ++ L) := by
  apply F65_calls
  unfold F65
  refine drew_k H fun w H => ?_
  (try simp only [W0])
  refine lit0_t (C := cWt) elWt H fun w s0 H h0 => ?_
  obtain ⟨s1, e1, h1⟩ := slRto_t (C := cWt) (hi := k) (by decide) h (by omega)
  refine pv_of e1 ?_
  (try simp only [W0])
  have hl1 : (xs.take k).length = k := by rw [List.length_take]; omega
  refine append_t (C := cWt) (F := L) elWt H h0 Split.nil h1 m1 (by simp; omega) (by simp; omega) fun w s2 c2 H h2 => ?_
  rw [List.nil_append] at h2
  refine add_k (z := ((k + 1 : Nat) : Int)) (by omega) (by omega) (by omega) ?_
  have hd := slR_t (C := cWt) (lo := k + 1) (hi := xs.length) (by decide) h (by omega) (Nat.le_refl _)
  obtain ⟨s3, e3, h3⟩ : ∃ s3, slS cWt.sz s (some (I ((k + 1 : Nat) : Int))) none = some s3 ∧ TR cWt w0 cs s3 (xs.drop (k + 1)) := by
    obtain ⟨s3, e3, h3⟩ := hd
    refine ⟨s3, ?_, by rwa [List.take_of_length_le (by rw [List.length_drop]; exact Nat.le_refl _)] at h3⟩
    rw [← e3]
    obtain ⟨sh, rfl⟩ := h.sh
    have hln := lenS_tr h
    have : sh.n = xs.length := by
      unfold Sh.val at hln
      rw [lenS_mk] at hln
      injection hln with hln; injection hln with _ hln; omega
    have hcap : xs.length ≤ sh.c := by
      rcases h with (⟨c, hv, h0, _⟩ | ⟨a, c, hv, hle, _⟩) | ⟨b, o, c, el, l, hv, hle, _⟩ <;> (unfold Sh.val at hv; injection hv with _ hv1 hv2)
      · have hz : cWt.sz = 4 := rfl
        rw [hz] at h0; omega
      · omega
      · omega
    unfold Sh.val slS boundO
    simp only [this]
    rw [if_pos (by omega : (0 : Int) ≤ ((xs.length : Nat) : Int) ∧ ((xs.length : Nat) : Int) ≤ (sh.c : Int))]
    rfl
  refine pv_of e3 ?_
  (try simp only [W0])
  refine append_t (C := cWt) (F := L) elWt H h2 Split.here h3 (fun c hc => List.mem_append_right _ (m1 c hc)) (by simp; omega) (by simp; omega) fun w s4 c4 H h4 => ?_
  refine ⟨s4, c4, (by first | rfl | trivial), ?_, H⟩
  rw [← List.eraseIdx_eq_take_drop_succ] at h4
  exact h4
theorem rblocked_spec (h : RAt w0 D r sm ss sr cm cs cr) (H : Hp w0 w (r.mem rb sm ss sr cm cs cr F)) : Calls Pg 55 ⟨[ptr rb 0, I th]⟩ w fun e w' => e = .returned (.bool (r.blocked th)) ∧ Hp w0 w' (r.mem rb sm ss sr cm cs cr F) := by
  have lr := h.lr
  have ls := h.ls
  unfold RQ.blocked
  apply F55_calls
  unfold F55
  (try simp only [W0])
  unfold RQ.mem at H
  refine ld_m H Has.here (o := 3) (v := ss) rfl ?_
  refine cal_h (rindex_spec (th := th) h.s.tr (fun c hc => List.mem_cons_of_mem _ (List.mem_append_right _ (List.mem_append_left _ hc))) (by omega) H) ?_
  rintro _ w ⟨i, rfl, hi, H⟩
  (try simp only [W0])
  rw [bin_geq, pv_some, hi.ge]
  generalize decide (th ∈ r.sn.map Wt.th) = bb
  cases bb with
  | true => (try simp only [W0]); exact ⟨(by first | rfl | trivial), H⟩
  | false =>
    (try simp only [W0])
    refine ld_m H Has.here (o := 4) (v := sr) rfl ?_
    (try simp only [W0])
    refine cal_h (rindex_spec (th := th) h.q.tr (fun c hc => List.mem_cons_of_mem _ (List.mem_append_right _ (List.mem_append_right _ (List.mem_append_left _ hc)))) (by omega) H) ?_
    rintro _ w ⟨j, rfl, hj, H⟩
    (try simp only [W0])
    rw [bin_geq, pv_some, hj.ge]
    (try simp only [W0])
    exact ⟨(by first | rfl | trivial), H⟩
theorem rthreads_spec (h : TR cWt w0 cs s xs) (m1 : ∀ c ∈ cs, c ∈ L) (hn : xs.length ≤ 2 ^ 20) (H : Hp w0 w L) : Calls Pg 44 ⟨[s]⟩ w fun e w' => ∃ s' c', e = .returned s' ∧ TS cI 3 s' (xs.map Wt.th) c' ∧ Hp w0 w' (c' ++ L) := by
  apply F44_calls
  unfold F44 F44_j2 F44_j3
  refine loop3 (F44_l1_succ _) (fun m x0 x3 x4 w => ∃ (i : Nat) (c' : List Chunk), s = x0 ∧ x4 = I (i : Int) ∧ m + i = xs.length ∧ TS cI 3 x3 ((xs.take i).map Wt.th) c' ∧ Hp w0 w (c' ++ L)) ?_ (m := xs.length) ⟨0, [], rfl, rfl, rfl, TS.nil, H⟩
  clear H
  rintro m k _ x3 _ w ⟨i, c', rfl, rfl, hm, hT, H⟩ hk
  unfold F44_b1
  refine pv_of (lenS_tr h) ?_
  refine lss_k (fun hi => ?_) (fun hi => ?_)
  · (try simp only [W0])
    have hx : xs[i]? = some xs[i] := List.getElem?_eq_getElem (by omega)
    generalize xs[i] = y at hx
    unfold F44_j4
    refine ixF_t (C := cWt) (f := 0) (v := I y.th) h H (fun c hc => List.mem_append_right _ (m1 c hc)) hx rfl ?_
    refine app1_t (C := cI) (x := y.th) (F := L) elIntC H hT Split.here rfl (by decide) (by simp; omega) (by simp; omega) fun w s' c2 H h2 => ?_
    refine add_k (z := ((i + 1 : Nat) : Int)) (by omega) (by omega) (by omega) ?_
    refine hk (m - 1) _ _ _ _ (by omega) ⟨i + 1, c2, rfl, rfl, by omega, ?_, H⟩
    rw [List.take_add_one, hx, List.map_append]; exact h2
  · (try simp only [W0])
    unfold F44_j1
    rw [List.take_of_length_le (by omega)] at hT
    exact ⟨x3, c', rfl, hT, H⟩
theorem rnow_spec (H : Hp w0 w (r.mem rb sm ss sr cm cs cr F)) : Calls Pg 14 ⟨[ptr rb 0]⟩ w fun e w' => e = .returned (I r.now) ∧ Hp w0 w' (r.mem rb sm ss sr cm cs cr F) := by
  apply F14_calls
  unfold F14
  (try simp only [W0])
  unfold RQ.mem at H
  refine ld_m H Has.here (o := 5) (v := I r.now) rfl ?_
  exact ⟨(by first | rfl | trivial), H⟩
theorem rsenders_spec (h : RAt w0 D r sm ss sr cm cs cr) (H : Hp w0 w (r.mem rb sm ss sr cm cs cr F)) : Calls Pg 16 ⟨[ptr rb 0]⟩ w fun e w' => ∃ s' c', e = .returned s' ∧ TS cI 3 s' (r.sn.map Wt.th) c' ∧ Hp w0 w' (c' ++ r.mem rb sm ss sr cm cs cr F) := by
  have ls := h.ls
  apply F16_calls
  unfold F16
  (try simp only [W0])
  unfold RQ.mem at H
  refine ld_m H Has.here (o := 3) (v := ss) rfl ?_
  refine cal_h (rthreads_spec h.s.tr (fun c hc => List.mem_cons_of_mem _ (List.mem_append_right _ (List.mem_append_left _ hc))) (by omega) H) ?_
  rintro _ w ⟨s1, c1, rfl, h1, H⟩
  exact ⟨s1, c1, (by first | rfl | trivial), h1, H⟩
theorem rreceivers_spec (h : RAt w0 D r sm ss sr cm cs cr) (H : Hp w0 w (r.mem rb sm ss sr cm cs cr F)) : Calls Pg 17 ⟨[ptr rb 0]⟩ w fun e w' => ∃ s' c', e = .returned s' ∧ TS cI 3 s' (r.rc.map Wt.th) c' ∧ Hp w0 w' (c' ++ r.mem rb sm ss sr cm cs cr F) := by
  have lr := h.lr
  apply F17_calls
  unfold F17
  (try simp only [W0])
  unfold RQ.mem at H
  refine ld_m H Has.here (o := 4) (v := sr) rfl ?_
  refine cal_h (rthreads_spec h.q.tr (fun c hc => List.mem_cons_of_mem _ (List.mem_append_right _ (List.mem_append_right _ (List.mem_append_left _ hc)))) (by omega) H) ?_
  rintro _ w ⟨s1, c1, rfl, h1, H⟩
  exact ⟨s1, c1, (by first | rfl | trivial), h1, H⟩
end
end Go.Proofs.YthcekppbbanfeaaGreat.Den
