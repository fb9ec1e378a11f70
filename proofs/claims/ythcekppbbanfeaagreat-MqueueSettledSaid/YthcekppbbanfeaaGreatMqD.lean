/- Message queue: the queue as plain data; small functions. Conditions: none. -/
import Derived.Test.YthcekppbbanfeaaGreatMqC
set_option linter.unusedVariables false
set_option linter.unusedSimpArgs false
set_option maxRecDepth 8000
set_option maxHeartbeats 1000000
namespace Go.Proofs.YthcekppbbanfeaaGreat.Den
open Go Go.RowKit
abbrev zvS : List Value := [I 0, I 0, I 0, .slice none 0 0]
abbrev zvR : List Value := [I 0, I 0]
/-- A message's bytes are readable. -/
def MsOK (w0 : World) (D : List Chunk) (m : Ms) : Prop := TR cB w0 D m.sh.val m.bs ∧ m.bs.length ≤ 2 ^ 20
theorem MsOK.mono {w0 : World} {D D' : List Chunk} {m : Ms} (h : MsOK w0 D m) (hs : ∀ c ∈ D, c ∈ D') : MsOK w0 D' m := ⟨h.1.mono hs, h.2⟩
/-- A notice: owner and event. -/
structure Nc where
  ow : Int
  ki : Int
  co : Int
  pr : Int
  cd : Int
  va : Int
def Nc.enc (c : Nc) : List Value := [I c.ow, I c.ki, I c.co, I c.pr, I c.cd, I c.va]
def cNc : Cod Nc := ⟨6, Nc.enc, fun _ => rfl, by intro a c hc; simp only [Nc.enc, List.mem_cons, List.not_mem_nil, or_false] at hc; rcases hc with rfl | rfl | rfl | rfl | rfl | rfl <;> rfl⟩
/-- How a blocked call ended. -/
structure En where
  th : Int
  m : Ms
  err : Int
def En.enc (c : En) : List Value := [I c.th, I c.m.pri, c.m.sh.val, I c.err]
def cEn : Cod En := ⟨4, En.enc, fun _ => rfl, by intro a c hc; simp only [En.enc, List.mem_cons, List.not_mem_nil, or_false] at hc; rcases hc with rfl | rfl | rfl | rfl <;> rfl⟩
theorem elNc : ElT 66 92 cNc.sz 48 [I 0, I 0, I 0, I 0, I 0, I 0] := ⟨by kernel_rfl, by kernel_rfl, rfl⟩
theorem elEn : ElT 65 119 cEn.sz 48 [I 0, I 0, .slice none 0 0, I 0] := ⟨by kernel_rfl, by kernel_rfl, rfl⟩
structure Q25 where
  ms : List Kp
  max : Int
  size : Int
  num : Int
  now : Int
  rc : List Rw
  sn : List Sw
  nt : Option (Nat × Nc)
def npv (o : Option (Nat × Nc)) : Value := .pointer (o.map fun b => ⟨b.1, 0, none⟩)
/-- The queue's own cells behind the messages. -/
def Q25.rest (q : Q25) (sr ss : Value) : List Value := [I q.max, I q.size, I q.num, I q.now, sr, ss, npv q.nt]
def Q25.mem (qb : Nat) (sm sr ss : Value) (cm cr cs : List Chunk) (q : Q25) (F : List Chunk) : List Chunk := ⟨qb, .t 62, sm :: q.rest sr ss⟩ :: (cm ++ (cr ++ (cs ++ F)))
structure QAt (w0 : World) (D : List Chunk) (q : Q25) (sm sr ss : Value) (cm cr cs : List Chunk) : Prop where
  m : TS cKp 97 sm q.ms cm
  r : TS cRw 115 sr q.rc cr
  s : TS cSw 113 ss q.sn cs
  dm : ∀ k ∈ q.ms, MsOK w0 D k.m
  ds : ∀ k ∈ q.sn, MsOK w0 D k.m
  n : ∀ x, q.nt = some x → Has D x.1 (.t 92) x.2.enc
  lm : q.ms.length ≤ 64
  lr : q.rc.length ≤ 64
  ls : q.sn.length ≤ 64
def validT (th dl : Int) : Bool := ((decide (0 ≤ th) && decide (th < 256)) && decide (0 ≤ dl)) && decide (dl ≤ 1099511627776)
def blockE (q : Q25) (wait : Bool) (dl n : Int) : Int := if wait = false then 2 else if dl ≠ 0 ∧ dl ≤ q.now then 37 else if 64 ≤ n then 18 else 0
def Q25.blocked (q : Q25) (th : Int) : Bool := decide (th ∈ q.sn.map Sw.th) || decide (th ∈ q.rc.map Rw.th)
section
variable {w w' w0 : World} {L L' F cs cs2 A X Y cm cr D : List Chunk} {s s2 sm sr ss : Value} {K : VK} {R : ER} {b i j qb : Nat} {q : Q25} {m : Ms} {th dl : Int}
theorem copied_spec (hm : MsOK w0 D m) (hD : ∀ c ∈ D, c ∈ L) (H : Hp w0 w L) :
    Calls Pg 41 ⟨[.agg ⟨m.enc⟩]⟩ w fun e w' => ∃ (sh : Sh) (D' : List Chunk), e = .returned (.agg ⟨({ m with sh := sh } : Ms).enc⟩) ∧ MsOK w0 D' { m with sh := sh } ∧ Hp w0 w' (D' ++ L) := by
  obtain ⟨h1, h2⟩ := hm
  apply F41_calls
  unfold F41
  refine bx_m (vs := m.enc) H fun w b1 H => ?_
  refine al_m (ys := [I 0, .slice none 0 0]) H (by kernel_rfl) fun w b2 H => ?_
  (try simp only [W0])
  refine ld_m H (Has.cons Has.here) (o := 1) (v := m.sh.val) rfl ?_
  refine append_t (C := cB) (F := ⟨b2, .t 43, [I 0, .slice none 0 0]⟩ :: ⟨b1, .t 43, m.enc⟩ :: L) elB H TS.nil Split.nil h1 (fun c hc => List.mem_cons_of_mem _ (List.mem_cons_of_mem _ (hD c hc))) (by simp; omega) (by simp; omega) fun w s' c' H h' => ?_
  rw [List.nil_append] at h'
  obtain ⟨k, rfl⟩ := h'.sh
  (try simp only [W0])
  refine st_m (o := 1) H (Upd.app (Upd.cons Upd.here)) (by simp [Ms.enc]) rfl fun w H => ?_
  replace H : Hp w0 w (c' ++ (⟨b2, .t 43, [I 0, .slice none 0 0]⟩ :: ⟨b1, .t 43, ({ m with sh := k } : Ms).enc⟩ :: L)) := H
  refine ldA_m (l := ({ m with sh := k } : Ms).enc) H (Has.app (Has.cons Has.here)) rfl ?_
  refine stA_m (vs := ({ m with sh := k } : Ms).enc) H (Upd.app Upd.here) rfl rfl (cMs.sc _) fun w H => ?_
  refine ldA_m (l := ({ m with sh := k } : Ms).enc) H (Has.app Has.here) rfl ?_
  refine ⟨k, c', (by first | rfl | trivial), ⟨h'.tr, h2⟩, H.to fun q => ?_⟩
  simp only [List.map_append, List.map_cons, List.sum_append, List.sum_cons]; omega
theorem and_k {a b : Bool} {K : VK} (g : K (.bool (a && b)) w) : pv (pickO (.bool a) (.bool b) (.bool false)) K w := by
  cases a with
  | true => (try simp only [W0]); exact g
  | false => (try simp only [W0]); exact g
theorem valid_spec (H : Hp w0 w L) : Calls Pg 48 ⟨[I th, I dl]⟩ w fun e w' => e = .returned (.bool (validT th dl)) ∧ Hp w0 w' L := by
  unfold validT
  apply F48_calls
  unfold F48
  have stp : ∀ {a : Bool} {x y : Int} {o : BinOp} {p : Bool} {G : VK}, bin o (I x) (I y) = some (.bool p) → (G (.bool (a && p)) w) → gd (.bool a) true (pv (some (I x))) (fun v => gd (.bool a) true (pv (bin o v (I y))) fun v2 => pv (pickO (.bool a) v2 (.bool false)) G) w := by
    intro a x y o p G h g
    cases a with
    | true => (try simp only [W0]); rw [h]; (try simp only [W0]); exact g
    | false => (try simp only [W0]); exact g
  rw [bin_geq, pv_some]
  refine stp (bin_lss ..) ?_
  refine stp (bin_geq ..) ?_
  refine stp (bin_leq ..) ?_
  exact ⟨(by first | rfl | trivial), H⟩
theorem block_spec {wait : Bool} {n : Int} {l : List Value} (hm : Has L qb (.t 62) l) (hl : l[4]? = some (I q.now)) (H : Hp w0 w L) : Calls Pg 52 ⟨[ptr qb 0, .bool wait, I dl, I n]⟩ w fun e w' => e = .returned (I (blockE q wait dl n)) ∧ Hp w0 w' L := by
  apply F52_calls
  unfold F52 blockE
  (try simp only [W0])
  cases wait with
  | false => (try simp only [W0]); exact ⟨(by first | rfl | trivial), H⟩
  | true =>
    (try simp only [W0])
    have fin : ∀ w, Hp w0 w L → ¬ (dl ≠ 0 ∧ dl ≤ q.now) → pv (bin .geq (I n) (.int .i64 64)) (fun v10 => cnd v10 (fun w => (Ending.returned (.int .i64 18) = .returned (I (if true = false then 2 else if dl ≠ 0 ∧ dl ≤ q.now then 37 else if 64 ≤ n then 18 else 0)) ∧ Hp w0 w L)) (fun w => (Ending.returned (.int .i64 0) = .returned (I (if true = false then 2 else if dl ≠ 0 ∧ dl ≤ q.now then 37 else if 64 ≤ n then 18 else 0)) ∧ Hp w0 w L))) w := by
      intro w H hn
      refine geq_k (fun h => ?_) (fun h => ?_)
      · (try simp only [cnd_true])
        exact ⟨by rw [if_neg (by simp), if_neg hn, if_pos h], H⟩
      · (try simp only [cnd_false])
        exact ⟨by rw [if_neg (by simp), if_neg hn, if_neg h], H⟩
    refine neq_k (fun h => ?_) (fun h => ?_)
    · (try simp only [W0])
      refine ld_m H hm (o := 4) hl ?_
      refine leq_k (fun h2 => ?_) (fun h2 => ?_)
      · (try simp only [W0])
        exact ⟨by rw [if_neg (by simp), if_pos ⟨h, h2⟩], H⟩
      · (try simp only [W0])
        exact fin w H (fun h3 => h2 h3.2)
    · (try simp only [W0])
      exact fin w H (fun h3 => h3.1 h)
theorem thS_spec {xs : List Sw} {o : Nat} {l : List Value} (hm : Has L qb (.t 62) l) (hl : l[o]? = some s) (hx : TR cSw w0 cs s xs) (hs : ∀ c ∈ cs, c ∈ L) (hn : xs.length ≤ 2 ^ 20) (H : Hp w0 w L) :
    Calls Pg 43 ⟨[ptr qb o]⟩ w fun e w' => ∃ s' c', e = .returned s' ∧ TS cI 3 s' (xs.map Sw.th) c' ∧ Hp w0 w' (c' ++ L) := by
  have hsc : scalar s = true := hx.sc
  apply F43_calls
  unfold F43 F43_j2
  (try simp only [W0])
  refine ld_m H hm (o := o) hl ?_
  refine pv_of (lenS_tr hx) ?_
  unfold F43_j3
  refine loop4 (F43_l1_succ _) (fun m x3 x9 x10 x11 w => ∃ (i : Nat) (c' : List Chunk), s = x9 ∧ x10 = I (xs.length : Int) ∧ x11 = I (i : Int) ∧ m + i = xs.length ∧ TS cI 3 x3 ((xs.take i).map Sw.th) c' ∧ Hp w0 w (c' ++ L)) ?_ (m := xs.length) ⟨0, [], rfl, rfl, rfl, rfl, TS.nil, H⟩
  clear H
  rintro m k x3 _ _ _ w ⟨i, c', rfl, rfl, rfl, hmi, hT, H⟩ hk
  unfold F43_b1
  refine lss_k (fun hi => ?_) (fun hi => ?_)
  · (try simp only [W0])
    have hxx : xs[i]? = some xs[i] := List.getElem?_eq_getElem (by omega)
    generalize xs[i] = y at hxx
    unfold F43_j4
    refine ixN_t (C := cSw) hx H (fun c hc => List.mem_append_right _ (hs c hc)) hxx (by decide) ?_
    refine al_m (ys := zvS) H (by kernel_rfl) fun w b6 H => ?_
    refine stA_m (vs := y.enc) H Upd.here rfl rfl (cSw.sc y) fun w H => ?_
    (try simp only [W0])
    refine ld_m H Has.here (o := 0) (v := I y.th) rfl ?_
    refine app1_t (C := cI) (x := y.th) (F := ⟨b6, .t 113, y.enc⟩ :: L) elIntC H hT (Split.cons Split.here) rfl (by decide) (by simp; omega) (by simp; omega) fun w s' c2 H h2 => ?_
    refine add_k (z := ((i + 1 : Nat) : Int)) (by omega) (by omega) (by omega) ?_
    refine hk (m - 1) _ _ _ _ _ (by omega) ⟨i + 1, c2, rfl, rfl, rfl, by omega, ?_, H.to fun q => ?_⟩
    · rw [List.take_add_one, hxx, List.map_append]; exact h2
    · simp only [List.map_append, List.map_cons, List.sum_append, List.sum_cons]; omega
  · (try simp only [W0])
    unfold F43_j1
    rw [List.take_of_length_le (by omega)] at hT
    exact ⟨x3, c', rfl, hT, H⟩
theorem thR_spec {xs : List Rw} {o : Nat} {l : List Value} (hm : Has L qb (.t 62) l) (hl : l[o]? = some s) (hx : TR cRw w0 cs s xs) (hs : ∀ c ∈ cs, c ∈ L) (hn : xs.length ≤ 2 ^ 20) (H : Hp w0 w L) :
    Calls Pg 42 ⟨[ptr qb o]⟩ w fun e w' => ∃ s' c', e = .returned s' ∧ TS cI 3 s' (xs.map Rw.th) c' ∧ Hp w0 w' (c' ++ L) := by
  have hsc : scalar s = true := hx.sc
  apply F42_calls
  unfold F42 F42_j2
  (try simp only [W0])
  refine ld_m H hm (o := o) hl ?_
  refine pv_of (lenS_tr hx) ?_
  unfold F42_j3
  refine loop4 (F42_l1_succ _) (fun m x3 x9 x10 x11 w => ∃ (i : Nat) (c' : List Chunk), s = x9 ∧ x10 = I (xs.length : Int) ∧ x11 = I (i : Int) ∧ m + i = xs.length ∧ TS cI 3 x3 ((xs.take i).map Rw.th) c' ∧ Hp w0 w (c' ++ L)) ?_ (m := xs.length) ⟨0, [], rfl, rfl, rfl, rfl, TS.nil, H⟩
  clear H
  rintro m k x3 _ _ _ w ⟨i, c', rfl, rfl, rfl, hmi, hT, H⟩ hk
  unfold F42_b1
  refine lss_k (fun hi => ?_) (fun hi => ?_)
  · (try simp only [W0])
    have hxx : xs[i]? = some xs[i] := List.getElem?_eq_getElem (by omega)
    generalize xs[i] = y at hxx
    unfold F42_j4
    refine ixN_t (C := cRw) hx H (fun c hc => List.mem_append_right _ (hs c hc)) hxx (by decide) ?_
    refine al_m (ys := zvR) H (by kernel_rfl) fun w b6 H => ?_
    refine stA_m (vs := y.enc) H Upd.here rfl rfl (cRw.sc y) fun w H => ?_
    (try simp only [W0])
    refine ld_m H Has.here (o := 0) (v := I y.th) rfl ?_
    refine app1_t (C := cI) (x := y.th) (F := ⟨b6, .t 115, y.enc⟩ :: L) elIntC H hT (Split.cons Split.here) rfl (by decide) (by simp; omega) (by simp; omega) fun w s' c2 H h2 => ?_
    refine add_k (z := ((i + 1 : Nat) : Int)) (by omega) (by omega) (by omega) ?_
    refine hk (m - 1) _ _ _ _ _ (by omega) ⟨i + 1, c2, rfl, rfl, rfl, by omega, ?_, H.to fun q => ?_⟩
    · rw [List.take_add_one, hxx, List.map_append]; exact h2
    · simp only [List.map_append, List.map_cons, List.sum_append, List.sum_cons]; omega
  · (try simp only [W0])
    unfold F42_j1
    rw [List.take_of_length_le (by omega)] at hT
    exact ⟨x3, c', rfl, hT, H⟩
theorem contains_spec {xs : List Int} {x : Int} (h : TR cI w0 cs s xs) (m1 : ∀ c ∈ cs, c ∈ L) (hn : xs.length ≤ 2 ^ 20) (H : Hp w0 w L) : Calls Pg 76 ⟨[s, I x]⟩ w fun e w' => e = .returned (.bool (decide (x ∈ xs))) ∧ Hp w0 w' L := by
  apply F76_calls
  unfold F76
  refine cal_h (Q := fun e w' => (∃ i : Int, e = .returned (I i) ∧ decide (0 ≤ i) = decide (x ∈ xs)) ∧ Hp w0 w' L) ?_ ?_
  · generalize hQ : (fun (e : Ending) (w' : World) => (∃ i : Int, e = .returned (I i) ∧ decide (0 ≤ i) = decide (x ∈ xs)) ∧ Hp w0 w' L : ER) = Q
    apply F100_calls
    unfold F100 F100_j2
    refine pv_of (lenS_tr h) ?_
    unfold F100_j3
    refine loop4 (F100_l1_succ _) (fun m x0 x1 x7 x8 w => ∃ i : Nat, s = x0 ∧ x1 = I x ∧ x7 = I (xs.length : Int) ∧ x8 = I (i : Int) ∧ m + i = xs.length ∧ (∀ y ∈ xs.take i, y ≠ x) ∧ Hp w0 w L) ?_ (m := xs.length) ⟨0, rfl, rfl, rfl, rfl, rfl, by simp, H⟩
    clear H
    rintro m k _ _ _ _ w ⟨i, rfl, rfl, rfl, rfl, hm, hno, H⟩ hk
    unfold F100_b1
    refine lss_k (fun hi => ?_) (fun hi => ?_)
    · (try simp only [W0])
      have hx : xs[i]? = some xs[i] := List.getElem?_eq_getElem (by omega)
      generalize xs[i] = y at hx
      unfold F100_j4
      refine ix1_t (C := cI) h H m1 hx rfl rfl ?_
      refine eql_k (fun he => ?_) (fun he => ?_)
      · (try simp only [W0])
        subst hQ he
        exact ⟨⟨i, rfl, by rw [decide_eq_true (by omega), decide_eq_true (List.mem_of_getElem? hx)]⟩, H⟩
      · (try simp only [W0])
        refine add_k (z := ((i + 1 : Nat) : Int)) (by omega) (by omega) (by omega) ?_
        refine hk (m - 1) _ _ _ _ _ (by omega) ⟨i + 1, rfl, rfl, rfl, rfl, by omega, fun y' hy' => ?_, H⟩
        rw [List.take_add_one, hx] at hy'
        rcases List.mem_append.1 hy' with h1 | h1
        · exact hno y' h1
        · simp at h1; subst h1; exact fun h => he h.symm
    · (try simp only [W0])
      unfold F100_j1
      subst hQ
      rw [List.take_of_length_le (by omega)] at hno
      exact ⟨⟨-1, rfl, by rw [decide_eq_false (by omega), decide_eq_false fun hm => hno x hm rfl]⟩, H⟩
  rintro _ w ⟨⟨i, rfl, hi⟩, H⟩
  (try simp only [W0])
  rw [bin_geq, pv_some, hi]
  exact ⟨(by first | rfl | trivial), H⟩
theorem blocked_spec (hq : QAt w0 D q sm sr ss cm cr cs) (H : Hp w0 w (q.mem qb sm sr ss cm cr cs F)) : Calls Pg 49 ⟨[ptr qb 0, I th]⟩ w fun e w' => e = .returned (.bool (q.blocked th)) ∧ Hp w0 w' (q.mem qb sm sr ss cm cr cs F) := by
  have lr := hq.lr
  have ls := hq.ls
  unfold Q25.blocked
  apply F49_calls
  unfold F49
  (try simp only [W0])
  refine cal_h (thS_spec (o := 6) (l := sm :: q.rest sr ss) Has.here rfl hq.s.tr (fun c hc => List.mem_cons_of_mem _ (List.mem_append_right _ (List.mem_append_right _ (List.mem_append_left _ hc)))) (by omega) H) ?_
  rintro _ w ⟨s1, c1, rfl, h1, H⟩
  (try simp only [W0])
  refine cal_h (contains_spec h1.tr (fun c hc => List.mem_append_left _ hc) (by rw [List.length_map]; omega) H) ?_
  rintro _ w ⟨rfl, H⟩
  replace H := H.right
  (try simp only [ret_k])
  generalize decide (th ∈ q.sn.map Sw.th) = bb
  cases bb with
  | true => (try simp only [W0]); exact ⟨(by first | rfl | trivial), H⟩
  | false =>
    (try simp only [W0])
    refine cal_h (thR_spec (o := 5) (l := sm :: q.rest sr ss) Has.here rfl hq.r.tr (fun c hc => List.mem_cons_of_mem _ (List.mem_append_right _ (List.mem_append_left _ hc))) (by omega) H) ?_
    rintro _ w ⟨s2, c2, rfl, h2, H⟩
    (try simp only [W0])
    refine cal_h (contains_spec h2.tr (fun c hc => List.mem_append_left _ hc) (by rw [List.length_map]; omega) H) ?_
    rintro _ w ⟨rfl, H⟩
    (try simp only [W0])
    exact ⟨(by first | rfl | trivial), H.right⟩
end
end Go.Proofs.YthcekppbbanfeaaGreat.Den
