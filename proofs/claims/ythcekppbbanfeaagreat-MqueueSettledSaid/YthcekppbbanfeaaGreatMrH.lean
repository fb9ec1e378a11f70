/- Message queue: the comparisons of the laws, walked where the sides agree. Conditions: none. -/
import Derived.Test.YthcekppbbanfeaaGreatMrG
import Derived.Test.YthcekppbbanfeaaGreatMqAc
set_option linter.unusedVariables false
set_option linter.unusedSimpArgs false
set_option maxRecDepth 8000
set_option maxHeartbeats 2000000
namespace Go.Proofs.YthcekppbbanfeaaGreat.Den
open Go Go.RowKit
section
variable {w w' w0 : World} {L L' F cs cs2 A X Y cm cr D D2 : List Chunk} {s s2 sm sr ss : Value} {K : VK} {R : ER} {b i j rb : Nat} {r : RQ} {m m2 : Ms} {th dl now : Int} {wait : Bool}
theorem bytesEq_spec {xs : List Int} {cs2 : List Chunk} (h : TR cB w0 cs s xs) (h2 : TR cB w0 cs2 s2 xs) (m1 : ∀ c ∈ cs, c ∈ L) (m2 : ∀ c ∈ cs2, c ∈ L) (H : Hp w0 w L) :
    Calls Pg 46 ⟨[s, s2]⟩ w fun e w' => e = .returned (.bool true) ∧ Hp w0 w' L := by
  apply F46_calls
  unfold F46
  refine conv_str_h undB und8 undS cBsz h H m1 ?_
  refine conv_str_h undB und8 undS cBsz h2 H m2 ?_
  refine pv_of (v := .bool true) (by simp [binS]) ?_
  exact ⟨(by first | rfl | trivial), H⟩
theorem message_spec (h1 : TR cB w0 D m.sh.val m.bs) (h2 : TR cB w0 D2 m2.sh.val m2.bs) (he : m.say = m2.say) (hD : ∀ c ∈ D, c ∈ L) (hD2 : ∀ c ∈ D2, c ∈ L) (H : Hp w0 w L) :
    Calls Pg 20 ⟨[.agg ⟨m.enc⟩, .agg ⟨m2.enc⟩]⟩ w fun e w' => e = .returned (.bool true) ∧ Hp w0 w' L := by
  have hp : m.pri = m2.pri := congrArg Prod.fst he
  have hb : m.bs = m2.bs := congrArg Prod.snd he
  apply F20_calls
  unfold F20
  refine bx_m (vs := m.enc) H fun w b1 H => ?_
  refine bx_m (vs := m2.enc) H fun w b2 H => ?_
  (try simp only [W0])
  refine ld_m H (Has.cons Has.here) (o := 0) (v := I m.pri) rfl ?_
  (try simp only [W0])
  refine ld_m H Has.here (o := 0) (v := I m2.pri) rfl ?_
  refine eql_y hp ?_
  (try simp only [W0])
  refine ld_m H (Has.cons Has.here) (o := 1) (v := m.sh.val) rfl ?_
  (try simp only [W0])
  refine ld_m H Has.here (o := 1) (v := m2.sh.val) rfl ?_
  (try simp only [W0])
  rw [← hb] at h2
  refine cal_h (bytesEq_spec h1 h2 (fun c hc => List.mem_cons_of_mem _ (List.mem_cons_of_mem _ (hD c hc))) (fun c hc => List.mem_cons_of_mem _ (List.mem_cons_of_mem _ (hD2 c hc))) H) ?_
  rintro _ w ⟨rfl, H⟩
  (try simp only [W0])
  exact ⟨(by first | rfl | trivial), H.tail.tail⟩
theorem ends1_spec {x y : En} (h1 : TR cB w0 D x.m.sh.val x.m.bs) (h2 : TR cB w0 D2 y.m.sh.val y.m.bs) (he : x.says = y.says) (hD : ∀ c ∈ D, c ∈ L) (hD2 : ∀ c ∈ D2, c ∈ L) (H : Hp w0 w L) :
    Calls Pg 59 ⟨[.agg ⟨x.enc⟩, .agg ⟨y.enc⟩]⟩ w fun e w' => e = .returned (.bool true) ∧ Hp w0 w' L := by
  unfold En.says at he
  injection he with e1 he
  injection he with e2 e3
  apply F59_calls
  unfold F59
  refine bx_m (vs := x.enc) H fun w b1 H => ?_
  refine bx_m (vs := y.enc) H fun w b2 H => ?_
  (try simp only [W0])
  refine ld_m H (Has.cons Has.here) (o := 0) (v := I x.th) rfl ?_
  (try simp only [W0])
  refine ld_m H Has.here (o := 0) (v := I y.th) rfl ?_
  refine eql_y e1 ?_
  (try simp only [W0])
  refine ld_m H (Has.cons Has.here) (o := 3) (v := I x.err) rfl ?_
  (try simp only [W0])
  refine ld_m H Has.here (o := 3) (v := I y.err) rfl ?_
  refine eql_y e3 ?_
  (try simp only [W0])
  refine ldP_m (ys := x.m.enc) H (Has.cons Has.here) (o := 1) (by simp [En.enc]) rfl ?_
  (try simp only [W0])
  refine ldP_m (ys := y.m.enc) H Has.here (o := 1) (by simp [En.enc]) rfl ?_
  (try simp only [W0])
  refine cal_h (message_spec h1 h2 e2 (fun c hc => List.mem_cons_of_mem _ (List.mem_cons_of_mem _ (hD c hc))) (fun c hc => List.mem_cons_of_mem _ (List.mem_cons_of_mem _ (hD2 c hc))) H) ?_
  rintro _ w ⟨rfl, H⟩
  (try simp only [W0])
  exact ⟨(by first | rfl | trivial), H.tail.tail⟩
theorem notices1_spec {x : Nc} (H : Hp w0 w L) :
    Calls Pg 61 ⟨[.agg ⟨x.enc⟩, .agg ⟨x.enc⟩]⟩ w fun e w' => e = .returned (.bool true) ∧ Hp w0 w' L := by
  apply F61_calls
  unfold F61
  refine bx_m (vs := x.enc) H fun w b1 H => ?_
  refine bx_m (vs := x.enc) H fun w b2 H => ?_
  refine ldA_m (l := x.enc) H (Has.cons Has.here) rfl ?_
  refine ldA_m (l := x.enc) H Has.here rfl ?_
  have e : eqAgg [0, 0, 0, 0, 0, 0] (.agg ⟨x.enc⟩) (.agg ⟨x.enc⟩) = some (.bool true) := by
    simp [eqAgg, eqCells, Nc.enc, eqLeaf, bin]
  refine pv_of e ?_
  exact ⟨(by first | rfl | trivial), H.tail.tail⟩
theorem eqfE_spec {xs ys : List En} {c1 c2 : List Chunk} (h1 : TR cEn w0 c1 s xs) (h2 : TR cEn w0 c2 s2 ys) (hl : xs.length = ys.length) (hn : xs.length ≤ 2 ^ 20) (m1 : ∀ c ∈ c1, c ∈ L) (m2 : ∀ c ∈ c2, c ∈ L)
    (hc : ∀ (i : Nat) (x y : En), xs[i]? = some x → ys[i]? = some y → ∀ w L', (∀ c ∈ L, c ∈ L') → Hp w0 w L' → Calls Pg 59 ⟨[.agg ⟨x.enc⟩, .agg ⟨y.enc⟩]⟩ w fun e w' => e = .returned (.bool true) ∧ Hp w0 w' L') (H : Hp w0 w L) :
    Calls Pg 58 ⟨[s, s2, .func (.func 59) ⟨[]⟩ ⟨[]⟩]⟩ w fun e w' => e = .returned (.bool true) ∧ Hp w0 w' L := by
  generalize hQ : (fun (e : Ending) (w' : World) => e = .returned (.bool true) ∧ Hp w0 w' L : ER) = Q
  apply F58_calls
  unfold F58
  refine pv_of (lenS_tr h1) ?_
  refine pv_of (lenS_tr h2) ?_
  refine neq_n (by omega) ?_
  (try simp only [W0])
  unfold F58_j1 F58_j3
  refine pv_of (lenS_tr h1) ?_
  unfold F58_j4
  refine loop5 (F58_l1_succ _) (fun m x1 x2 x15 x16 x17 w => ∃ i : Nat, x1 = s2 ∧ x2 = .func (.func 59) ⟨[]⟩ ⟨[]⟩ ∧ x15 = s ∧ x16 = I (xs.length : Int) ∧ x17 = I (i : Int) ∧ m + i = xs.length ∧ Hp w0 w L) ?_ (m := xs.length) ⟨0, rfl, rfl, rfl, rfl, rfl, rfl, H⟩
  clear H
  rintro m k s2 _ s _ _ w ⟨i, rfl, rfl, rfl, rfl, rfl, hm, H⟩ hk
  unfold F58_b1
  refine lss_k (fun hi => ?_) (fun hi => ?_)
  · (try simp only [W0])
    have hx : xs[i]? = some xs[i] := List.getElem?_eq_getElem (by omega)
    have hy : ys[i]? = some (ys[i]'(by omega)) := List.getElem?_eq_getElem (by omega)
    have hcl := hc i _ _ hx hy
    generalize xs[i] = x at *
    generalize ys[i]'(by omega) = y at *
    unfold F58_j5
    refine ixN_t (C := cEn) h1 H m1 hx (by decide) ?_
    refine al_m (ys := [I 0, I 0, .slice none 0 0, I 0]) H (by kernel_rfl) fun w b1 H => ?_
    refine stA_m (vs := x.enc) H Upd.here rfl rfl (cEn.sc x) fun w H => ?_
    refine ixN_t (C := cEn) h2 H (fun c hc => List.mem_cons_of_mem _ (m2 c hc)) hy (by decide) ?_
    refine al_m (ys := [I 0, I 0, .slice none 0 0, I 0]) H (by kernel_rfl) fun w b2 H => ?_
    refine stA_m (vs := y.enc) H Upd.here rfl rfl (cEn.sc y) fun w H => ?_
    refine ldA_m (l := x.enc) H (Has.cons Has.here) rfl ?_
    refine ldA_m (l := y.enc) H Has.here rfl ?_
    refine calD_k (a := []) (b := [.agg ⟨x.enc⟩, .agg ⟨y.enc⟩]) (c := []) (by kernel_rfl) ?_
    refine cal_h (hcl w _ (fun c hc => List.mem_cons_of_mem _ (List.mem_cons_of_mem _ hc)) H) ?_
    rintro _ w ⟨rfl, H⟩
    (try simp only [W0])
    refine add_k (z := ((i + 1 : Nat) : Int)) (by omega) (by omega) (by omega) ?_
    exact hk (m - 1) _ _ _ _ _ _ (by omega) ⟨i + 1, rfl, rfl, rfl, rfl, rfl, by omega, H.tail.tail⟩
  · (try simp only [W0])
    unfold F58_j2
    subst hQ
    exact ⟨rfl, H⟩
theorem eqfN_spec {xs ys : List Nc} {c1 c2 : List Chunk} (h1 : TR cNc w0 c1 s xs) (h2 : TR cNc w0 c2 s2 ys) (hl : xs.length = ys.length) (hn : xs.length ≤ 2 ^ 20) (m1 : ∀ c ∈ c1, c ∈ L) (m2 : ∀ c ∈ c2, c ∈ L)
    (hc : ∀ (i : Nat) (x y : Nc), xs[i]? = some x → ys[i]? = some y → ∀ w L', (∀ c ∈ L, c ∈ L') → Hp w0 w L' → Calls Pg 61 ⟨[.agg ⟨x.enc⟩, .agg ⟨y.enc⟩]⟩ w fun e w' => e = .returned (.bool true) ∧ Hp w0 w' L') (H : Hp w0 w L) :
    Calls Pg 60 ⟨[s, s2, .func (.func 61) ⟨[]⟩ ⟨[]⟩]⟩ w fun e w' => e = .returned (.bool true) ∧ Hp w0 w' L := by
  generalize hQ : (fun (e : Ending) (w' : World) => e = .returned (.bool true) ∧ Hp w0 w' L : ER) = Q
  apply F60_calls
  unfold F60
  refine pv_of (lenS_tr h1) ?_
  refine pv_of (lenS_tr h2) ?_
  refine neq_n (by omega) ?_
  (try simp only [W0])
  unfold F60_j1 F60_j3
  refine pv_of (lenS_tr h1) ?_
  unfold F60_j4
  refine loop5 (F60_l1_succ _) (fun m x1 x2 x15 x16 x17 w => ∃ i : Nat, x1 = s2 ∧ x2 = .func (.func 61) ⟨[]⟩ ⟨[]⟩ ∧ x15 = s ∧ x16 = I (xs.length : Int) ∧ x17 = I (i : Int) ∧ m + i = xs.length ∧ Hp w0 w L) ?_ (m := xs.length) ⟨0, rfl, rfl, rfl, rfl, rfl, rfl, H⟩
  clear H
  rintro m k s2 _ s _ _ w ⟨i, rfl, rfl, rfl, rfl, rfl, hm, H⟩ hk
  unfold F60_b1
  refine lss_k (fun hi => ?_) (fun hi => ?_)
  · (try simp only [W0])
    have hx : xs[i]? = some xs[i] := List.getElem?_eq_getElem (by omega)
    have hy : ys[i]? = some (ys[i]'(by omega)) := List.getElem?_eq_getElem (by omega)
    have hcl := hc i _ _ hx hy
    generalize xs[i] = x at *
    generalize ys[i]'(by omega) = y at *
    unfold F60_j5
    refine ixN_t (C := cNc) h1 H m1 hx (by decide) ?_
    refine al_m (ys := [I 0, I 0, I 0, I 0, I 0, I 0]) H (by kernel_rfl) fun w b1 H => ?_
    refine stA_m (vs := x.enc) H Upd.here rfl rfl (cNc.sc x) fun w H => ?_
    refine ixN_t (C := cNc) h2 H (fun c hc => List.mem_cons_of_mem _ (m2 c hc)) hy (by decide) ?_
    refine al_m (ys := [I 0, I 0, I 0, I 0, I 0, I 0]) H (by kernel_rfl) fun w b2 H => ?_
    refine stA_m (vs := y.enc) H Upd.here rfl rfl (cNc.sc y) fun w H => ?_
    refine ldA_m (l := x.enc) H (Has.cons Has.here) rfl ?_
    refine ldA_m (l := y.enc) H Has.here rfl ?_
    refine calD_k (a := []) (b := [.agg ⟨x.enc⟩, .agg ⟨y.enc⟩]) (c := []) (by kernel_rfl) ?_
    refine cal_h (hcl w _ (fun c hc => List.mem_cons_of_mem _ (List.mem_cons_of_mem _ hc)) H) ?_
    rintro _ w ⟨rfl, H⟩
    (try simp only [W0])
    refine add_k (z := ((i + 1 : Nat) : Int)) (by omega) (by omega) (by omega) ?_
    exact hk (m - 1) _ _ _ _ _ _ (by omega) ⟨i + 1, rfl, rfl, rfl, rfl, rfl, by omega, H.tail.tail⟩
  · (try simp only [W0])
    unfold F60_j2
    subst hQ
    exact ⟨rfl, H⟩
theorem eqfM_spec {xs ys : List Ms} {c1 c2 : List Chunk} (h1 : TR cMs w0 c1 s xs) (h2 : TR cMs w0 c2 s2 ys) (hl : xs.length = ys.length) (hn : xs.length ≤ 2 ^ 20) (m1 : ∀ c ∈ c1, c ∈ L) (m2 : ∀ c ∈ c2, c ∈ L)
    (hc : ∀ (i : Nat) (x y : Ms), xs[i]? = some x → ys[i]? = some y → ∀ w L', (∀ c ∈ L, c ∈ L') → Hp w0 w L' → Calls Pg 20 ⟨[.agg ⟨x.enc⟩, .agg ⟨y.enc⟩]⟩ w fun e w' => e = .returned (.bool true) ∧ Hp w0 w' L') (H : Hp w0 w L) :
    Calls Pg 18 ⟨[s, s2, .func (.func 20) ⟨[]⟩ ⟨[]⟩]⟩ w fun e w' => e = .returned (.bool true) ∧ Hp w0 w' L := by
  generalize hQ : (fun (e : Ending) (w' : World) => e = .returned (.bool true) ∧ Hp w0 w' L : ER) = Q
  apply F18_calls
  unfold F18
  refine pv_of (lenS_tr h1) ?_
  refine pv_of (lenS_tr h2) ?_
  refine neq_n (by omega) ?_
  (try simp only [W0])
  unfold F18_j1 F18_j3
  refine pv_of (lenS_tr h1) ?_
  unfold F18_j4
  refine loop5 (F18_l1_succ _) (fun m x1 x2 x15 x16 x17 w => ∃ i : Nat, x1 = s2 ∧ x2 = .func (.func 20) ⟨[]⟩ ⟨[]⟩ ∧ x15 = s ∧ x16 = I (xs.length : Int) ∧ x17 = I (i : Int) ∧ m + i = xs.length ∧ Hp w0 w L) ?_ (m := xs.length) ⟨0, rfl, rfl, rfl, rfl, rfl, rfl, H⟩
  clear H
  rintro m k s2 _ s _ _ w ⟨i, rfl, rfl, rfl, rfl, rfl, hm, H⟩ hk
  unfold F18_b1
  refine lss_k (fun hi => ?_) (fun hi => ?_)
  · (try simp only [W0])
    have hx : xs[i]? = some xs[i] := List.getElem?_eq_getElem (by omega)
    have hy : ys[i]? = some (ys[i]'(by omega)) := List.getElem?_eq_getElem (by omega)
    have hcl := hc i _ _ hx hy
    generalize xs[i] = x at *
    generalize ys[i]'(by omega) = y at *
    unfold F18_j5
    refine ixN_t (C := cMs) h1 H m1 hx (by decide) ?_
    refine al_m (ys := [I 0, .slice none 0 0]) H (by kernel_rfl) fun w b1 H => ?_
    refine stA_m (vs := x.enc) H Upd.here rfl rfl (cMs.sc x) fun w H => ?_
    refine ixN_t (C := cMs) h2 H (fun c hc => List.mem_cons_of_mem _ (m2 c hc)) hy (by decide) ?_
    refine al_m (ys := [I 0, .slice none 0 0]) H (by kernel_rfl) fun w b2 H => ?_
    refine stA_m (vs := y.enc) H Upd.here rfl rfl (cMs.sc y) fun w H => ?_
    refine ldA_m (l := x.enc) H (Has.cons Has.here) rfl ?_
    refine ldA_m (l := y.enc) H Has.here rfl ?_
    refine calD_k (a := []) (b := [.agg ⟨x.enc⟩, .agg ⟨y.enc⟩]) (c := []) (by kernel_rfl) ?_
    refine cal_h (hcl w _ (fun c hc => List.mem_cons_of_mem _ (List.mem_cons_of_mem _ hc)) H) ?_
    rintro _ w ⟨rfl, H⟩
    (try simp only [W0])
    refine add_k (z := ((i + 1 : Nat) : Int)) (by omega) (by omega) (by omega) ?_
    exact hk (m - 1) _ _ _ _ _ _ (by omega) ⟨i + 1, rfl, rfl, rfl, rfl, rfl, by omega, H.tail.tail⟩
  · (try simp only [W0])
    unfold F18_j2
    subst hQ
    exact ⟨rfl, H⟩
theorem map_at {α β γ : Type} {f : α → γ} {g : β → γ} {l : List α} {l' : List β} (h : l.map f = l'.map g) {i : Nat} {x : α} {y : β} (hx : l[i]? = some x) (hy : l'[i]? = some y) : f x = g y := by
  have := congrArg (fun t : List γ => t[i]?) h
  simpa [List.getElem?_map, hx, hy] using this
theorem ends_spec {xs ys : List En} {c1 c2 : List Chunk} (h1 : TS cEn 119 s xs c1) (h2 : TS cEn 127 s2 ys c2) (he : xs.map En.says = ys.map En.says) (hn : xs.length ≤ 2 ^ 20) (o1 : ∀ x ∈ xs, MsOK w0 D x.m) (o2 : ∀ y ∈ ys, MsOK w0 D2 y.m) (m1 : ∀ c ∈ c1, c ∈ L) (m2 : ∀ c ∈ c2, c ∈ L) (hD : ∀ c ∈ D, c ∈ L) (hD2 : ∀ c ∈ D2, c ∈ L) (H : Hp w0 w L) :
    Calls Pg 27 ⟨[s, s2]⟩ w fun e w' => e = .returned (.bool true) ∧ Hp w0 w' L := by
  apply F27_calls
  unfold F27
  refine cal_h (eqfE_spec h1.tr h2.tr (map_len he) hn m1 m2 (fun i x y hx hy w L' hL H => ends1_spec (o1 x (List.mem_of_getElem? hx)).1 (o2 y (List.mem_of_getElem? hy)).1 (map_at he hx hy) (fun c hc => hL c (hD c hc)) (fun c hc => hL c (hD2 c hc)) H) H) ?_
  rintro _ w ⟨rfl, H⟩
  exact ⟨(by first | rfl | trivial), H⟩
theorem notices_spec {xs : List Nc} {c1 c2 : List Chunk} (h1 : TS cNc 92 s xs c1) (h2 : TS cNc 73 s2 xs c2) (hn : xs.length ≤ 2 ^ 20) (m1 : ∀ c ∈ c1, c ∈ L) (m2 : ∀ c ∈ c2, c ∈ L) (H : Hp w0 w L) :
    Calls Pg 28 ⟨[s, s2]⟩ w fun e w' => e = .returned (.bool true) ∧ Hp w0 w' L := by
  apply F28_calls
  unfold F28
  refine cal_h (eqfN_spec h1.tr h2.tr rfl hn m1 m2 (fun i x y hx hy w L' hL H => by
    rw [hx] at hy; injection hy with hy; subst hy
    exact notices1_spec H) H) ?_
  rintro _ w ⟨rfl, H⟩
  exact ⟨(by first | rfl | trivial), H⟩
theorem msgs_spec {xs ys : List Ms} {c1 c2 : List Chunk} (h1 : TS cMs 43 s xs c1) (h2 : TS cMs 49 s2 ys c2) (he : xs.map Ms.say = ys.map Ms.say) (hn : xs.length ≤ 2 ^ 20) (o1 : ∀ x ∈ xs, MsOK w0 D x) (o2 : ∀ y ∈ ys, MsOK w0 D2 y) (m1 : ∀ c ∈ c1, c ∈ L) (m2 : ∀ c ∈ c2, c ∈ L) (hD : ∀ c ∈ D, c ∈ L) (hD2 : ∀ c ∈ D2, c ∈ L) (H : Hp w0 w L) :
    Calls Pg 18 ⟨[s, s2, .func (.func 20) ⟨[]⟩ ⟨[]⟩]⟩ w fun e w' => e = .returned (.bool true) ∧ Hp w0 w' L :=
  eqfM_spec h1.tr h2.tr (map_len he) hn m1 m2 (fun i x y hx hy w L' hL H => message_spec (o1 x (List.mem_of_getElem? hx)).1 (o2 y (List.mem_of_getElem? hy)).1 (map_at he hx hy) (fun c hc => hL c (hD c hc)) (fun c hc => hL c (hD2 c hc)) H) H
theorem equalI_spec {xs : List Int} {c1 c2 : List Chunk} (h1 : TR cI w0 c1 s xs) (h2 : TR cI w0 c2 s2 xs) (hn : xs.length ≤ 2 ^ 20) (m1 : ∀ c ∈ c1, c ∈ L) (m2 : ∀ c ∈ c2, c ∈ L) (H : Hp w0 w L) :
    Calls Pg 15 ⟨[s, s2]⟩ w fun e w' => e = .returned (.bool true) ∧ Hp w0 w' L := by
  generalize hQ : (fun (e : Ending) (w' : World) => e = .returned (.bool true) ∧ Hp w0 w' L : ER) = Q
  apply F15_calls
  unfold F15
  refine pv_of (lenS_tr h1) ?_
  refine pv_of (lenS_tr h2) ?_
  refine neq_n (by simp) ?_
  (try simp only [W0])
  unfold F15_j1 F15_j3
  refine pv_of (lenS_tr h1) ?_
  unfold F15_j4
  refine loop4 (F15_l1_succ _) (fun m x0 x1 x12 x13 w => ∃ i : Nat, x0 = s ∧ x1 = s2 ∧ x12 = I (xs.length : Int) ∧ x13 = I (i : Int) ∧ m + i = xs.length ∧ Hp w0 w L) ?_ (m := xs.length) ⟨0, rfl, rfl, rfl, rfl, rfl, H⟩
  clear H
  rintro m k s s2 _ _ w ⟨i, rfl, rfl, rfl, rfl, hm, H⟩ hk
  unfold F15_b1
  refine lss_k (fun hi => ?_) (fun hi => ?_)
  · (try simp only [W0])
    have hx : xs[i]? = some xs[i] := List.getElem?_eq_getElem (by omega)
    generalize xs[i] = x at *
    unfold F15_j5
    refine drew_k H fun w H => ?_
    refine ix1_t (C := cI) h1 H m1 hx rfl rfl ?_
    refine ix1_t (C := cI) h2 H m2 hx rfl rfl ?_
    refine neq_n (by simp) ?_
    (try simp only [W0])
    refine add_k (z := ((i + 1 : Nat) : Int)) (by omega) (by omega) (by omega) ?_
    exact hk (m - 1) _ _ _ _ _ (by omega) ⟨i + 1, rfl, rfl, rfl, rfl, by omega, H⟩
  · (try simp only [W0])
    unfold F15_j2
    subst hQ
    exact ⟨rfl, H⟩
theorem cloneB_spec {xs : List Int} {c1 : List Chunk} (h : TR cB w0 c1 s xs) (m1 : ∀ c ∈ c1, c ∈ L) (hn : xs.length ≤ 2 ^ 20) (H : Hp w0 w L) : Calls Pg 25 ⟨[s]⟩ w fun e w' => ∃ (sh : Sh) (c' : List Chunk), e = .returned sh.val ∧ TS cB 5 sh.val xs c' ∧ Hp w0 w' (c' ++ L) := by
  apply F25_calls
  unfold F25
  obtain ⟨sh, rfl⟩ := h.sh
  obtain ⟨a, n, c⟩ := sh
  replace h : TR cB w0 c1 (.slice a n c) xs := h
  unfold Sh.val
  simp only
  have hl := lenS_tr h
  rw [lenS_mk] at hl
  have hnl : (n : Int) = (xs.length : Int) := by injection hl with hl; injection hl with _ hl
  cases a with
  | none =>
    (try simp only [W0])
    have hx0 : xs = [] := by
      rcases h with (⟨c, hv, h0, _⟩ | ⟨a, c, hv, hle, _⟩) | ⟨b, o, c, el, l, hv, hle, _⟩
      · have : cB.sz = 1 := rfl
        rw [this, Nat.mul_one] at h0
        exact List.length_eq_zero_iff.1 h0
      · cases hv
      · cases hv
    subst hx0
    exact ⟨⟨none, 0, 0⟩, [], rfl, TS.nil, H⟩
  | some a =>
    (try simp only [W0])
    refine lit0_t (C := cB) elB H fun w s0 H h0 => ?_
    refine append_t (C := cB) (F := L) elB H h0 Split.nil h m1 (by simp; omega) (by simp; omega) fun w s' c' H h' => ?_
    rw [List.nil_append] at h'
    obtain ⟨sh, rfl⟩ := h'.sh
    exact ⟨sh, c', (by first | rfl | trivial), h', H⟩
end
end Go.Proofs.YthcekppbbanfeaaGreat.Den
