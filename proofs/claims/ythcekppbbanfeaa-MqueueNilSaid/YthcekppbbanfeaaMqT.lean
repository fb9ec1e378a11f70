/- Message queue: the law Nil, walked. Conditions: none. -/
import Derived.Test.YthcekppbbanfeaaMqS
import Derived.Test.YthcekppbbanfeaaMqAc
set_option linter.unusedVariables false
set_option linter.unusedSimpArgs false
set_option maxRecDepth 8000
set_option maxHeartbeats 2000000
namespace Go.Proofs.Ythcekppbbanfeaa.Den
open Go Go.RowKit
theorem elErr : ElT 62 24 cI.sz 8 [I 0] := ⟨by kernel_rfl, by kernel_rfl, rfl⟩
section
variable {w w' w0 : World} {L L' F cs cs2 A X Y cm cr D : List Chunk} {s s2 sm sr ss : Value} {K : VK} {R : ER} {b i j qb : Nat} {q : Q25} {m : Ms} {th dl now : Int} {wait : Bool}
theorem sendN_spec {vs : List Value} (H : Hp w0 w L) : Calls Pg 10 ⟨[.pointer none, I th, .agg ⟨vs⟩, .bool wait, I dl]⟩ w fun e w' => e = .returned (.tuple ⟨[.bool false, .slice none 0 0, .slice none 0 0, I 35]⟩) ∧ Hp w0 w' L := by
  apply F10_calls
  unfold F10
  refine bx_m (vs := vs) H fun w b1 H => ?_
  unfold F10_j8
  (try simp only [W0])
  unfold F10_j9
  (try simp only [W0])
  exact ⟨(by first | rfl | trivial), H.tail⟩
theorem recvN_spec (H : Hp w0 w L) : Calls Pg 11 ⟨[.pointer none, I th, .bool wait, I dl]⟩ w fun e w' => e = .returned (.tuple ⟨[.agg ⟨[I 0, .slice none 0 0]⟩, .bool false, .slice none 0 0, .slice none 0 0, I 35]⟩) ∧ Hp w0 w' L := by
  apply F11_calls
  unfold F11
  refine al_m (ys := [I 0, .slice none 0 0]) H (by kernel_rfl) fun w b8 H => ?_
  unfold F11_j10
  (try simp only [W0])
  unfold F11_j11
  (try simp only [W0])
  refine bld_a ?_
  refine stA_m (vs := [.int .i64 0, .slice none 0 0]) H Upd.here rfl rfl (by intro c hc; simp at hc; rcases hc with rfl | rfl <;> rfl) fun w H => ?_
  refine ldA_m (l := [.int .i64 0, .slice none 0 0]) H Has.here rfl ?_
  exact ⟨(by first | rfl | trivial), H.tail⟩
theorem cancelN_spec (H : Hp w0 w L) : Calls Pg 18 ⟨[.pointer none, I th]⟩ w fun e w' => e = .returned (.tuple ⟨[.slice none 0 0, .slice none 0 0, I 35]⟩) ∧ Hp w0 w' L := by
  apply F18_calls
  unfold F18
  (try simp only [W0])
  exact ⟨(by first | rfl | trivial), H⟩
theorem advN_spec (H : Hp w0 w L) : Calls Pg 15 ⟨[.pointer none, I th]⟩ w fun e w' => e = .returned (.tuple ⟨[.slice none 0 0, .slice none 0 0, I 35]⟩) ∧ Hp w0 w' L := by
  apply F15_calls
  unfold F15 F15_j14
  (try simp only [W0])
  unfold F15_j15
  (try simp only [W0])
  exact ⟨(by first | rfl | trivial), H⟩
theorem registerN_spec {vs : List Value} (H : Hp w0 w L) : Calls Pg 19 ⟨[.pointer none, .agg ⟨vs⟩]⟩ w fun e w' => e = .returned (I 35) ∧ Hp w0 w' L := by
  apply F19_calls
  unfold F19
  refine bx_m (vs := vs) H fun w b1 H => ?_
  (try simp only [W0])
  exact ⟨(by first | rfl | trivial), H.tail⟩
theorem unregisterN_spec (H : Hp w0 w L) : Calls Pg 20 ⟨[.pointer none, I th]⟩ w fun e w' => e = .returned (I 35) ∧ Hp w0 w' L := by
  apply F20_calls
  unfold F20
  (try simp only [W0])
  exact ⟨(by first | rfl | trivial), H⟩
theorem nowN_spec (H : Hp w0 w L) : Calls Pg 21 ⟨[.pointer none]⟩ w fun e w' => e = .returned (I 0) ∧ Hp w0 w' L := by
  apply F21_calls
  unfold F21
  (try simp only [W0])
  exact ⟨(by first | rfl | trivial), H⟩
theorem qSendersN_spec (H : Hp w0 w L) : Calls Pg 16 ⟨[.pointer none]⟩ w fun e w' => e = .returned (.slice none 0 0) ∧ Hp w0 w' L := by
  apply F16_calls
  unfold F16
  (try simp only [W0])
  exact ⟨(by first | rfl | trivial), H⟩
theorem qReceiversN_spec (H : Hp w0 w L) : Calls Pg 17 ⟨[.pointer none]⟩ w fun e w' => e = .returned (.slice none 0 0) ∧ Hp w0 w' L := by
  apply F17_calls
  unfold F17
  (try simp only [W0])
  exact ⟨(by first | rfl | trivial), H⟩
theorem qMessagesN_spec (H : Hp w0 w L) : Calls Pg 22 ⟨[.pointer none]⟩ w fun e w' => e = .returned (.slice none 0 0) ∧ Hp w0 w' L := by
  apply F22_calls
  unfold F22
  (try simp only [W0])
  exact ⟨(by first | rfl | trivial), H⟩
theorem idfErr_spec {xs : List Int} (hx : ∀ x ∈ xs, x = 35) (h : TR cI w0 cs s xs) (m1 : ∀ c ∈ cs, c ∈ L) (hn : xs.length ≤ 2 ^ 20) (H : Hp w0 w L) : Calls Pg 46 ⟨[s, .func (.func 24) ⟨[]⟩ ⟨[]⟩]⟩ w fun e w' => e = .returned (I (-1)) ∧ Hp w0 w' L := by
  generalize hQ : (fun (e : Ending) (w' : World) => e = .returned (I (-1)) ∧ Hp w0 w' L : ER) = Q
  apply F46_calls
  unfold F46 F46_j2
  refine pv_of (lenS_tr h) ?_
  unfold F46_j3
  refine loop4 (F46_l1_succ _) (fun m x0 x1 x7 x8 w => ∃ i : Nat, s = x0 ∧ x1 = .func (.func 24) ⟨[]⟩ ⟨[]⟩ ∧ x7 = I (xs.length : Int) ∧ x8 = I (i : Int) ∧ m + i = xs.length ∧ Hp w0 w L) ?_ (m := xs.length) ⟨0, rfl, rfl, rfl, rfl, rfl, H⟩
  clear H
  rintro m k _ _ _ _ w ⟨i, rfl, rfl, rfl, rfl, hm, H⟩ hk
  unfold F46_b1
  refine lss_k (fun hi => ?_) (fun hi => ?_)
  · (try simp only [W0])
    have hxx : xs[i]? = some xs[i] := List.getElem?_eq_getElem (by omega)
    have h35 := hx xs[i] (List.getElem_mem _)
    rw [h35] at hxx
    unfold F46_j4
    refine ix1_t (C := cI) h H m1 hxx rfl rfl ?_
    refine calD_k (a := []) (by kernel_rfl) ?_
    refine cal_h (Q := fun e w' => e = .returned (.bool false) ∧ Hp w0 w' L) ?_ ?_
    · apply F24_calls
      unfold F24
      refine neq_n (by decide) ?_
      exact ⟨(by first | rfl | trivial), H⟩
    rintro _ w ⟨rfl, H⟩
    (try simp only [W0])
    refine add_k (z := ((i + 1 : Nat) : Int)) (by omega) (by omega) (by omega) ?_
    exact hk (m - 1) _ _ _ _ _ (by omega) ⟨i + 1, rfl, rfl, rfl, rfl, by omega, H⟩
  · (try simp only [W0])
    unfold F46_j1
    subst hQ
    exact ⟨rfl, H⟩
theorem nil25_law {a : Ac} (H : Hp w0 w []) : Calls Pg 6 ⟨[.agg ⟨a.enc⟩]⟩ w fun e w' => e = .returned (.bool true) ∧ Hp w0 w' [] := by
  have hfin : ∀ w, Ext [] w0 w → (Ending.returned (.bool true) = .returned (.bool true) ∧ Hp w0 w []) := fun w h => ⟨rfl, ⟨h, by simp, by simp⟩⟩
  apply F6_calls
  unfold F6
  refine bx_m (vs := a.enc) H fun w b1 H => ?_
  (try simp only [W0])
  refine ld_m H Has.here (o := 1) (v := I a.th) rfl ?_
  (try simp only [W0])
  refine ld_m H Has.here (o := 2) (v := I a.pri) rfl ?_
  (try simp only [W0])
  refine ld_m H Has.here (o := 3) (v := a.sh.val) rfl ?_
  have hsc : scalar a.sh.val = true := rfl
  refine bld_a ?_
  (try simp only [W0])
  refine ld_m H Has.here (o := 4) (v := .bool a.wait) rfl ?_
  (try simp only [W0])
  refine ld_m H Has.here (o := 5) (v := I a.time) rfl ?_
  refine cal_h (sendN_spec H) ?_
  rintro _ w ⟨rfl, H⟩
  (try simp only [W0])
  refine ld_m H Has.here (o := 1) (v := I a.th) rfl ?_
  (try simp only [W0])
  refine ld_m H Has.here (o := 4) (v := .bool a.wait) rfl ?_
  (try simp only [W0])
  refine ld_m H Has.here (o := 5) (v := I a.time) rfl ?_
  refine cal_h (recvN_spec H) ?_
  rintro _ w ⟨rfl, H⟩
  (try simp only [W0])
  refine al_m (ys := [I 0, .slice none 0 0]) H (by kernel_rfl) fun w b2 H => ?_
  refine stA_m (vs := [I 0, .slice none 0 0]) H Upd.here rfl rfl (by intro c hc; simp at hc; rcases hc with rfl | rfl <;> rfl) fun w H => ?_
  (try simp only [W0])
  refine ld_m H (Has.cons Has.here) (o := 1) (v := I a.th) rfl ?_
  refine cal_h (cancelN_spec H) ?_
  rintro _ w ⟨rfl, H⟩
  (try simp only [W0])
  refine ld_m H (Has.cons Has.here) (o := 5) (v := I a.time) rfl ?_
  refine cal_h (advN_spec H) ?_
  rintro _ w ⟨rfl, H⟩
  (try simp only [W0])
  refine drew_k H fun w H => ?_
  have c1 : w.cell? ⟨b1, 1, none⟩ = some (I a.th) := H.cellM (t := 56) (Has.cons Has.here) rfl
  refine ld_m H (Has.cons Has.here) (o := 1) (v := I a.th) rfl ?_
  (try simp only [W0])
  refine ldP_m (ys := [I a.ki, I a.co, I a.pr, I a.cd, I a.va]) H (Has.cons Has.here) (o := 6) (by simp [Ac.enc]) rfl ?_
  refine bld_a ?_
  (try simp only [W0])
  refine cal_h (registerN_spec H) ?_
  rintro _ w ⟨rfl, H⟩
  (try simp only [W0])
  refine ldS_m H (Has.cons Has.here) (o := 1) (v := I a.th) rfl (by intro z hz; rw [List.mem_singleton.1 hz]; exact c1) ?_
  refine cal_h (unregisterN_spec H) ?_
  rintro _ w ⟨rfl, H⟩
  (try simp only [W0])
  refine lit_t (C := cI) [35, 35, 35, 35, 35, 35] elErr H rfl (by decide) (by decide) rfl fun w s9 c9 H h9 => ?_
  refine cal_h (awake_spec H) ?_
  rintro _ w ⟨rfl, H⟩
  (try simp only [W0])
  refine cal_h (nowN_spec H) ?_
  rintro _ w ⟨rfl, H⟩
  (try simp only [W0])
  refine eql_y rfl ?_
  (try simp only [W0])
  refine cal_h (qMessagesN_spec H) ?_
  rintro _ w ⟨rfl, H⟩
  (try simp only [W0])
  refine cal_h (qSendersN_spec H) ?_
  rintro _ w ⟨rfl, H⟩
  (try simp only [W0])
  refine add_k (z := 0) (by decide) (by decide) (by decide) ?_
  (try simp only [W0])
  refine cal_h (qReceiversN_spec H) ?_
  rintro _ w ⟨rfl, H⟩
  (try simp only [W0])
  refine add_k (z := 0) (by decide) (by decide) (by decide) ?_
  (try simp only [W0])
  refine eql_y rfl ?_
  (try simp only [W0])
  refine cal_h (Q := fun e w' => e = .returned (.bool false) ∧ Ext [] w0 w') ?_ ?_
  · apply F23_calls
    unfold F23
    refine cal_h (idfErr_spec (by simp) h9.tr (fun c hc => List.mem_append_left _ hc) (by simp) H) ?_
    rintro _ w ⟨rfl, H⟩
    (try simp only [W0])
    refine geq_n (by decide) ?_
    exact ⟨(by first | rfl | trivial), H.ext⟩
  rintro _ w ⟨rfl, H⟩
  (try simp only [W0])
  exact ⟨trivial, H, by simp, by simp⟩
end
end Go.Proofs.Ythcekppbbanfeaa.Den
