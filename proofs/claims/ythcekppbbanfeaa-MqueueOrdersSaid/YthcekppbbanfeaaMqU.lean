/- Message queue: the law Orders, walked. Conditions: none. -/
import Derived.Test.YthcekppbbanfeaaMqR
import Derived.Test.YthcekppbbanfeaaMqNs
set_option linter.unusedVariables false
set_option linter.unusedSimpArgs false
set_option maxRecDepth 8000
set_option maxHeartbeats 4000000
namespace Go.Proofs.Ythcekppbbanfeaa.Den
open Go Go.RowKit
theorem srt_uniq {key : Pr → Int} : ∀ {l1 l2 : List Pr}, Srt key l1 → Srt key l2 → (∀ k, l1.filter (fun x => decide (key x = k)) = l2.filter (fun x => decide (key x = k))) → l1 = l2
  | [], [], _, _, _ => rfl
  | [], b :: l2, _, _, h => by have := h (key b); simp at this
  | a :: l1, [], _, _, h => by have := h (key a); simp at this
  | a :: l1, b :: l2, s1, s2, h => by
    have m1 : a ∈ b :: l2 := by
      have : a ∈ (b :: l2).filter (fun x => decide (key x = key a)) := by rw [← h]; simp
      exact (List.mem_filter.1 this).1
    have m2 : b ∈ a :: l1 := by
      have : b ∈ (a :: l1).filter (fun x => decide (key x = key b)) := by rw [h]; simp
      exact (List.mem_filter.1 this).1
    obtain ⟨p1, t1⟩ := List.pairwise_cons.1 s1
    obtain ⟨p2, t2⟩ := List.pairwise_cons.1 s2
    have e : key a = key b := by
      have h1 : key b ≤ key a := by
        rcases List.mem_cons.1 m1 with e | e
        · rw [e]; exact Int.le_refl _
        · exact p2 a e
      have h2 : key a ≤ key b := by
        rcases List.mem_cons.1 m2 with e | e
        · rw [e]; exact Int.le_refl _
        · exact p1 b e
      omega
    have hk := h (key a)
    rw [List.filter_cons_of_pos (by simp), List.filter_cons_of_pos (by simp [e])] at hk
    injection hk with hab hk
    subst hab
    rw [srt_uniq t1 t2 fun k => ?_]
    by_cases ek : key a = k
    · subst ek; exact hk
    · have := h k
      rwa [List.filter_cons_of_neg (by simp [ek]), List.filter_cons_of_neg (by simp [ek])] at this
def dK (p : Pr) : Int := -clampI p.1
def fK (k : Kp) : Pr := (k.m.pri, k.num - 1)
theorem insK_split {x : Kp} : ∀ {S : List Kp}, S.Pairwise (fun a b => lessK a b = true) → ∃ A B, S = A ++ B ∧ insK x S = A ++ x :: B ∧ ∀ b ∈ B, b.m.pri < x.m.pri
  | [], _ => ⟨[], [], rfl, rfl, by simp⟩
  | a :: S, h => by
    obtain ⟨h1, h2⟩ := List.pairwise_cons.1 h
    unfold insK
    split
    · rename_i hlt
      refine ⟨[], a :: S, rfl, rfl, fun b hb => ?_⟩
      rcases List.mem_cons.1 hb with rfl | hb
      · exact hlt
      · have := h1 b hb
        unfold lessK at this; rw [decide_eq_true_eq] at this; omega
    · obtain ⟨A, B, e1, e2, e3⟩ := insK_split h2
      exact ⟨a :: A, B, by rw [e1]; rfl, by rw [e2]; rfl, e3⟩
theorem srt_map {S : List Kp} (h : S.Pairwise fun a b => lessK a b = true) : Srt dK (S.map fK) := by
  unfold Srt
  rw [List.pairwise_map]
  refine h.imp fun {a b} h => ?_
  unfold lessK at h; rw [decide_eq_true_eq] at h
  have : b.m.pri ≤ a.m.pri := by omega
  unfold dK fK clampI
  simp only
  repeat' split
  all_goals omega
theorem same_ins {x : Kp} {S : List Kp} {want : List Pr} (hx : 0 ≤ x.m.pri ∧ x.m.pri ≤ 31) (hpr : ∀ k ∈ S, 0 ≤ k.m.pri ∧ k.m.pri ≤ 31) (h : S.Pairwise fun a b => lessK a b = true) (hs : Same dK want (S.map fK)) : Same dK (want ++ [fK x]) ((insK x S).map fK) := by
  obtain ⟨A, B, rfl, e2, e3⟩ := insK_split (x := x) h
  rw [e2, List.map_append, List.map_cons]
  refine (hs.app Same.refl).trans ?_
  rw [List.map_append, List.append_assoc]
  refine Same.refl.app (Same.swap fun p hp y hy => ?_)
  obtain ⟨b, hb, rfl⟩ := List.mem_map.1 hp
  rw [List.mem_singleton.1 hy]
  have := e3 b hb
  have hb2 := hpr b (List.mem_append_right _ hb)
  unfold dK fK
  simp only
  rw [clampI_id hx.1 (by omega), clampI_id hb2.1 (by omega)]; omega
/-- A queue with messages alone. -/
structure Plain (q : Q25) (S : List Kp) (n : Int) : Prop where
  ord : Ord q.ms S
  rc : q.rc = []
  sn : q.sn = []
  nt : q.nt = none
  num : q.num = n
  max : q.max = 64
  size : q.size = 8
  le : ∀ k ∈ S, k.num ≤ n
  pr : ∀ k ∈ S, 0 ≤ k.m.pri ∧ k.m.pri ≤ 31
  bs : ∀ k ∈ S, k.m.bs = [k.num - 1]
theorem Plain.send {q : Q25} {S : List Kp} {n : Int} {m : Ms} (h : Plain q S n) (hl : S.length < 64) (hp : 0 ≤ m.pri ∧ m.pri ≤ 31) (hb : m.bs = [n]) :
    ∃ q', q.send 1 m false 0 = ⟨false, [], [], 0, q'⟩ ∧ Plain q' (insK ⟨m, n + 1⟩ S) (n + 1) := by
  have hml : q.ms.length = S.length := h.ord.perm.length_eq
  have e : q.put m = (([], []), { q with num := q.num + 1, ms := pushK q.ms ⟨m, q.num + 1⟩ }) := by unfold Q25.put; rw [h.rc, h.nt]
  have h1 : q.send 1 m false 0 = ⟨false, [], [], 0, { q with num := q.num + 1, ms := pushK q.ms ⟨m, q.num + 1⟩ }⟩ := by
    unfold Q25.send
    have hv : validT 1 0 = true := by decide
    rw [if_neg (by rw [hv]; simp; omega), if_neg (by rw [h.size, hb]; simp), if_neg (by unfold Q25.blocked; rw [h.rc, h.sn]; simp), if_pos (by rw [h.max, hml]; omega), e]
  refine ⟨_, h1, ?_, h.rc, h.sn, h.nt, by show q.num + 1 = n + 1; rw [h.num], h.max, h.size, ?_, ?_, ?_⟩
  · rw [h.num]
    exact h.ord.push fun a ha => by have := h.le a ha; show a.num < n + 1; omega
  · intro k hk
    rcases List.mem_cons.1 ((insK_perm _ _).mem_iff.1 hk) with rfl | hk
    · exact Int.le_refl _
    · have := h.le k hk; omega
  · intro k hk
    rcases List.mem_cons.1 ((insK_perm _ _).mem_iff.1 hk) with rfl | hk
    · exact hp
    · exact h.pr k hk
  · intro k hk
    rcases List.mem_cons.1 ((insK_perm _ _).mem_iff.1 hk) with rfl | hk
    · show m.bs = [n + 1 - 1]; rw [hb]; congr 1; omega
    · exact h.bs k hk
theorem Plain.recv {q : Q25} {a : Kp} {S : List Kp} {n : Int} {cp : Ms → Ms} (h : Plain q (a :: S) n) :
    ∃ q', q.recv 2 false 0 cp = ⟨a.m, ⟨false, [], [], 0, q'⟩⟩ ∧ Plain q' S n := by
  obtain ⟨h1, h2⟩ := h.ord.pop
  have hv : validT 2 0 = true := by decide
  refine ⟨{ q with ms := (popK q.ms).take (q.ms.length - 1) }, ?_, h2, h.rc, h.sn, h.nt, h.num, h.max, h.size, fun k hk => h.le k (by simp [hk]), fun k hk => h.pr k (by simp [hk]), fun k hk => h.bs k (by simp [hk])⟩
  unfold Q25.recv
  rw [if_neg (by rw [hv]; simp), if_neg (by unfold Q25.blocked; rw [h.rc, h.sn]; simp), h1]
  simp only
  rw [h.sn]
theorem Plain.empty {q : Q25} {n : Int} {cp : Ms → Ms} (h : Plain q [] n) : q.recv 2 false 0 cp = ⟨ms0, ⟨false, [], [], 2, q⟩⟩ := by
  have hv : validT 2 0 = true := by decide
  have hms : q.ms = [] := List.perm_nil.1 h.ord.perm
  unfold Q25.recv
  rw [if_neg (by rw [hv]; simp), if_neg (by unfold Q25.blocked; rw [h.rc, h.sn]; simp), hms]
  simp only [List.length_nil]
  rfl
theorem elSent : ElT 41 43 cPr.sz 16 [I 0, I 0] := ⟨by kernel_rfl, by kernel_rfl, rfl⟩
section
variable {w w' w0 : World} {L L' F cs cs2 A X Y cm cr D : List Chunk} {s s2 sm sr ss : Value} {K : VK} {R : ER} {b i j qb : Nat} {q : Q25} {m : Ms} {th dl now : Int} {wait : Bool}
theorem cmpOrd : CmpSent dK 13 := by
  refine ⟨by kernel_rfl, fun x y w0 w L H => ?_⟩
  have hx : 0 ≤ clampI x.1 ∧ clampI x.1 ≤ 1000 := by unfold clampI; repeat' split <;> omega
  have hy : 0 ≤ clampI y.1 ∧ clampI y.1 ≤ 1000 := by unfold clampI; repeat' split <;> omega
  apply F13_calls
  unfold F13
  refine bx_m (vs := cPs.enc x) H fun w b1 H => ?_
  refine bx_m (vs := cPs.enc y) H fun w b2 H => ?_
  (try simp only [W0])
  refine ld_m H Has.here (o := 0) (v := I (clampI y.1)) rfl ?_
  (try simp only [W0])
  refine ld_m H (Has.cons Has.here) (o := 0) (v := I (clampI x.1)) rfl ?_
  refine sub_k (by omega) (by omega) rfl ?_
  exact ⟨_, (by first | rfl | trivial), by unfold dK; omega, H.tail.tail⟩
theorem bytesEq_spec {xs : List Int} {cs2 : List Chunk} (h : TR cB w0 cs s xs) (h2 : TR cB w0 cs2 s2 xs) (m1 : ∀ c ∈ cs, c ∈ L) (m2 : ∀ c ∈ cs2, c ∈ L) (H : Hp w0 w L) :
    Calls Pg 14 ⟨[s, s2]⟩ w fun e w' => e = .returned (.bool true) ∧ Hp w0 w' L := by
  apply F14_calls
  unfold F14
  refine conv_str_h undB und8 undS cBsz h H m1 ?_
  refine conv_str_h undB und8 undS cBsz h2 H m2 ?_
  refine pv_of (v := .bool true) (by simp [binS]) ?_
  exact ⟨(by first | rfl | trivial), H⟩
theorem orders_recv {C : List Pr} {sw : Value} {cw : List Chunk} {n : Int} {S : List Kp} {Q : ER} (hC : TS cPs 43 sw C cw) (hCS : C = S.map fK) (hCl : C.length ≤ 64) (hnum : 0 ≤ n ∧ n ≤ 64) (hp : Plain q S n) (hD : ∀ c ∈ D, c ∈ F) (hq : QAt w0 D q sm sr ss cm cr cs) (hbd : ∀ p ∈ C, 0 ≤ p.2 ∧ p.2 ≤ 255)
    (H : Hp w0 w (cw ++ q.mem qb sm sr ss cm cr cs F)) (g : ∀ w, Ext [] w0 w → Q (.returned (.bool true)) w) : F4_j4 Q (ptr qb 0) sw w := by
  unfold F4_j4
  refine pv_of (lenS_ts hC) ?_
  unfold F4_j5
  refine loop4 (F4_l1_succ _) (fun m x3 x78 x79 x80 w => ∃ (i : Nat) (q : Q25) (D F : List Chunk) (sm sr ss : Value) (cm cr cs : List Chunk), x3 = ptr qb 0 ∧ x78 = sw ∧ x79 = I (C.length : Int) ∧ x80 = I (i : Int) ∧ m + i = C.length ∧ Plain q (S.drop i) n ∧ (∀ c ∈ D, c ∈ F) ∧ QAt w0 D q sm sr ss cm cr cs ∧ Hp w0 w (q.mem qb sm sr ss cm cr cs (cw ++ F))) ?_ (m := C.length)
    ⟨0, q, D, F, sm, sr, ss, cm, cr, cs, rfl, rfl, rfl, rfl, rfl, hp, hD, hq, H.to fun q => by simp only [Q25.mem, List.map_append, List.map_cons, List.sum_append, List.sum_cons]; omega⟩
  clear H hD hq hp
  rintro m k _ _ _ _ w ⟨i, q, D, F, sm, sr, ss, cm, cr, cs, rfl, rfl, rfl, rfl, hm, hp, hD, hq, H⟩ hk
  have hSl : S.length = C.length := by rw [hCS, List.length_map]
  have hD2 : ∀ c ∈ D, c ∈ cw ++ F := fun c hc => List.mem_append_right _ (hD c hc)
  unfold F4_b1
  refine lss_k (fun hi => ?_) (fun hi => ?_)
  · (try simp only [W0])
    have hiS : i < S.length := by omega
    have ed : S.drop i = S[i] :: S.drop (i + 1) := List.drop_eq_getElem_cons hiS
    have hCi : C[i]? = some (fK S[i]) := by rw [hCS, List.getElem?_map, List.getElem?_eq_getElem hiS]; rfl
    rw [ed] at hp
    generalize S[i] = a at *
    have hb := hbd _ (List.mem_of_getElem? hCi)
    have hpr := hp.pr a (by simp)
    have hbs := hp.bs a (by simp)
    have hcl := clampI_id hpr.1 (by omega)
    unfold F4_j6
    refine ixN_t (C := cPs) hC.tr H (fun c hc => mem_F (List.mem_append_left _ hc)) hCi (by decide) ?_
    refine al_m (ys := [I 0, I 0]) H (by kernel_rfl) fun w b1 H => ?_
    refine stA_m (vs := cPs.enc (fK a)) H Upd.here rfl rfl (cPs.sc _) fun w H => ?_
    replace H : Hp w0 w (q.mem qb sm sr ss cm cr cs (cw ++ (⟨b1, .t 43, cPs.enc (fK a)⟩ :: F))) := H.to fun q => by simp only [Q25.mem, List.map_append, List.map_cons, List.sum_append, List.sum_cons]; omega
    refine cal_h (recv_spec (th := 2) (wait := false) (dl := 0) (fun c hc => List.mem_append_right _ (List.mem_cons_of_mem _ (hD c hc))) hq (by rw [hp.max]; decide) (by rw [hp.num]; omega) H) ?_
    rintro _ w ⟨cp, se3, sn3, hcp, hok3, rfl, D3, sm3, sr3, ss3, cm3, cr3, cs3, ce3, cn3, hse3, hsn3, hq3, hes3, H⟩
    obtain ⟨q', e3, hp'⟩ := hp.recv (cp := cp)
    rw [e3] at hse3 hsn3 hq3 H hok3 ⊢
    (try simp only [W0])
    refine al_m (ys := [I 0, .slice none 0 0]) H (by kernel_rfl) fun w b4 H => ?_
    refine stA_m (vs := a.m.enc) H Upd.here rfl rfl (cMs.sc a.m) fun w H => ?_
    have hb1 : Has (⟨b4, .t 30, a.m.enc⟩ :: (ce3 ++ (cn3 ++ q'.mem qb sm3 sr3 ss3 cm3 cr3 cs3 (D3 ++ (cw ++ (⟨b1, .t 43, cPs.enc (fK a)⟩ :: F)))))) b1 (.t 43) (cPs.enc (fK a)) := Has.cons (Has.app (Has.app (Has.cons (Has.app (Has.app (Has.app (Has.app (Has.app Has.here))))))))
    refine neq_n (by decide) ?_
    (try simp only [W0])
    refine ld_m H Has.here (o := 0) (v := I a.m.pri) rfl ?_
    (try simp only [W0])
    refine ld_m H hb1 (o := 0) (v := I (clampI a.m.pri)) rfl ?_
    refine neq_n (by rw [hcl]; simp) ?_
    (try simp only [W0])
    refine ld_m H Has.here (o := 1) (v := a.m.sh.val) rfl ?_
    (try simp only [W0])
    refine ld_m H hb1 (o := 1) (v := I (a.num - 1)) rfl ?_
    refine cv8_a ?_ (by unfold fK at hb; exact hb.1) (by unfold fK at hb; exact hb.2)
    (try simp only [W0])
    refine lit1_t (C := cB) (x := a.num - 1) elB H rfl (by decide) fun w s9 c9 H h9 => ?_
    have h9' : TR cB w0 c9 s9 a.m.bs := by rw [hbs]; exact h9.tr
    refine cal_h (bytesEq_spec hok3.1 h9' (fun c hc => List.mem_append_right _ (List.mem_cons_of_mem _ (List.mem_append_right _ (List.mem_append_right _ (mem_F (List.mem_append_right _ (List.mem_append_right _ (List.mem_cons_of_mem _ (hD c hc))))))))) (fun c hc => List.mem_append_left _ hc) H) ?_
    rintro _ w ⟨rfl, H⟩
    (try simp only [W0])
    refine add_k (z := ((i + 1 : Nat) : Int)) (by omega) (by omega) (by omega) ?_
    refine hk (m - 1) _ _ _ _ _ (by omega) ⟨i + 1, q', D3 ++ D, D3 ++ F, sm3, sr3, ss3, cm3, cr3, cs3, rfl, rfl, rfl, rfl, by omega, hp', fun c hc => ?_, hq3, H.to fun q => ?_⟩
    · rcases List.mem_append.1 hc with h | h
      · exact List.mem_append_left _ h
      · exact List.mem_append_right _ (hD c h)
    · simp only [Q25.mem, List.map_append, List.map_cons, List.sum_append, List.sum_cons]; omega
  · (try simp only [W0])
    rw [List.drop_eq_nil_of_le (by omega)] at hp
    unfold F4_j3
    refine cal_h (recv_spec (th := 2) (wait := false) (dl := 0) hD2 hq (by rw [hp.max]; decide) (by rw [hp.num]; omega) H) ?_
    rintro _ w ⟨cp, se3, sn3, hcp, hok3, rfl, D3, sm3, sr3, ss3, cm3, cr3, cs3, ce3, cn3, hse3, hsn3, hq3, hes3, H⟩
    rw [hp.empty] at H ⊢
    (try simp only [W0])
    refine al_m (ys := [I 0, .slice none 0 0]) H (by kernel_rfl) fun w b4 H => ?_
    refine stA_m (vs := ms0.enc) H Upd.here rfl rfl (cMs.sc ms0) fun w H => ?_
    refine eql_y rfl ?_
    exact g w H.ext
theorem orders_law {ps : List Int} (hps : TR cB w0 [] s ps) (hb : ∀ p ∈ ps, 0 ≤ p ∧ p ≤ 255) (hn : ps.length < 2 ^ 63) (H : Hp w0 w []) : Calls Pg 4 ⟨[s]⟩ w fun e w' => e = .returned (.bool true) ∧ Hp w0 w' [] := by
  have hfin : ∀ w, Ext [] w0 w → (Ending.returned (.bool true) = .returned (.bool true) ∧ Hp w0 w []) := fun w h => ⟨rfl, ⟨h, by simp, by simp⟩⟩
  generalize hQ : (fun (e : Ending) (w' : World) => e = .returned (.bool true) ∧ Hp w0 w' [] : ER) = Q at *
  have hfin : ∀ w, Ext [] w0 w → Q (.returned (.bool true)) w := fun w h => by subst hQ; exact hfin w h
  apply F4_calls
  unfold F4
  refine cal_h (new_spec (mx := 64) (sz := 8) H) ?_
  rintro _ w (⟨hb0, _⟩ | ⟨qb, _, rfl, hq, H⟩)
  · exact absurd hb0 (by unfold badNew; decide)
  (try simp only [W0])
  unfold F4_j10
  refine pv_of (lenS_tr hps) ?_
  refine gtr_k (fun h1 => ?_) (fun h1 => ?_)
  · (try simp only [W0])
    refine cal_h (awake_spec H) ?_
    rintro _ w ⟨rfl, H⟩
    (try simp only [W0])
    refine eql_y rfl ?_
    (try simp only [W0])
    exact hfin w H.ext
  (try simp only [W0])
  refine cal_h (awake_spec H) ?_
  rintro _ w ⟨rfl, H⟩
  (try simp only [W0])
  refine neq_n (by decide) ?_
  (try simp only [W0])
  unfold F4_j1 F4_j7
  refine pv_of (lenS_tr hps) ?_
  unfold F4_j8
  refine loop5 (F4_l2_succ _) (fun m x3 x5 x44 x45 x46 w => ∃ (i : Nat) (q : Q25) (S : List Kp) (want : List Pr) (cw D F : List Chunk) (sm sr ss : Value) (cm cr cs : List Chunk), x3 = ptr qb 0 ∧ x44 = s ∧ x45 = I (ps.length : Int) ∧ x46 = I (i : Int) ∧ m + i = ps.length ∧ Plain q S i ∧ Same dK want (S.map fK) ∧
    want.length = i ∧ (∀ p ∈ want, 0 ≤ p.2 ∧ p.2 ≤ 255) ∧ TS cPs 43 x5 want cw ∧ (∀ c ∈ D, c ∈ F) ∧ QAt w0 D q sm sr ss cm cr cs ∧ Hp w0 w (cw ++ q.mem qb sm sr ss cm cr cs F)) ?_ (m := ps.length)
    ⟨0, q0 64 8, [], [], [], [], [], _, _, _, _, _, _, rfl, rfl, rfl, rfl, rfl, ⟨Ord.nil, rfl, rfl, rfl, rfl, rfl, rfl, by simp, by simp, by simp⟩, Same.refl, rfl, by simp, TS.nil, by simp, hq, H⟩
  clear H hq
  rintro m k _ x5 _ _ _ w ⟨i, q, S, want, cw, D, F, sm, sr, ss, cm, cr, cs, rfl, rfl, rfl, rfl, hm, hp, hsame, hwl, hwb, hT, hD, hq, H⟩ hk
  have hSl : S.length = i := by have := hsame.len; rw [List.length_map] at this; omega
  unfold F4_b2
  refine lss_k (fun hi => ?_) (fun hi => ?_)
  · (try simp only [W0])
    have hx : ps[i]? = some ps[i] := List.getElem?_eq_getElem (by omega)
    have hx2 := hb ps[i] (List.getElem_mem _)
    generalize ps[i] = p at *
    unfold F4_j9
    refine ix1_t (C := cB) hps H (by simp) hx rfl rfl ?_
    have hrem : bin .rem (U8 p) (U8 32) = some (U8 (p % 32)) := by
      rw [bin_rem (by decide), Int.tmod_eq_emod_of_nonneg hx2.1]
    refine pv_of hrem ?_
    refine cv64_a ?_
    refine cv8_a ?_
    refine lit1_t (C := cB) (x := (i : Int)) elB H rfl (by decide) fun w s9 c9 H h9 => ?_
    obtain ⟨sh, rfl⟩ := h9.sh
    refine bld_a ?_
    replace H : Hp w0 w (q.mem qb sm sr ss cm cr cs (c9 ++ (cw ++ F))) := H.to fun q => by simp only [Q25.mem, List.map_append, List.map_cons, List.sum_append, List.sum_cons]; omega
    refine cal_h (send_spec (D := c9 ++ D) (m := ⟨p % 32, sh, [(i : Int)]⟩) (th := 1) (wait := false) (dl := 0) ⟨h9.tr.mono (fun c hc => List.mem_append_left _ hc), by simp⟩ (fun c hc => ?_) hq.grow (by rw [hp.max]; decide) (by rw [hp.num]; omega) H) ?_
    · rcases List.mem_append.1 hc with h | h
      · exact List.mem_append_left _ h
      · exact List.mem_append_right _ (List.mem_append_right _ (hD c h))
    rintro _ w ⟨sh2, se2, sn2, rfl, D2, sm2, sr2, ss2, cm2, cr2, cs2, ce2, cn2, hse2, hsn2, hq2, hes2, H⟩
    generalize hm2 : ({ (⟨p % 32, sh, [(i : Int)]⟩ : Ms) with sh := sh2 } : Ms) = m2 at *
    have hp2 : m2.pri = p % 32 := by subst hm2; rfl
    have hb2 : m2.bs = [(i : Int)] := by subst hm2; rfl
    obtain ⟨q', e2, hp'⟩ := hp.send (m := m2) (by omega) (by rw [hp2]; omega) hb2
    rw [e2] at hse2 hsn2 hq2 H ⊢
    (try simp only [W0])
    refine neq_n (by decide) ?_
    (try simp only [W0])
    refine pv_of hrem ?_
    refine cv64_a ?_
    refine bld_a ?_
    have hcl := clampI_id (a := p % 32) (by omega) (by omega)
    refine app1_t (C := cPs) (x := (p % 32, (i : Int))) (F := ce2 ++ (cn2 ++ q'.mem qb sm2 sr2 ss2 cm2 cr2 cs2 (D2 ++ (c9 ++ F)))) elSent (cs := cw) (H.to fun q => by simp only [Q25.mem, List.map_append, List.map_cons, List.sum_append, List.sum_cons]; omega) hT Split.here (by show _ = _; unfold cPs; simp only [hcl]; rfl) (by decide) (by omega) (by omega) fun w s5 c5 H h5 => ?_
    refine add_k (z := ((i + 1 : Nat) : Int)) (by omega) (by omega) (by omega) ?_
    refine hk (m - 1) _ _ _ _ _ _ (by omega) ⟨i + 1, q', insK ⟨m2, (i : Int) + 1⟩ S, want ++ [(p % 32, (i : Int))], c5, D2 ++ (c9 ++ D), D2 ++ (c9 ++ F), sm2, sr2, ss2, cm2, cr2, cs2, rfl, rfl, rfl, rfl, by omega, hp', ?_, by rw [List.length_append, hwl]; rfl, ?_, h5, ?_, hq2, H.to fun q => ?_⟩
    · have := same_ins (x := ⟨m2, (i : Int) + 1⟩) (want := want) (by show 0 ≤ m2.pri ∧ m2.pri ≤ 31; rw [hp2]; omega) hp.pr hp.ord.srt hsame
      have e : fK ⟨m2, (i : Int) + 1⟩ = (p % 32, (i : Int)) := by
        show (m2.pri, (i : Int) + 1 - 1) = _
        rw [hp2, Int.add_sub_cancel]
      rwa [e] at this
    · intro z hz
      rcases List.mem_append.1 hz with h | h
      · exact hwb z h
      · rw [List.mem_singleton.1 h]; simp only; omega
    · intro c hc
      rcases List.mem_append.1 hc with h | h
      · exact List.mem_append_left _ h
      · refine List.mem_append_right _ ?_
        rcases List.mem_append.1 h with h | h
        · exact List.mem_append_left _ h
        · exact List.mem_append_right _ (hD c h)
    · simp only [Q25.mem, List.map_append, List.map_cons, List.sum_append, List.sum_cons]; omega
  · (try simp only [W0])
    unfold F4_j2
    refine cal_h (sortSent_spec (key := dK) cmpOrd hT (by omega) H) ?_
    rintro _ w ⟨C, cs', rfl, hC, hsrt, hs2, H⟩
    (try simp only [W0])
    have hCS : C = S.map fK := srt_uniq hsrt (srt_map hp.ord.srt) fun k => by rw [hs2.fil, hsame.fil]
    refine orders_recv hC hCS (by rw [hs2.len]; omega) (by omega) hp hD hq (fun p hp => hwb p (hs2.mem.1 hp)) H hfin
end
end Go.Proofs.Ythcekppbbanfeaa.Den
