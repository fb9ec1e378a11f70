/- Message queue: the law Once, walked: the whole. Conditions: none. -/
import Derived.Test.YthcekppbbanfeaaMqW
set_option linter.unusedVariables false
set_option linter.unusedSimpArgs false
set_option maxRecDepth 8000
set_option maxHeartbeats 4000000
namespace Go.Proofs.Ythcekppbbanfeaa.Den
open Go Go.RowKit
theorem OnceI.mono {q : Q25} {S : List Kp} {T G : List Ky} {i i' : Nat} (h : OnceI q S T G i) (hi : i ≤ i') : OnceI q S T G i' :=
  ⟨h.ord, h.le, ⟨h.num.1, by have := h.num.2; omega⟩, h.nt, h.mx, h.sz, h.fit, h.full, h.idle, h.b1, h.b2, fun k hk => by have := h.t1 k hk; omega, fun k hk => by have := h.t2 k hk; omega, h.perm, h.nd, fun t ht => by have := h.lt t ht; omega⟩
theorem unseen_lt {ents : List (Ky × Int × Nat)} {seen : List Nat} {e : Ky × Int × Nat} (he : e ∈ ents) (hn : e.2.2 ∉ seen) :
    (ents.filter fun x => decide (x.2.2 ∉ seen ++ [e.2.2])).length < (ents.filter fun x => decide (x.2.2 ∉ seen)).length := by
  have h1 : (ents.filter fun x => decide (x.2.2 ∉ seen ++ [e.2.2])) = (ents.filter fun x => decide (x.2.2 ∉ seen)).filter (fun x => decide (x.2.2 ≠ e.2.2)) := by
    rw [List.filter_filter]
    congr 1; funext x
    simp [List.mem_append, not_or, Bool.and_comm]
  rw [h1]
  have hm : e ∈ ents.filter fun x => decide (x.2.2 ∉ seen) := List.mem_filter.2 ⟨he, by simpa using hn⟩
  refine Nat.lt_of_le_of_ne (List.length_filter_le _ _) fun h => ?_
  have := (List.length_filter_eq_length_iff.1 h) e hm
  simp at this
section
variable {w w' w0 : World} {L L' F cs cs2 A X Y cm cr D : List Chunk} {s s2 sm sr ss : Value} {K : VK} {R : ER} {b i j qb sb gb xb : Nat} {q : Q25} {m : Ms} {th dl now : Int} {wait : Bool} {T G : List Ky} {S : List Kp}
/-- The two maps, and the variable of one. -/
def maps (xb gb sb : Nat) (G T : List Ky) (F : List Chunk) : List Chunk := ⟨xb, .t 28, [.map (some gb)]⟩ :: ⟨gb, .o (cobj G), []⟩ :: ⟨sb, .o (cobj T), []⟩ :: F
theorem take_k (hk : m.ky ∉ G) (hl : m.bs.length = 2) (hm : TR cB w0 D m.sh.val m.bs) (hD : ∀ c ∈ D, c ∈ F) (H : Hp w0 w (maps xb gb sb G T F)) {R : ER} {K : VK} (g : ∀ w, Hp w0 w (maps xb gb sb (G ++ [m.ky]) T F) → K (.tuple ⟨[]⟩) w) :
    calD Pg R (.func (.func 9) ⟨[]⟩ ⟨[ptr xb 0]⟩) ⟨[.agg ⟨m.enc⟩]⟩ K w := by
  refine calD_k (a := []) (b := [.agg ⟨m.enc⟩]) (c := [ptr xb 0]) (by kernel_rfl) ?_
  refine cal_h (take_spec (F1 := []) (F2 := ⟨sb, .o (cobj T), []⟩ :: F) hk hl hm (fun c hc => List.mem_cons_of_mem _ (List.mem_cons_of_mem _ (List.mem_cons_of_mem _ (hD c hc)))) H) ?_
  rintro _ w ⟨rfl, H⟩
  exact g w H
theorem once_end {Q : ER} (hT : T.Nodup) (hG : T.Perm G) (H : Hp w0 w (maps xb gb sb G T F)) (g : ∀ w, Ext [] w0 w → Q (.returned (.bool true)) w) : F3_j3 Q (.map (some sb)) (ptr xb 0) w := by
  have hGn : G.Nodup := hG.nodup_iff.1 hT
  unfold maps at H
  unfold F3_j3
  refine mlen_h kyS (ents := kcnt T 0) (clock := T.length) H (Has.cons (Has.cons Has.here)) ?_
  refine ld_m H Has.here (o := 0) (v := .map (some gb)) rfl ?_
  refine mlen_h kyS (ents := kcnt G 0) (clock := G.length) H (Has.cons Has.here) ?_
  rw [kcnt_len, kcnt_len]
  refine neq_n (by have := hG.length_eq; simp; omega) ?_
  (try simp only [W0])
  unfold F3_j4 F3_j6
  refine range_h kyS (ents := kcnt T 0) (clock := T.length) H (Has.cons (Has.cons Has.here)) fun w r H => ?_
  unfold F3_j7
  refine loop2 (F3_l1_succ _) (fun m x8 x156 w => ∃ (seen : List Nat), x8 = ptr xb 0 ∧ x156 = ptr r 0 ∧ m = ((kcnt T 0).filter fun e => decide (e.2.2 ∉ seen)).length ∧
    Hp w0 w (⟨r, .o (iobj sb T.length seen T.length), []⟩ :: ⟨xb, .t 28, [.map (some gb)]⟩ :: ⟨gb, .o (cobj G), []⟩ :: ⟨sb, .o (cobj T), []⟩ :: F)) ?_ (m := ((kcnt T 0).filter fun e => decide (e.2.2 ∉ ([] : List Nat))).length) ⟨[], rfl, rfl, rfl, H⟩
  clear H
  rintro m k _ _ w ⟨seen, rfl, rfl, rfl, H⟩ hk
  unfold F3_b1
  have hmw : MW (kcnt T 0) T.length := by have := kcnt_mw (n := 0) hT; rwa [Nat.zero_add] at this
  refine next_h (key := kyV) (val := I) (ents := kcnt T 0) (clock := T.length) H (Has.cons (Has.cons Has.here)) (fun e he => hmw.lt e he) (Nat.le_refl _) (fun hall => ?_) (fun w e he hns H => ?_)
  · (try simp only [W0])
    unfold F3_j5
    exact g w H.ext
  · (try simp only [W0])
    unfold F3_j8
    refine entry_h (key := kyV) (val := I) (ents := kcnt T 0) H (Has.cons (Has.cons Has.here)) he hmw ?_
    (try simp only [W0])
    refine ld_m H (Has.cons Has.here) (o := 0) (v := .map (some gb)) rfl ?_
    refine lookup_h kyS e.1 (ents := kcnt G 0) (clock := G.length) H (Has.cons (Has.cons Has.here)) ?_
    rw [kcnt_get (hG.mem_iff.1 (kcnt_mem he).1), (kcnt_mem he).2.1]
    refine neq_n (by simp) ?_
    (try simp only [W0])
    exact hk _ _ _ _ (unseen_lt he hns) ⟨seen ++ [e.2.2], rfl, rfl, rfl, H⟩
theorem once_drain {Q : ER} {i0 : Nat} (hi0 : i0 ≤ 80) (h : OnceI q S T G i0) (hD : ∀ c ∈ D, c ∈ F) (hq : QAt w0 D q sm sr ss cm cr cs) (H : Hp w0 w (q.mem qb sm sr ss cm cr cs (maps xb gb sb G T F)))
    (g : ∀ w, Ext [] w0 w → Q (.returned (.bool true)) w) : F3_j2 Q (ptr qb 0) (.map (some sb)) (ptr xb 0) (.func (.func 9) ⟨[]⟩ ⟨[ptr xb 0]⟩) w := by
  unfold F3_j2 F3_j9 F3_j10
  have hpl : (pend q S).length ≤ 128 := by
    unfold pend
    have h1 := h.fit
    have h2 := h.mx
    have h3 := hq.ls
    rw [List.length_append, List.length_map, List.length_map]; omega
  refine loop5 (F3_l2_succ _) (fun m x5 x7 x8 x9 x24 w => ∃ (n : Nat) (q : Q25) (S : List Kp) (G : List Ky) (D F : List Chunk) (sm sr ss : Value) (cm cr cs : List Chunk), x5 = ptr qb 0 ∧ x7 = .map (some sb) ∧ x8 = ptr xb 0 ∧ x9 = .func (.func 9) ⟨[]⟩ ⟨[ptr xb 0]⟩ ∧ x24 = I (n : Int) ∧ n + (pend q S).length ≤ 128 ∧ m = 200 - n ∧
    OnceI q S T G (i0 + n) ∧ (∀ c ∈ D, c ∈ F) ∧ QAt w0 D q sm sr ss cm cr cs ∧ Hp w0 w (q.mem qb sm sr ss cm cr cs (maps xb gb sb G T F))) ?_ (m := 200)
    ⟨0, q, S, G, D, F, sm, sr, ss, cm, cr, cs, rfl, rfl, rfl, rfl, rfl, by omega, rfl, h, hD, hq, H⟩
  clear H hq hD h hpl
  rintro m k _ _ _ _ _ w ⟨n, q, S, G, D, F, sm, sr, ss, cm, cr, cs, rfl, rfl, rfl, rfl, rfl, hn, rfl, h, hD, hq, H⟩ hk
  unfold F3_b2
  refine lss_y (by omega) ?_
  (try simp only [W0])
  unfold F3_j11
  refine cal_h (recv_spec (th := 250) (wait := false) (dl := 0) (fun c hc => List.mem_cons_of_mem _ (List.mem_cons_of_mem _ (List.mem_cons_of_mem _ (hD c hc)))) hq h.mx.2 (by have := h.num; omega) H) ?_
  rintro _ w ⟨cp, se3, sn3, hcp, hok3, rfl, D3, sm3, sr3, ss3, cm3, cr3, cs3, ce3, cn3, hse3, hsn3, hq3, hes3, H⟩
  rcases h.recv (th := 250) (wait := false) (cp := cp) (by omega) (by omega) hcp (i0 + n + 1) (by omega) (by simp) with ⟨err, e3, he, hS⟩ | ⟨q', e3, h', hw⟩ | ⟨m3, es, q', S', e3, h', hb, hlen⟩
  · have e3 : q.recv 250 false 0 cp = _ := e3
    rw [e3] at H ⊢
    simp only [Bool.false_eq_true, if_false] at he
    subst he hS
    (try simp only [W0])
    refine al_m (ys := [I 0, .slice none 0 0]) H (by kernel_rfl) fun w b4 H => ?_
    refine stA_m (vs := ms0.enc) H Upd.here rfl rfl (cMs.sc ms0) fun w H => ?_
    refine neq_y (by decide) ?_
    (try simp only [W0])
    have hsn : q.sn = [] := by
      by_cases e : q.sn = []
      · exact e
      · have h1 := h.full e; have h2 := h.mx; simp at h1; omega
    have hp : T.Perm G := by
      have := h.perm
      unfold pend at this
      rw [hsn] at this
      simpa using this
    refine once_end (gb := gb) (F := ⟨b4, .t 30, ms0.enc⟩ :: (ce3 ++ (cn3 ++ (q.mem qb sm3 sr3 ss3 cm3 cr3 cs3 (D3 ++ F))))) h.nd hp (H.to fun q => ?_) g
    simp only [maps, Q25.mem, List.map_append, List.map_cons, List.sum_append, List.sum_cons]; omega
  · cases hw
  · have e3 : q.recv 250 false 0 cp = _ := e3
    rw [e3] at hse3 hsn3 hq3 hok3 H ⊢
    (try simp only [W0])
    refine al_m (ys := [I 0, .slice none 0 0]) H (by kernel_rfl) fun w b4 H => ?_
    refine stA_m (vs := m3.enc) H Upd.here rfl rfl (cMs.sc m3) fun w H => ?_
    refine neq_n (by decide) ?_
    (try simp only [W0])
    refine ldA_m (l := m3.enc) H Has.here rfl ?_
    have hnk : m3.ky ∉ G := by
      have := h'.gnd
      rw [List.append_assoc] at this
      have h2 := (List.nodup_append.1 this).2.2
      exact fun hm => h2 _ hm _ (List.mem_append_left _ (List.mem_singleton_self _)) rfl
    have H2 : Hp w0 w (maps xb gb sb G T (D3 ++ (F ++ (⟨b4, .t 30, m3.enc⟩ :: (ce3 ++ (cn3 ++ (q'.mem qb sm3 sr3 ss3 cm3 cr3 cs3 []))))))) := H.to fun q => by
      simp only [maps, Q25.mem, List.map_append, List.map_cons, List.sum_append, List.sum_cons, List.map_nil, List.sum_nil]; omega
    refine take_k (D := D) hnk hb hok3.1 (fun c hc => List.mem_append_right _ (List.mem_append_left _ (hD c hc))) H2 fun w H => ?_
    refine add_k (z := ((n + 1 : Nat) : Int)) (by omega) (by omega) (by omega) ?_
    refine hk (200 - (n + 1)) _ _ _ _ _ _ (by omega) ⟨n + 1, q', S', G ++ [m3.ky], D3 ++ D, D3 ++ F, sm3, sr3, ss3, cm3, cr3, cs3, rfl, rfl, rfl, rfl, rfl, by omega, rfl, h', fun c hc => ?_, hq3, H.to fun q => ?_⟩
    · rcases List.mem_append.1 hc with h | h
      · exact List.mem_append_left _ h
      · exact List.mem_append_right _ (hD c h)
    · simp only [maps, Q25.mem, List.map_append, List.map_cons, List.sum_append, List.sum_cons, List.map_nil, List.sum_nil]; omega
end
end Go.Proofs.Ythcekppbbanfeaa.Den
