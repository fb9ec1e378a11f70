/- Message queue: an act with both queues, walked. Conditions: none. -/
import Derived.Test.YthcekppbbanfeaaGreatMrH
set_option linter.unusedVariables false
set_option linter.unusedSimpArgs false
set_option maxRecDepth 8000
set_option maxHeartbeats 4000000
namespace Go.Proofs.YthcekppbbanfeaaGreat.Den
open Go Go.RowKit
/-- Both queues in memory. -/
def Both (w0 w : World) (qb rb : Nat) (q : Q25) (r : RQ) (S : List Kp) (N : Int) : Prop := ∃ (D F : List Chunk) (sm sr ss : Value) (cm cr cs : List Chunk) (rm rs rr : Value) (dm ds dr : List Chunk),
  PR q r S N ∧ (∀ c ∈ D, c ∈ F) ∧ QAt w0 D q sm sr ss cm cr cs ∧ RAt w0 D r rm rs rr dm ds dr ∧ Hp w0 w (q.mem qb sm sr ss cm cr cs (r.mem rb rm rs rr dm ds dr F))
section
variable {w w' w0 : World} {L L' F cs cs2 A X Y cm cr dm ds dr D D2 : List Chunk} {s s2 sm sr ss rm rs rr : Value} {K : VK} {R : ER} {b i j qb rb : Nat} {q : Q25} {r : RQ} {S : List Kp} {m m2 : Ms} {th dl now N : Int} {wait : Bool}
theorem After.len {es : List En} {ns : List Nc} {se sn : Value} (h : After w0 w D F qb q es ns se sn) : True := trivial
theorem adv_len {q : Q25} {a : SRes} (h : AdvOK q now a) (l1 : q.sn.length ≤ 64) (l2 : q.rc.length ≤ 64) : a.es.length ≤ 2 ^ 20 := by
  unfold AdvOK at h
  split at h
  · subst h; simp
  split at h
  · subst h; simp
  · obtain ⟨C, _, hs, rfl⟩ := h
    have := hs.len
    have h3 : (q.lates now).length ≤ 128 := by
      unfold Q25.lates
      rw [List.length_append, List.length_map, List.length_map]
      have := List.length_filter_le (fun x : Sw => passed now x.dl) q.sn
      have := List.length_filter_le (fun x : Rw => passed now x.dl) q.rc
      omega
    show (C.map outE).length ≤ _
    rw [List.length_map]; omega
theorem put_es {q : Q25} {m : Ms} : (q.put m).1.1.length ≤ 1 ∧ (q.put m).1.2.length ≤ 1 := by
  unfold Q25.put
  split
  · simp
  · split
    · simp
    · split <;> simp
theorem send_es {q : Q25} : (q.send th m wait dl).es.length ≤ 1 ∧ (q.send th m wait dl).ns.length ≤ 1 := by
  unfold Q25.send
  split
  · simp
  split
  · simp
  split
  · simp
  split
  · exact put_es
  split <;> simp
theorem recv_es {q : Q25} {cp : Ms → Ms} : (q.recv th wait dl cp).r.es.length ≤ 1 ∧ (q.recv th wait dl cp).r.ns.length ≤ 1 := by
  unfold Q25.recv
  split
  · simp
  split
  · simp
  split
  · split <;> simp
  · split
    · simp
    · exact ⟨by simp, put_es.2⟩
theorem cancel_es {q : Q25} : (q.cancel th).es.length ≤ 1 ∧ (q.cancel th).ns = [] := by
  unfold Q25.cancel
  split
  · simp
  split <;> simp
/-- What the two calls have left. -/
structure Two (w0 w : World) (qb rb : Nat) (a : SRes) (b : RRs) (N : Int) (se sn se2 sn2 : Value) : Prop where
  ag : Agree a b N
  ex : ∃ (D G : List Chunk) (ce cn ce2 cn2 : List Chunk) (sm sr ss : Value) (cm cr cs : List Chunk) (rm rs rr : Value) (dm ds dr : List Chunk),
    TS cEn 119 se a.es ce ∧ TS cNc 92 sn a.ns cn ∧ TS cEn 127 se2 b.es ce2 ∧ TS cNc 73 sn2 b.ns cn2 ∧ (∀ e ∈ a.es, MsOK w0 D e.m) ∧ (∀ e ∈ b.es, MsOK w0 D e.m) ∧ (∀ c ∈ D, c ∈ G) ∧ QAt w0 D a.q sm sr ss cm cr cs ∧ RAt w0 D b.r rm rs rr dm ds dr ∧
    Hp w0 w (ce ++ (cn ++ (ce2 ++ (cn2 ++ (a.q.mem qb sm sr ss cm cr cs (b.r.mem rb rm rs rr dm ds dr G))))))
theorem Two.both {a : SRes} {b : RRs} {se sn se2 sn2 : Value} (h : Two w0 w qb rb a b N se sn se2 sn2) : ∃ S, Both w0 w qb rb a.q b.r S N := by
  obtain ⟨hag, D, G, ce, cn, ce2, cn2, sm, sr, ss, cm, cr, cs, rm, rs, rr, dm, ds, dr, h1, h2, h3, h4, h5, h6, h7, h8, h9, H⟩ := h
  obtain ⟨S, hS⟩ := hag.pr
  exact ⟨S, D, G, sm, sr, ss, cm, cr, cs, rm, rs, rr, dm, ds, dr, hS, h7, h8, h9, H.right.right.right.right⟩
/-- The second call after the first. -/
theorem two_of {a : SRes} {b : RRs} {se sn se2 sn2 : Value} {D' G2 : List Chunk} {ce cn : List Chunk} (hag : Agree a b N) (h1 : TS cEn 119 se a.es ce) (h2 : TS cNc 92 sn a.ns cn) (h3 : QAt w0 D a.q sm sr ss cm cr cs) (h4 : ∀ e ∈ a.es, MsOK w0 D e.m) (hD : ∀ c ∈ D, c ∈ F)
    (hR : RAfter w0 w D (ce ++ (cn ++ (a.q.mem qb sm sr ss cm cr cs F))) rb b.r b.es b.ns se2 sn2) : Two w0 w qb rb a b N se sn se2 sn2 := by
  obtain ⟨D2, rm, rs, rr, dm, ds, dr, ce2, cn2, k1, k2, k3, k4, H⟩ := hR
  refine ⟨hag, D2 ++ D, D2 ++ F, ce, cn, ce2, cn2, sm, sr, ss, cm, cr, cs, rm, rs, rr, dm, ds, dr, h1, h2, k1, k2, fun e he => (h4 e he).mono fun c hc => List.mem_append_right _ hc, k4, fun c hc => ?_, h3.grow, k3, H.to fun q => ?_⟩
  · rcases List.mem_append.1 hc with hc | hc
    · exact List.mem_append_left _ hc
    · exact List.mem_append_right _ (hD c hc)
  · simp only [Q25.mem, RQ.mem, List.map_append, List.map_cons, List.sum_append, List.sum_cons]; omega
theorem Two.ends {a : SRes} {b : RRs} {se sn se2 sn2 : Value} (h : Two w0 w qb rb a b N se sn se2 sn2) (hl : a.es.length ≤ 2 ^ 20) {K : VK} {R : ER} (g : ∀ w, Two w0 w qb rb a b N se sn se2 sn2 → K (.bool true) w) : cal Pg R 27 ⟨[se, se2]⟩ K w := by
  obtain ⟨hag, D, G, ce, cn, ce2, cn2, sm, sr, ss, cm, cr, cs, rm, rs, rr, dm, ds, dr, h1, h2, h3, h4, h5, h6, h7, h8, h9, H⟩ := h
  have hG : ∀ c ∈ D, c ∈ ce ++ (cn ++ (ce2 ++ (cn2 ++ (a.q.mem qb sm sr ss cm cr cs (b.r.mem rb rm rs rr dm ds dr G))))) := fun c hc => List.mem_append_right _ (List.mem_append_right _ (List.mem_append_right _ (List.mem_append_right _ (mem_F (mem_RF (h7 c hc))))))
  refine cal_h (ends_spec h1 h3 hag.es hl h5 h6 (fun c hc => List.mem_append_left _ hc) (fun c hc => List.mem_append_right _ (List.mem_append_right _ (List.mem_append_left _ hc))) hG hG H) ?_
  rintro _ w ⟨rfl, H⟩
  exact g w ⟨hag, D, G, ce, cn, ce2, cn2, sm, sr, ss, cm, cr, cs, rm, rs, rr, dm, ds, dr, h1, h2, h3, h4, h5, h6, h7, h8, h9, H⟩
theorem Two.notices {a : SRes} {b : RRs} {se sn se2 sn2 : Value} (h : Two w0 w qb rb a b N se sn se2 sn2) (hl : a.ns.length ≤ 2 ^ 20) {K : VK} {R : ER} (g : ∀ w, Two w0 w qb rb a b N se sn se2 sn2 → K (.bool true) w) : cal Pg R 28 ⟨[sn, sn2]⟩ K w := by
  obtain ⟨hag, D, G, ce, cn, ce2, cn2, sm, sr, ss, cm, cr, cs, rm, rs, rr, dm, ds, dr, h1, h2, h3, h4, h5, h6, h7, h8, h9, H⟩ := h
  have h4' := h4
  rw [← hag.ns] at h4'
  refine cal_h (notices_spec h2 h4' hl (fun c hc => List.mem_append_right _ (List.mem_append_left _ hc)) (fun c hc => List.mem_append_right _ (List.mem_append_right _ (List.mem_append_right _ (List.mem_append_left _ hc)))) H) ?_
  rintro _ w ⟨rfl, H⟩
  exact g w ⟨hag, D, G, ce, cn, ce2, cn2, sm, sr, ss, cm, cr, cs, rm, rs, rr, dm, ds, dr, h1, h2, h3, h4, h5, h6, h7, h8, h9, H⟩
/-- What an act's call gives. -/
def DoQ (w0 : World) (qb rb : Nat) (N mx sz : Int) : ER := fun e w' => e = .returned (.bool true) ∧ ∃ q r S, (q.max = mx ∧ q.size = sz) ∧ Both w0 w' qb rb q r S N
theorem Two.done {a : SRes} {b : RRs} {se sn se2 sn2 : Value} {mx sz : Int} (h : Two w0 w qb rb a b N se sn se2 sn2) (hm : a.q.max = mx ∧ a.q.size = sz) : DoQ w0 qb rb N mx sz (.returned (.bool true)) w := by
  obtain ⟨S, hB⟩ := h.both
  exact ⟨rfl, a.q, b.r, S, hm, hB⟩
theorem put_mx {q : Q25} {m : Ms} : (q.put m).2.max = q.max ∧ (q.put m).2.size = q.size := by
  unfold Q25.put
  split
  · exact ⟨rfl, rfl⟩
  · split
    · exact ⟨rfl, rfl⟩
    · split <;> exact ⟨rfl, rfl⟩
theorem send_mx {q : Q25} : (q.send th m wait dl).q.max = q.max ∧ (q.send th m wait dl).q.size = q.size := by
  unfold Q25.send
  split
  · exact ⟨rfl, rfl⟩
  split
  · exact ⟨rfl, rfl⟩
  split
  · exact ⟨rfl, rfl⟩
  split
  · exact put_mx
  split <;> exact ⟨rfl, rfl⟩
theorem recv_mx {q : Q25} {cp : Ms → Ms} : (q.recv th wait dl cp).r.q.max = q.max ∧ (q.recv th wait dl cp).r.q.size = q.size := by
  unfold Q25.recv
  split
  · exact ⟨rfl, rfl⟩
  split
  · exact ⟨rfl, rfl⟩
  split
  · split <;> exact ⟨rfl, rfl⟩
  · split
    · exact ⟨rfl, rfl⟩
    · exact put_mx
theorem cancel_mx {q : Q25} : (q.cancel th).q.max = q.max ∧ (q.cancel th).q.size = q.size := by
  unfold Q25.cancel
  split
  · exact ⟨rfl, rfl⟩
  split <;> exact ⟨rfl, rfl⟩
theorem adv_mx {q : Q25} {a : SRes} (h : AdvOK q now a) : a.q.max = q.max ∧ a.q.size = q.size := by
  unfold AdvOK at h
  split at h
  · subst h; exact ⟨rfl, rfl⟩
  split at h
  · subst h; exact ⟨rfl, rfl⟩
  · obtain ⟨C, _, _, rfl⟩ := h; exact ⟨rfl, rfl⟩
theorem binB_eq (x : Bool) : binB .eql (.bool x) (.bool x) = some (.bool true) := by simp [binB]
theorem do_send {a : Ac} {b5 : Nat} (hP : PR q r S N) (hN : 0 ≤ N ∧ N < 2 ^ 50) (ha : TR cB w0 [] a.sh.val a.data) (hal : a.data.length ≤ 5000) (hD : ∀ c ∈ D, c ∈ F) (hb5 : Has F b5 (.t 36) a.enc) (hq : QAt w0 D q sm sr ss cm cr cs) (hr : RAt w0 D r rm rs rr dm ds dr) (H : Hp w0 w (q.mem qb sm sr ss cm cr cs (r.mem rb rm rs rr dm ds dr F))) :
    F9_j5 (DoQ w0 qb rb (N + 1) q.max q.size) (ptr qb 0) (ptr rb 0) (ptr b5 0) w := by
  have hb : ∀ {q : Q25} {r : RQ} {A B : List Chunk} {sm sr ss rm rs rr : Value} {cm cr cs dm ds dr : List Chunk}, Has (A ++ (q.mem qb sm sr ss cm cr cs (r.mem rb rm rs rr dm ds dr (B ++ F)))) b5 (.t 36) a.enc := fun {q r A B sm sr ss rm rs rr cm cr cs dm ds dr} => Has.app (mem_F (mem_RF (List.mem_append_right _ hb5)))
  have hasc : scalar a.sh.val = true := rfl
  unfold F9_j5
  refine drew_k H fun w H => ?_
  have hbh : Has (q.mem qb sm sr ss cm cr cs (r.mem rb rm rs rr dm ds dr F)) b5 (.t 36) a.enc := mem_F (mem_RF hb5)
  have c4 : w.cell? ⟨b5, 4, none⟩ = some (.bool a.wait) := H.cellM hbh rfl
  have c5 : w.cell? ⟨b5, 5, none⟩ = some (I a.time) := H.cellM hbh rfl
  (try simp only [W0])
  refine ld_m H hbh (o := 1) (v := I a.th) rfl ?_
  (try simp only [W0])
  refine ld_m H hbh (o := 2) (v := I a.pri) rfl ?_
  (try simp only [W0])
  refine ld_m H hbh (o := 3) (v := a.sh.val) rfl ?_
  (try simp only [W0])
  refine cal_h (cloneB_spec ha (by simp) (by omega) H) ?_
  rintro _ w ⟨shc, c9, rfl, h9, H⟩
  (try simp only [W0])
  have hbh2 : Has (c9 ++ q.mem qb sm sr ss cm cr cs (r.mem rb rm rs rr dm ds dr F)) b5 (.t 36) a.enc := Has.app hbh
  refine rd1_m H hbh2 (o := 2) rfl ?_
  refine rd1_m H hbh2 (o := 1) rfl ?_
  refine bld_a ?_
  (try simp only [W0])
  refine ldS_m H hbh2 (o := 4) (v := .bool a.wait) rfl (by intro z hz; rw [List.mem_singleton.1 hz]; exact c4) ?_
  (try simp only [W0])
  refine ldS_m H hbh2 (o := 5) (v := I a.time) rfl (by intro z hz; rw [List.mem_singleton.1 hz]; exact c5) ?_
  (try simp only [W0])
  replace H : Hp w0 w (q.mem qb sm sr ss cm cr cs (r.mem rb rm rs rr dm ds dr (c9 ++ F))) := H.to fun q => by simp only [Q25.mem, RQ.mem, List.map_append, List.map_cons, List.sum_append, List.sum_cons]; omega
  have hD9 : ∀ c ∈ c9 ++ D, c ∈ c9 ++ F := fun c hc => by
    rcases List.mem_append.1 hc with hc | hc
    · exact List.mem_append_left _ hc
    · exact List.mem_append_right _ (hD c hc)
  have hn := hP.num
  refine cal_h (send_spec (D := c9 ++ D) (m := ⟨a.pri, shc, a.data⟩) (th := a.th) (wait := a.wait) (dl := a.time) ⟨h9.tr.mono fun c hc => List.mem_append_left _ hc, by show a.data.length ≤ _; omega⟩ (fun c hc => mem_RF (hD9 c hc)) hq.grow hP.mx.2 (by omega) H) ?_
  clear H
  rintro _ w ⟨sh1, se, sn, rfl, D1, sm1, sr1, ss1, cm1, cr1, cs1, ce, cn, h1, h2, h3, h4, H⟩
  (try simp only [W0])
  generalize hm1 : ({ (⟨a.pri, shc, a.data⟩ : Ms) with sh := sh1 } : Ms) = m1 at *
  have H2 : Hp w0 w (r.mem rb rm rs rr dm ds dr (ce ++ (cn ++ ((q.send a.th m1 a.wait a.time).q.mem qb sm1 sr1 ss1 cm1 cr1 cs1 (D1 ++ (c9 ++ F)))))) := H.to fun q => by simp only [Q25.mem, RQ.mem, List.map_append, List.map_cons, List.sum_append, List.sum_cons]; omega
  clear H
  have hbr : Has (r.mem rb rm rs rr dm ds dr (ce ++ (cn ++ ((q.send a.th m1 a.wait a.time).q.mem qb sm1 sr1 ss1 cm1 cr1 cs1 (D1 ++ (c9 ++ F)))))) b5 (.t 36) a.enc := mem_RF (Has.app (Has.app (mem_F (Has.app (Has.app hb5)))))
  (try simp only [W0])
  refine ld_m H2 hbr (o := 1) (v := I a.th) rfl ?_
  (try simp only [W0])
  refine ld_m H2 hbr (o := 2) (v := I a.pri) rfl ?_
  (try simp only [W0])
  refine ld_m H2 hbr (o := 3) (v := a.sh.val) rfl ?_
  refine bld_a ?_
  (try simp only [W0])
  refine ld_m H2 hbr (o := 4) (v := .bool a.wait) rfl ?_
  (try simp only [W0])
  refine ld_m H2 hbr (o := 5) (v := I a.time) rfl ?_
  have hDD : ∀ c ∈ D1 ++ (c9 ++ D), c ∈ D1 ++ (c9 ++ F) := fun c hc => by
    rcases List.mem_append.1 hc with hc | hc
    · exact List.mem_append_left _ hc
    · exact List.mem_append_right _ (hD9 c hc)
  refine cal_h (rsend_spec (D := D1 ++ (c9 ++ D)) (m := ⟨a.pri, a.sh, a.data⟩) (th := a.th) (wait := a.wait) (dl := a.time) ⟨ha.mono (by simp), by show a.data.length ≤ _; omega⟩ (fun c hc => List.mem_append_right _ (List.mem_append_right _ (mem_F (hDD c hc)))) (hr.monoD fun c hc => List.mem_append_right _ (List.mem_append_right _ hc)) (by rw [hP.emx]; exact hP.mx.2) H2) ?_
  rintro _ w ⟨sh2, k, se2, sn2, hpos, rfl, hRA⟩
  (try simp only [W0])
  generalize hm2 : ({ (⟨a.pri, a.sh, a.data⟩ : Ms) with sh := sh2 } : Ms) = m2 at *
  have hsay : m1.say = m2.say := by subst hm1 hm2; rfl
  have hag := hP.send (th := a.th) (wait := a.wait) (dl := a.time) hsay hpos
  have h2w := two_of (G2 := []) (D' := []) hag h1 h2 h3 h4 hDD hRA
  have hl := send_es (q := q) (th := a.th) (m := m1) (wait := a.wait) (dl := a.time)
  rw [hag.blk]
  refine pv_of (binB_eq _) ?_
  (try simp only [W0])
  refine eql_y hag.err ?_
  (try simp only [W0])
  refine h2w.ends (by omega) fun w h2w => ?_
  (try simp only [W0])
  refine h2w.notices (by omega) fun w h2w => ?_
  (try simp only [W0])
  exact h2w.done send_mx
theorem do_recv {a : Ac} {b5 : Nat} (hP : PR q r S N) (hN : 0 ≤ N ∧ N < 2 ^ 50) (hD : ∀ c ∈ D, c ∈ F) (hb5 : Has F b5 (.t 36) a.enc) (hq : QAt w0 D q sm sr ss cm cr cs) (hr : RAt w0 D r rm rs rr dm ds dr) (H : Hp w0 w (q.mem qb sm sr ss cm cr cs (r.mem rb rm rs rr dm ds dr F))) :
    F9_j8 (DoQ w0 qb rb (N + 1) q.max q.size) (ptr qb 0) (ptr rb 0) (ptr b5 0) w := by
  have hbh : Has (q.mem qb sm sr ss cm cr cs (r.mem rb rm rs rr dm ds dr F)) b5 (.t 36) a.enc := mem_F (mem_RF hb5)
  have hn := hP.num
  unfold F9_j8
  (try simp only [W0])
  refine ld_m H hbh (o := 1) (v := I a.th) rfl ?_
  (try simp only [W0])
  refine ld_m H hbh (o := 4) (v := .bool a.wait) rfl ?_
  (try simp only [W0])
  refine ld_m H hbh (o := 5) (v := I a.time) rfl ?_
  refine cal_h (recv_spec (th := a.th) (wait := a.wait) (dl := a.time) (fun c hc => mem_RF (hD c hc)) hq hP.mx.2 (by omega) H) ?_
  clear H
  rintro _ w ⟨cp, se, sn, hcp, hok, rfl, D1, sm1, sr1, ss1, cm1, cr1, cs1, ce, cn, h1, h2, h3, h4, H⟩
  (try simp only [W0])
  generalize hres : q.recv a.th a.wait a.time cp = res at *
  refine al_m (ys := [I 0, .slice none 0 0]) H (by kernel_rfl) fun w b7 H => ?_
  refine stA_m (vs := res.m.enc) H Upd.here rfl rfl (cMs.sc _) fun w H => ?_
  have H2 : Hp w0 w (r.mem rb rm rs rr dm ds dr (ce ++ (cn ++ (res.r.q.mem qb sm1 sr1 ss1 cm1 cr1 cs1 (D1 ++ (⟨b7, .t 43, res.m.enc⟩ :: F)))))) := H.to fun q => by simp only [Q25.mem, RQ.mem, List.map_append, List.map_cons, List.sum_append, List.sum_cons]; omega
  clear H
  have hbr : Has (r.mem rb rm rs rr dm ds dr (ce ++ (cn ++ (res.r.q.mem qb sm1 sr1 ss1 cm1 cr1 cs1 (D1 ++ (⟨b7, .t 43, res.m.enc⟩ :: F)))))) b5 (.t 36) a.enc := mem_RF (Has.app (Has.app (mem_F (Has.app (Has.cons hb5)))))
  (try simp only [W0])
  refine ld_m H2 hbr (o := 1) (v := I a.th) rfl ?_
  (try simp only [W0])
  refine ld_m H2 hbr (o := 4) (v := .bool a.wait) rfl ?_
  (try simp only [W0])
  refine ld_m H2 hbr (o := 5) (v := I a.time) rfl ?_
  have hDD : ∀ c ∈ D1 ++ D, c ∈ D1 ++ (⟨b7, .t 43, res.m.enc⟩ :: F) := fun c hc => by
    rcases List.mem_append.1 hc with hc | hc
    · exact List.mem_append_left _ hc
    · exact List.mem_append_right _ (List.mem_cons_of_mem _ (hD c hc))
  refine cal_h (rrecv_spec (D := D1 ++ D) (th := a.th) (wait := a.wait) (dl := a.time) (fun c hc => List.mem_append_right _ (List.mem_append_right _ (mem_F (hDD c hc)))) (hr.monoD fun c hc => List.mem_append_right _ hc) (by rw [hP.emx]; exact hP.mx.2) H2) ?_
  rintro _ w ⟨k, se2, sn2, hpos, hok2, rfl, hRA⟩
  (try simp only [W0])
  obtain ⟨hag, hsay⟩ := hP.recv (th := a.th) (wait := a.wait) (dl := a.time) hcp hpos
  rw [hres] at hag hsay
  generalize hres2 : r.recv a.th a.wait a.time k = res2 at *
  have h2w := two_of (G2 := []) (D' := []) hag h1 h2 h3 h4 hDD hRA
  obtain ⟨D2, rm2, rs2, rr2, dm2, ds2, dr2, ce2, cn2, k1, k2, k3, k4, H⟩ := hRA
  refine al_m (ys := [I 0, .slice none 0 0]) H (by kernel_rfl) fun w b8 H => ?_
  refine stA_m (vs := res2.m.enc) H Upd.here rfl rfl (cMs.sc _) fun w H => ?_
  refine ldA_m (l := res.m.enc) H (Has.cons (Has.app (Has.app (mem_RF (Has.app (Has.app (Has.app (mem_F (Has.app Has.here))))))))) rfl ?_
  refine ldA_m (l := res2.m.enc) H Has.here rfl ?_
  refine cal_h (message_spec (D := D1 ++ D) (D2 := D1 ++ D) (hok.mono fun c hc => List.mem_append_right _ hc).1 hok2.1 hsay (fun c hc => List.mem_cons_of_mem _ (List.mem_append_right _ (List.mem_append_right _ (mem_RF (List.mem_append_right _ (List.mem_append_right _ (List.mem_append_right _ (mem_F (hDD c hc))))))))) (fun c hc => List.mem_cons_of_mem _ (List.mem_append_right _ (List.mem_append_right _ (mem_RF (List.mem_append_right _ (List.mem_append_right _ (List.mem_append_right _ (mem_F (hDD c hc))))))))) H) ?_
  rintro _ w ⟨rfl, H⟩
  have h2w := two_of (G2 := []) (D' := []) hag h1 h2 h3 h4 hDD (w := w) (qb := qb) (rb := rb) (se2 := se2) (sn2 := sn2) ⟨D2, rm2, rs2, rr2, dm2, ds2, dr2, ce2, cn2, k1, k2, k3, k4, H.tail⟩
  have hl := recv_es (q := q) (th := a.th) (wait := a.wait) (dl := a.time) (cp := cp)
  rw [hres] at hl
  (try simp only [W0])
  rw [hag.blk]
  refine pv_of (binB_eq _) ?_
  (try simp only [W0])
  refine eql_y hag.err ?_
  (try simp only [W0])
  refine h2w.ends (by omega) fun w h2w => ?_
  (try simp only [W0])
  refine h2w.notices (by omega) fun w h2w => ?_
  (try simp only [W0])
  refine h2w.done ?_
  rw [← hres]; exact recv_mx
theorem do_cancel {a : Ac} {b5 : Nat} (hP : PR q r S N) (hD : ∀ c ∈ D, c ∈ F) (hb5 : Has F b5 (.t 36) a.enc) (hq : QAt w0 D q sm sr ss cm cr cs) (hr : RAt w0 D r rm rs rr dm ds dr) (H : Hp w0 w (q.mem qb sm sr ss cm cr cs (r.mem rb rm rs rr dm ds dr F))) :
    F9_j11 (DoQ w0 qb rb (N + 1) q.max q.size) (ptr qb 0) (ptr rb 0) (ptr b5 0) w := by
  have hbh : Has (q.mem qb sm sr ss cm cr cs (r.mem rb rm rs rr dm ds dr F)) b5 (.t 36) a.enc := mem_F (mem_RF hb5)
  unfold F9_j11
  (try simp only [W0])
  refine ld_m H hbh (o := 1) (v := I a.th) rfl ?_
  refine cal_h (cancel_spec hq H) ?_
  clear H
  rintro _ w ⟨se, rfl, D1, sm1, sr1, ss1, cm1, cr1, cs1, ce, cn, h1, h2, h3, h4, H⟩
  (try simp only [W0])
  have hag := hP.cancel (th := a.th)
  have hl := cancel_es (q := q) (th := a.th)
  rw [← hl.2] at h2
  have H2 : Hp w0 w (r.mem rb rm rs rr dm ds dr (ce ++ (cn ++ ((q.cancel a.th).q.mem qb sm1 sr1 ss1 cm1 cr1 cs1 (D1 ++ F))))) := H.to fun q => by simp only [Q25.mem, RQ.mem, List.map_append, List.map_cons, List.sum_append, List.sum_cons]; omega
  clear H
  have hbr : Has (r.mem rb rm rs rr dm ds dr (ce ++ (cn ++ ((q.cancel a.th).q.mem qb sm1 sr1 ss1 cm1 cr1 cs1 (D1 ++ F))))) b5 (.t 36) a.enc := mem_RF (Has.app (Has.app (mem_F (Has.app hb5))))
  refine ld_m H2 hbr (o := 1) (v := I a.th) rfl ?_
  have hDD : ∀ c ∈ D1 ++ D, c ∈ D1 ++ F := fun c hc => by
    rcases List.mem_append.1 hc with hc | hc
    · exact List.mem_append_left _ hc
    · exact List.mem_append_right _ (hD c hc)
  refine cal_h (rcancel_spec (D := D1 ++ D) (hr.monoD fun c hc => List.mem_append_right _ hc) H2) ?_
  rintro _ w ⟨se2, rfl, hRA⟩
  (try simp only [W0])
  rw [show ([] : List Nc) = (r.cancel a.th).ns from by rw [← hag.ns, hl.2]] at hRA
  have h2w := two_of (G2 := []) (D' := []) hag h1 h2 h3 h4 hDD hRA
  refine eql_y hag.err ?_
  (try simp only [W0])
  refine h2w.ends (by omega) fun w h2w => ?_
  (try simp only [W0])
  refine h2w.notices (by rw [hl.2]; simp) fun w h2w => ?_
  (try simp only [W0])
  exact h2w.done cancel_mx
theorem do_adv {a : Ac} {b5 : Nat} (hP : PR q r S N) (hD : ∀ c ∈ D, c ∈ F) (hb5 : Has F b5 (.t 36) a.enc) (hq : QAt w0 D q sm sr ss cm cr cs) (hr : RAt w0 D r rm rs rr dm ds dr) (H : Hp w0 w (q.mem qb sm sr ss cm cr cs (r.mem rb rm rs rr dm ds dr F))) :
    F9_j14 (DoQ w0 qb rb (N + 1) q.max q.size) (ptr qb 0) (ptr rb 0) (ptr b5 0) w := by
  have hbh : Has (q.mem qb sm sr ss cm cr cs (r.mem rb rm rs rr dm ds dr F)) b5 (.t 36) a.enc := mem_F (mem_RF hb5)
  unfold F9_j14
  (try simp only [W0])
  refine ld_m H hbh (o := 5) (v := I a.time) rfl ?_
  refine cal_h (adv_spec hq H) ?_
  clear H
  rintro _ w ⟨ra, se, hra, rfl, D1, sm1, sr1, ss1, cm1, cr1, cs1, ce, cn, h1, h2, h3, h4, H⟩
  (try simp only [W0])
  have hns : ra.ns = [] := by
    unfold AdvOK at hra
    split at hra
    · rw [hra]
    split at hra
    · rw [hra]
    · obtain ⟨C, _, _, e⟩ := hra; rw [e]
  have hel := adv_len hra hq.ls hq.lr
  rw [← hns] at h2
  have H2 : Hp w0 w (r.mem rb rm rs rr dm ds dr (ce ++ (cn ++ (ra.q.mem qb sm1 sr1 ss1 cm1 cr1 cs1 (D1 ++ F))))) := H.to fun q => by simp only [Q25.mem, RQ.mem, List.map_append, List.map_cons, List.sum_append, List.sum_cons]; omega
  clear H
  have hbr : Has (r.mem rb rm rs rr dm ds dr (ce ++ (cn ++ (ra.q.mem qb sm1 sr1 ss1 cm1 cr1 cs1 (D1 ++ F))))) b5 (.t 36) a.enc := mem_RF (Has.app (Has.app (mem_F (Has.app hb5))))
  refine ld_m H2 hbr (o := 5) (v := I a.time) rfl ?_
  have hDD : ∀ c ∈ D1 ++ D, c ∈ D1 ++ F := fun c hc => by
    rcases List.mem_append.1 hc with hc | hc
    · exact List.mem_append_left _ hc
    · exact List.mem_append_right _ (hD c hc)
  refine cal_h (radv_spec (D := D1 ++ D) (hr.monoD fun c hc => List.mem_append_right _ hc) H2) ?_
  rintro _ w ⟨rr2, se2, hrr, rfl, hRA⟩
  (try simp only [W0])
  have hag := hP.adv hra hrr
  rw [show ([] : List Nc) = rr2.ns from by rw [← hag.ns, hns]] at hRA
  have h2w := two_of (G2 := []) (D' := []) hag h1 h2 h3 h4 hDD hRA
  refine eql_y hag.err ?_
  (try simp only [W0])
  refine h2w.ends hel fun w h2w => ?_
  (try simp only [W0])
  refine h2w.notices (by rw [hns]; simp) fun w h2w => ?_
  (try simp only [W0])
  exact h2w.done (adv_mx hra)
theorem do_reg {a : Ac} {b5 : Nat} (hP : PR q r S N) (hD : ∀ c ∈ D, c ∈ F) (hb5 : Has F b5 (.t 36) a.enc) (hq : QAt w0 D q sm sr ss cm cr cs) (hr : RAt w0 D r rm rs rr dm ds dr) (H : Hp w0 w (q.mem qb sm sr ss cm cr cs (r.mem rb rm rs rr dm ds dr F))) :
    F9_j17 (DoQ w0 qb rb (N + 1) q.max q.size) (ptr qb 0) (ptr rb 0) (ptr b5 0) w := by
  have hbh : Has (q.mem qb sm sr ss cm cr cs (r.mem rb rm rs rr dm ds dr F)) b5 (.t 36) a.enc := mem_F (mem_RF hb5)
  unfold F9_j17
  refine drew_k H fun w H => ?_
  have c1 : w.cell? ⟨b5, 1, none⟩ = some (I a.th) := H.cellM hbh rfl
  have c6 : cellsAt w ⟨b5, 6, none⟩ 0 5 = some [I a.ki, I a.co, I a.pr, I a.cd, I a.va] := H.partM (o := 6) (n := 5) hbh (by simp [Ac.enc]) rfl
  (try simp only [W0])
  refine ld_m H hbh (o := 1) (v := I a.th) rfl ?_
  (try simp only [W0])
  refine ldP_m (ys := [I a.ki, I a.co, I a.pr, I a.cd, I a.va]) H hbh (o := 6) (by simp [Ac.enc]) rfl ?_
  refine bld_a ?_
  (try simp only [W0])
  refine cal_h (register_spec (n := ⟨a.th, a.ki, a.co, a.pr, a.cd, a.va⟩) (fun c hc => mem_RF (hD c hc)) hq H) ?_
  clear H
  rintro _ w ⟨nb, rfl, D1, sm1, sr1, ss1, cm1, cr1, cs1, ce, cn, h1, h2, h3, h4, H⟩
  (try simp only [W0])
  obtain ⟨he, hP2⟩ := hP.reg (n := ⟨a.th, a.ki, a.co, a.pr, a.cd, a.va⟩) (b := nb)
  generalize hq2 : (if regE q ⟨a.th, a.ki, a.co, a.pr, a.cd, a.va⟩ = 0 then { q with nt := some (nb, (⟨a.th, a.ki, a.co, a.pr, a.cd, a.va⟩ : Nc)) } else q) = q2 at *
  have H2 : Hp w0 w (r.mem rb rm rs rr dm ds dr (ce ++ (cn ++ (q2.mem qb sm1 sr1 ss1 cm1 cr1 cs1 (D1 ++ F))))) := H.to fun q => by simp only [Q25.mem, RQ.mem, List.map_append, List.map_cons, List.sum_append, List.sum_cons]; omega
  clear H
  have hbr : Has (r.mem rb rm rs rr dm ds dr (ce ++ (cn ++ (q2.mem qb sm1 sr1 ss1 cm1 cr1 cs1 (D1 ++ F))))) b5 (.t 36) a.enc := mem_RF (Has.app (Has.app (mem_F (Has.app hb5))))
  refine ldS_m H2 hbr (o := 1) (v := I a.th) rfl (by intro z hz; rw [List.mem_singleton.1 hz]; exact c1) ?_
  (try simp only [W0])
  have e6 : cellsAt w ⟨b5, 6, none⟩ 0 5 = some [I a.ki, I a.co, I a.pr, I a.cd, I a.va] := H2.partM (o := 6) (n := 5) hbr (by simp [Ac.enc]) rfl
  have key : ∀ {K : VK} {x : World}, cellsAt x ⟨b5, 6, none⟩ 0 5 = some [I a.ki, I a.co, I a.pr, I a.cd, I a.va] → K (.agg ⟨[I a.ki, I a.co, I a.pr, I a.cd, I a.va]⟩) w → ldNS [x] 5 (ptr b5 6) K w := by
    intro K x hx g
    simp only [ldNS, e6, stabN]
    exact ⟨hx, g⟩
  refine key c6 ?_
  refine bld_a ?_
  (try simp only [W0])
  have hDD : ∀ c ∈ D1 ++ D, c ∈ D1 ++ F := fun c hc => by
    rcases List.mem_append.1 hc with hc | hc
    · exact List.mem_append_left _ hc
    · exact List.mem_append_right _ (hD c hc)
  refine cal_h (rregister_spec (n := ⟨a.th, a.ki, a.co, a.pr, a.cd, a.va⟩) (D := D1 ++ D) (hr.monoD fun c hc => List.mem_append_right _ hc) H2) ?_
  rintro _ w ⟨rfl, hRA⟩
  (try simp only [W0])
  refine eql_y he ?_
  have h2w := two_of (G2 := []) (D' := []) (a := ⟨false, [], [], 0, q2⟩) (b := ⟨false, [], [], 0, _⟩) (se := .slice none 0 0) (sn := .slice none 0 0) ⟨rfl, rfl, rfl, rfl, S, hP2⟩ h1 h2 h3 h4 hDD hRA
  refine h2w.done ?_
  rw [← hq2]; split <;> exact ⟨rfl, rfl⟩
theorem do_unreg {a : Ac} {b5 : Nat} (hP : PR q r S N) (hD : ∀ c ∈ D, c ∈ F) (hb5 : Has F b5 (.t 36) a.enc) (hq : QAt w0 D q sm sr ss cm cr cs) (hr : RAt w0 D r rm rs rr dm ds dr) (H : Hp w0 w (q.mem qb sm sr ss cm cr cs (r.mem rb rm rs rr dm ds dr F))) :
    F9_j1 (DoQ w0 qb rb (N + 1) q.max q.size) (ptr qb 0) (ptr rb 0) (ptr b5 0) w := by
  have hbh : Has (q.mem qb sm sr ss cm cr cs (r.mem rb rm rs rr dm ds dr F)) b5 (.t 36) a.enc := mem_F (mem_RF hb5)
  unfold F9_j1
  refine drew_k H fun w H => ?_
  have c1 : w.cell? ⟨b5, 1, none⟩ = some (I a.th) := H.cellM hbh rfl
  (try simp only [W0])
  refine ld_m H hbh (o := 1) (v := I a.th) rfl ?_
  (try simp only [W0])
  refine cal_h (unregister_spec (ow := a.th) (fun c hc => mem_RF (hD c hc)) hq H) ?_
  clear H
  rintro _ w ⟨rfl, D1, sm1, sr1, ss1, cm1, cr1, cs1, ce, cn, h1, h2, h3, h4, H⟩
  (try simp only [W0])
  obtain ⟨he, hP2⟩ := hP.unreg (ow := a.th)
  generalize hq2 : (if unregE q a.th = 0 then { q with nt := none } else q) = q2 at *
  have H2 : Hp w0 w (r.mem rb rm rs rr dm ds dr (ce ++ (cn ++ (q2.mem qb sm1 sr1 ss1 cm1 cr1 cs1 (D1 ++ F))))) := H.to fun q => by simp only [Q25.mem, RQ.mem, List.map_append, List.map_cons, List.sum_append, List.sum_cons]; omega
  clear H
  have hbr : Has (r.mem rb rm rs rr dm ds dr (ce ++ (cn ++ (q2.mem qb sm1 sr1 ss1 cm1 cr1 cs1 (D1 ++ F))))) b5 (.t 36) a.enc := mem_RF (Has.app (Has.app (mem_F (Has.app hb5))))
  refine ldS_m H2 hbr (o := 1) (v := I a.th) rfl (by intro z hz; rw [List.mem_singleton.1 hz]; exact c1) ?_
  (try simp only [W0])
  have hDD : ∀ c ∈ D1 ++ D, c ∈ D1 ++ F := fun c hc => by
    rcases List.mem_append.1 hc with hc | hc
    · exact List.mem_append_left _ hc
    · exact List.mem_append_right _ (hD c hc)
  refine cal_h (runregister_spec (ow := a.th) (D := D1 ++ D) (hr.monoD fun c hc => List.mem_append_right _ hc) H2) ?_
  rintro _ w ⟨rfl, hRA⟩
  (try simp only [W0])
  refine eql_y he ?_
  have h2w := two_of (G2 := []) (D' := []) (a := ⟨false, [], [], 0, q2⟩) (b := ⟨false, [], [], 0, _⟩) (se := .slice none 0 0) (sn := .slice none 0 0) ⟨rfl, rfl, rfl, rfl, S, hP2⟩ h1 h2 h3 h4 hDD hRA
  refine h2w.done ?_
  rw [← hq2]; split <;> exact ⟨rfl, rfl⟩
theorem do_spec {a : Ac} (hB : Both w0 w qb rb q r S N) (hN : 0 ≤ N ∧ N < 2 ^ 50) (hk : 0 ≤ a.kind ∧ a.kind < 256) (ha : TR cB w0 [] a.sh.val a.data) (hal : a.data.length ≤ 5000) :
    Calls Pg 9 ⟨[ptr qb 0, ptr rb 0, .agg ⟨a.enc⟩]⟩ w (DoQ w0 qb rb (N + 1) q.max q.size) := by
  obtain ⟨D, F, sm, sr, ss, cm, cr, cs, rm, rs, rr, dm, ds, dr, hP, hD, hq, hr, H⟩ := hB
  apply F9_calls
  unfold F9
  refine bx_m (vs := a.enc) H fun w b5 H => ?_
  unfold F9_j2
  (try simp only [W0])
  refine ld_m H Has.here (o := 0) (v := U8 a.kind) rfl ?_
  have hrem : bin .rem (U8 a.kind) (U8 10) = some (U8 (a.kind % 10)) := by rw [bin_rem (by decide), Int.tmod_eq_emod_of_nonneg hk.1]
  refine pv_of hrem ?_
  generalize hkk : a.kind % 10 = kk
  replace H : Hp w0 w (q.mem qb sm sr ss cm cr cs (r.mem rb rm rs rr dm ds dr (⟨b5, .t 36, a.enc⟩ :: F))) := H.to fun q => by simp only [Q25.mem, RQ.mem, List.map_append, List.map_cons, List.sum_append, List.sum_cons]; omega
  have hD' : ∀ c ∈ D, c ∈ (⟨b5, .t 36, a.enc⟩ : Chunk) :: F := fun c hc => List.mem_cons_of_mem _ (hD c hc)
  unfold F9_j3
  have send : F9_j4 (DoQ w0 qb rb (N + 1) q.max q.size) (ptr qb 0) (ptr rb 0) (ptr b5 0) (U8 kk) (.bool true) w := by
    unfold F9_j4
    (try simp only [W0])
    exact do_send hP hN ha hal hD' Has.here hq hr H
  have recv : F9_j7 (DoQ w0 qb rb (N + 1) q.max q.size) (ptr qb 0) (ptr rb 0) (ptr b5 0) (U8 kk) (.bool true) w := by
    unfold F9_j7
    (try simp only [W0])
    exact do_recv hP hN hD' Has.here hq hr H
  refine eql_k (fun h0 => ?_) (fun h0 => ?_)
  · (try simp only [W0])
    exact send
  (try simp only [W0])
  refine eql_k (fun h0 => ?_) (fun h0 => ?_)
  · (try simp only [W0])
    exact send
  (try simp only [W0])
  refine eql_k (fun h0 => ?_) (fun h0 => ?_)
  · exact send
  unfold F9_j4
  (try simp only [W0])
  unfold F9_j6
  refine eql_k (fun h0 => ?_) (fun h0 => ?_)
  · (try simp only [W0])
    exact recv
  (try simp only [W0])
  refine eql_k (fun h0 => ?_) (fun h0 => ?_)
  · (try simp only [W0])
    exact recv
  (try simp only [W0])
  refine eql_k (fun h0 => ?_) (fun h0 => ?_)
  · exact recv
  unfold F9_j7
  (try simp only [W0])
  unfold F9_j9
  refine eql_k (fun h0 => ?_) (fun h0 => ?_)
  · unfold F9_j10
    (try simp only [W0])
    exact do_cancel hP hD' Has.here hq hr H
  unfold F9_j10
  (try simp only [W0])
  unfold F9_j12
  refine eql_k (fun h0 => ?_) (fun h0 => ?_)
  · unfold F9_j13
    (try simp only [W0])
    exact do_adv hP hD' Has.here hq hr H
  unfold F9_j13
  (try simp only [W0])
  unfold F9_j15
  refine eql_k (fun h0 => ?_) (fun h0 => ?_)
  · unfold F9_j16
    (try simp only [W0])
    exact do_reg hP hD' Has.here hq hr H
  unfold F9_j16
  (try simp only [W0])
  exact do_unreg hP hD' Has.here hq hr H
end
end Go.Proofs.YthcekppbbanfeaaGreat.Den
