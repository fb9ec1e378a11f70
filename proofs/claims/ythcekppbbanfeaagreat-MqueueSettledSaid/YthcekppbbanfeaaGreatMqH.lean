/- Message queue: New, Receive, Cancel, Register, Unregister, Now, Senders, Receivers. Conditions: none. -/
import Derived.Test.YthcekppbbanfeaaGreatMqG
set_option linter.unusedVariables false
set_option linter.unusedSimpArgs false
set_option maxRecDepth 8000
set_option maxHeartbeats 2000000
namespace Go.Proofs.YthcekppbbanfeaaGreat.Den
open Go Go.RowKit
def q0 (mx sz : Int) : Q25 := ⟨[], mx, sz, 0, 0, [], [], none⟩
def badNew (mx sz : Int) : Prop := mx < 1 ∨ 64 < mx ∨ sz < 1 ∨ 4096 < sz
def Q25.cancel (q : Q25) (th : Int) : SRes :=
  if th ∈ q.sn.map Sw.th then ⟨false, [⟨th, ms0, 13⟩], [], 0, { q with sn := q.sn.filter fun x => !decide (x.th = th) }⟩
  else if th ∈ q.rc.map Rw.th then ⟨false, [⟨th, ms0, 13⟩], [], 0, { q with rc := q.rc.filter fun x => !decide (x.th = th) }⟩
  else ⟨false, [], [], 22, q⟩
def regE (q : Q25) (n : Nc) : Int := if n.ow < 0 ∨ 256 ≤ n.ow then 34 else if n.ki < 0 ∨ 5 ≤ n.ki then 17 else if q.nt.isSome then 5 else 0
def unregE (q : Q25) (ow : Int) : Int := match q.nt with | none => 22 | some x => if x.2.ow ≠ ow then 22 else 0
theorem or_kk {a b : Bool} {K : VK} {w : World} (g : K (.bool (a || b)) w) : pv (pickO (.bool a) (.bool true) (.bool b)) K w := by
  cases a with
  | true => (try simp only [W0]); exact g
  | false => (try simp only [W0]); exact g
theorem fld_kp {x : Kp} : fldN 0 2 (.agg ⟨x.enc⟩) = some (.agg ⟨x.m.enc⟩) := by simp [fldN, Kp.enc, Ms.enc]
section
variable {w w' w0 : World} {L L' F cs cs2 A X Y cm cr D : List Chunk} {s s2 sm sr ss : Value} {K : VK} {R : ER} {b i j qb : Nat} {q : Q25} {m : Ms} {th dl : Int} {wait : Bool}
theorem new_spec {mx sz : Int} (H : Hp w0 w L) : Calls Pg 5 ⟨[I mx, I sz]⟩ w fun e w' => (badNew mx sz ∧ e = .returned (.tuple ⟨[.pointer none, I 34]⟩) ∧ Hp w0 w' L) ∨
    ∃ qb, ¬ badNew mx sz ∧ e = .returned (.tuple ⟨[ptr qb 0, I 0]⟩) ∧ QAt w0 [] (q0 mx sz) (.slice none 0 0) (.slice none 0 0) (.slice none 0 0) [] [] [] ∧ Hp w0 w' ((q0 mx sz).mem qb (.slice none 0 0) (.slice none 0 0) (.slice none 0 0) [] [] [] L) := by
  apply F5_calls
  unfold F5
  refine lss_k (fun h1 => ?_) (fun h1 => ?_)
  · (try simp only [W0])
    exact .inl ⟨.inl h1, (by first | rfl | trivial), H⟩
  (try simp only [W0])
  refine gtr_k (fun h2 => ?_) (fun h2 => ?_)
  · (try simp only [W0])
    exact .inl ⟨.inr (.inl h2), (by first | rfl | trivial), H⟩
  (try simp only [W0])
  refine lss_k (fun h3 => ?_) (fun h3 => ?_)
  · (try simp only [W0])
    exact .inl ⟨.inr (.inr (.inl h3)), (by first | rfl | trivial), H⟩
  (try simp only [W0])
  refine gtr_k (fun h4 => ?_) (fun h4 => ?_)
  · (try simp only [W0])
    exact .inl ⟨.inr (.inr (.inr h4)), (by first | rfl | trivial), H⟩
  (try simp only [W0])
  refine bld_a ?_
  refine bx_m H fun w qb H => ?_
  exact .inr ⟨qb, by unfold badNew; omega, rfl, ⟨TS.nil, TS.nil, TS.nil, by simp [q0], by simp [q0], by simp [q0], by simp [q0], by simp [q0], by simp [q0]⟩, H⟩
theorem recv_spec (hD : ∀ c ∈ D, c ∈ F) (hq : QAt w0 D q sm sr ss cm cr cs) (hmx : q.max ≤ 64) (hnum : 0 ≤ q.num ∧ q.num < 2 ^ 60) (H : Hp w0 w (q.mem qb sm sr ss cm cr cs F)) :
    Calls Pg 24 ⟨[ptr qb 0, I th, .bool wait, I dl]⟩ w fun e w' => ∃ (cp : Ms → Ms) (se sn : Value), (∀ m, (cp m).pri = m.pri ∧ (cp m).bs = m.bs) ∧ MsOK w0 D (q.recv th wait dl cp).m ∧
      e = .returned (.tuple ⟨[.agg ⟨(q.recv th wait dl cp).m.enc⟩, .bool (q.recv th wait dl cp).r.blk, se, sn, I (q.recv th wait dl cp).r.err]⟩) ∧
      After w0 w' D F qb (q.recv th wait dl cp).r.q (q.recv th wait dl cp).r.es (q.recv th wait dl cp).r.ns se sn := by
  generalize hQ : (fun (e : Ending) (w' : World) => ∃ (cp : Ms → Ms) (se sn : Value), (∀ m, (cp m).pri = m.pri ∧ (cp m).bs = m.bs) ∧ MsOK w0 D (q.recv th wait dl cp).m ∧
      e = .returned (.tuple ⟨[.agg ⟨(q.recv th wait dl cp).m.enc⟩, .bool (q.recv th wait dl cp).r.blk, se, sn, I (q.recv th wait dl cp).r.err]⟩) ∧
      After w0 w' D F qb (q.recv th wait dl cp).r.q (q.recv th wait dl cp).r.es (q.recv th wait dl cp).r.ns se sn : ER) = Q
  have hsr : scalar sr = true := hq.r.sc
  have hss : scalar ss = true := hq.s.sc
  have hsm : scalar sm = true := hq.m.sc
  have hms0 : MsOK w0 D ms0 := ⟨TR.nil, by simp [ms0]⟩
  apply F24_calls
  unfold F24
  refine al_m (ys := [I 0, .slice none 0 0]) H (by kernel_rfl) fun w b8 H => ?_
  replace H : Hp w0 w (q.mem qb sm sr ss cm cr cs (⟨b8, .t 43, [I 0, .slice none 0 0]⟩ :: F)) := H.to fun q => by simp only [Q25.mem, List.map_append, List.map_cons, List.sum_append, List.sum_cons]; omega
  have quiet : ∀ (w : World) (err : Int), (∀ cp, q.recv th wait dl cp = ⟨ms0, ⟨false, [], [], err, q⟩⟩) → Hp w0 w (q.mem qb sm sr ss cm cr cs (⟨b8, .t 43, [I 0, .slice none 0 0]⟩ :: F)) → (pv (bldO [.int .i64 0, .slice none 0 0] []) fun v => stN 2 (ptr b8 0) v fun _ => ldN 2 (ptr b8 0) fun v2 => Q (.returned (.tuple ⟨[v2, (.bool false), (.slice none 0 0), (.slice none 0 0), I err]⟩))) w := by
    intro w err h H
    unfold Q25.mem at H
    refine bld_a ?_
    refine stA_m (vs := [.int .i64 0, .slice none 0 0]) H (Upd.cons (Upd.app (Upd.app (Upd.app Upd.here)))) rfl rfl (by intro c hc; simp at hc; rcases hc with rfl | rfl <;> rfl) fun w H => ?_
    refine ldA_m H (Has.cons (Has.app (Has.app (Has.app Has.here)))) rfl ?_
    subst hQ
    refine ⟨id, .slice none 0 0, .slice none 0 0, fun m => ⟨rfl, rfl⟩, ?_⟩
    rw [h]
    exact ⟨hms0, rfl, After.drop (After.same hq H)⟩
  unfold F24_j10
  (try simp only [W0])
  unfold F24_j11
  (try simp only [W0])
  unfold F24_j12
  refine cal_h (valid_spec H) ?_
  rintro _ w ⟨rfl, H⟩
  (try simp only [W0])
  unfold F24_j13
  cases hv : validT th dl with
  | false =>
    (try simp only [W0])
    exact quiet w 34 (fun cp => by unfold Q25.recv; rw [if_pos hv]) H
  | true =>
  have hv' : ¬ validT th dl = false := by rw [hv]; decide
  (try simp only [W0])
  unfold F24_j14
  refine cal_h (blocked_spec hq H) ?_
  rintro _ w ⟨rfl, H⟩
  (try simp only [W0])
  cases hb : q.blocked th with
  | true =>
    (try simp only [W0])
    exact quiet w 5 (fun cp => by unfold Q25.recv; rw [if_neg hv', if_pos hb]) H
  | false =>
  have hb' : ¬ q.blocked th = true := by rw [hb]; decide
  (try simp only [W0])
  unfold F24_j1 F24_j5
  (try simp only [W0])
  unfold Q25.mem at H
  refine ld_m H Has.here (o := 0) (v := sm) rfl ?_
  refine cal_h (len_spec hq.m.tr H) ?_
  rintro _ w ⟨rfl, H⟩
  (try simp only [W0])
  unfold F24_j6
  refine eql_k (fun h1 => ?_) (fun h1 => ?_)
  · (try simp only [W0])
    unfold F24_j7 F24_j9
    (try simp only [W0])
    refine ld_m H Has.here (o := 5) (v := sr) rfl ?_
    refine pv_of (lenS_ts hq.r) ?_
    refine cal_h (block_spec (q := q) (l := sm :: q.rest sr ss) Has.here rfl H) ?_
    rintro _ w ⟨rfl, H⟩
    (try simp only [W0])
    have hms : q.ms = [] := List.length_eq_zero_iff.1 (by omega)
    have hpk : (popK q.ms)[q.ms.length - 1]? = none := by rw [hms]; rfl
    refine neq_k (fun h5 => ?_) (fun h5 => ?_)
    · (try simp only [cnd_true])
      exact quiet w _ (fun cp => by unfold Q25.recv; rw [if_neg hv', if_neg hb', hpk]; simp only; rw [if_pos h5]) H
    · (try simp only [cnd_false])
      have hlim := blockE_lim h5
      unfold F24_j8
      (try simp only [W0])
      refine ld_m H Has.here (o := 5) (v := sr) rfl ?_
      refine bld_a ?_
      refine lit1_t (C := cRw) (x := ⟨th, dl⟩) elRw H rfl (by decide) fun w sx cx H hx => ?_
      refine append_t (C := cRw) (F := cx ++ (⟨qb, .t 62, sm :: q.rest sr ss⟩ :: (cm ++ (cs ++ (⟨b8, .t 43, [I 0, .slice none 0 0]⟩ :: F))))) elRw H hq.r (Split.app (Split.cons (Split.app Split.here))) hx.tr (fun c hc => List.mem_append_left _ hc) (by have := hq.lr; simp; omega) (by have := hq.lr; simp; omega) fun w sr' cr' H hs' => ?_
      have hsr' : scalar sr' = true := hs'.sc
      (try simp only [W0])
      refine st_m (o := 5) H (Upd.app (Upd.app Upd.here)) (by simp [Q25.rest]) hsr' fun w H => ?_
      refine bld_a ?_
      refine stA_m (vs := [.int .i64 0, .slice none 0 0]) H (Upd.app (Upd.app (Upd.cons (Upd.app (Upd.app Upd.here))))) rfl rfl (by intro c hc; simp at hc; rcases hc with rfl | rfl <;> rfl) fun w H => ?_
      refine ldA_m (l := [.int .i64 0, .slice none 0 0]) H (Has.app (Has.app (Has.cons (Has.app (Has.app Has.here))))) rfl ?_
      subst hQ
      have e : q.recv th wait dl id = ⟨ms0, ⟨true, [], [], 0, { q with rc := q.rc ++ [⟨th, dl⟩] }⟩⟩ := by
        unfold Q25.recv; rw [if_neg hv', if_neg hb', hpk]; simp only; rw [if_neg (by simpa using h5)]
      refine ⟨id, .slice none 0 0, .slice none 0 0, fun m => ⟨rfl, rfl⟩, ?_⟩
      rw [e]
      refine ⟨hms0, rfl, [], sm, sr', ss, cm, cr', cs, [], [], TS.nil, TS.nil, ⟨hq.m, hs', hq.s, hq.dm, hq.ds, hq.n, hq.lm, by simp; omega, hq.ls⟩, by simp, H.to fun q => ?_⟩
      simp only [Q25.mem, Q25.rest, List.set_cons_zero, List.set_cons_succ, List.nil_append, List.map_append, List.map_cons, List.sum_append, List.sum_cons]; omega
  · (try simp only [W0])
    unfold F24_j2
    have hlm := hq.lm
    replace H : Hp w0 w (Den.hq qb sm (q.rest sr ss) cm (cr ++ (cs ++ (⟨b8, .t 43, [I 0, .slice none 0 0]⟩ :: F)))) := H
    refine cal_h (pop_spec hq.m (by omega) (by omega) H) ?_
    rintro _ w ⟨sm', cm', x, hx, rfl, hM, H⟩
    have hsm' : scalar sm' = true := hM.sc
    have hxm : x ∈ q.ms := popK_mem (List.mem_of_getElem? hx)
    have hok := hq.dm x hxm
    have hdm : ∀ k ∈ (popK q.ms).take (q.ms.length - 1), MsOK w0 D k.m := fun k hk => hq.dm k (popK_mem (List.mem_of_mem_take hk))
    have hlt : ((popK q.ms).take (q.ms.length - 1)).length < 64 := by rw [List.length_take, popK_len]; omega
    (try simp only [W0])
    refine assert_k ?_
    refine pv_of fld_kp ?_
    unfold Den.hq at H
    refine al_m (ys := [I 0, .slice none 0 0]) H (by kernel_rfl) fun w b9 H => ?_
    refine stA_m (vs := x.m.enc) H Upd.here rfl rfl (cMs.sc x.m) fun w H => ?_
    unfold F24_j4
    (try simp only [W0])
    refine ld_m H (Has.cons Has.here) (o := 6) (v := ss) rfl ?_
    refine pv_of (lenS_ts hq.s) ?_
    refine eql_k (fun h2 => ?_) (fun h2 => ?_)
    · (try simp only [W0])
      have hsn : q.sn = [] := List.length_eq_zero_iff.1 (by omega)
      refine ldA_m (l := x.m.enc) H Has.here rfl ?_
      refine stA_m (vs := x.m.enc) H (Upd.cons (Upd.cons (Upd.app (Upd.app (Upd.app Upd.here))))) rfl rfl (cMs.sc x.m) fun w H => ?_
      refine ldA_m (l := x.m.enc) H (Has.cons (Has.cons (Has.app (Has.app (Has.app Has.here))))) rfl ?_
      have e : q.recv th wait dl id = ⟨x.m, ⟨false, [], [], 0, { q with ms := (popK q.ms).take (q.ms.length - 1) }⟩⟩ := by
        unfold Q25.recv; rw [if_neg hv', if_neg hb', hx]; simp only; rw [hsn]
      subst hQ
      refine ⟨id, .slice none 0 0, .slice none 0 0, fun m => ⟨rfl, rfl⟩, ?_⟩
      rw [e]
      refine ⟨hok, rfl, [], sm', sr, ss, cm', cr, cs, [], [], TS.nil, TS.nil, ⟨hM, hq.r, hq.s, hdm, hq.ds, hq.n, Nat.le_of_lt hlt, hq.lr, hq.ls⟩, by simp, H.to fun q => ?_⟩
      simp only [Q25.mem, Q25.rest, List.nil_append, List.map_append, List.map_cons, List.sum_append, List.sum_cons]; omega
    · (try simp only [W0])
      obtain ⟨y, ys, hy⟩ : ∃ y ys, q.sn = y :: ys := by
        cases hc : q.sn with
        | nil => rw [hc] at h2; simp at h2
        | cons y ys => exact ⟨y, ys, rfl⟩
      have hS := hq.s
      have hls := hq.ls
      rw [hy] at hS hls
      unfold F24_j3
      (try simp only [W0])
      replace H : Hp w0 w (⟨qb, .t 62, sm' :: q.rest sr ss⟩ :: (cs ++ (cm' ++ (cr ++ (⟨b9, .t 43, x.m.enc⟩ :: ⟨b8, .t 43, [I 0, .slice none 0 0]⟩ :: F))))) := H.to fun q => by simp only [List.map_append, List.map_cons, List.sum_append, List.sum_cons]; omega
      refine cal_h (popS_spec (o := 6) hS rfl (by simp [Q25.rest]) (by simp at hls; omega) H) ?_
      rintro _ w ⟨ss', cs', rfl, hS', H⟩
      (try simp only [W0])
      refine al_m (ys := zvS) H (by kernel_rfl) fun w b4 H => ?_
      refine stA_m (vs := y.enc) H Upd.here rfl rfl (cSw.sc y) fun w H => ?_
      (try simp only [W0])
      refine ldP_m (ys := y.m.enc) H Has.here (o := 2) (by simp [Sw.enc]) rfl ?_
      have hq' : QAt w0 D { q with ms := (popK q.ms).take (q.ms.length - 1), sn := ys } sm' sr ss' cm' cr cs' :=
        ⟨hM, hq.r, hS', hdm, fun k hk => hq.ds k (by rw [hy]; exact List.mem_cons_of_mem _ hk), hq.n, Nat.le_of_lt hlt, hq.lr, by show ys.length ≤ 64; simp at hls; omega⟩
      have hyok : MsOK w0 D y.m := hq.ds y (by rw [hy]; simp)
      replace H : Hp w0 w (({ q with ms := (popK q.ms).take (q.ms.length - 1), sn := ys } : Q25).mem qb sm' sr ss' cm' cr cs' (⟨b4, .t 113, y.enc⟩ :: ⟨b9, .t 43, x.m.enc⟩ :: ⟨b8, .t 43, [I 0, .slice none 0 0]⟩ :: F)) := H.to fun q => by simp only [Q25.mem, Q25.rest, List.set_cons_zero, List.set_cons_succ, List.map_append, List.map_cons, List.sum_append, List.sum_cons]; omega
      refine cal_h (put_spec (q := { q with ms := (popK q.ms).take (q.ms.length - 1), sn := ys }) hyok (fun c hc => List.mem_cons_of_mem _ (List.mem_cons_of_mem _ (List.mem_cons_of_mem _ (hD c hc)))) hq' (.inr hlt) hnum H) ?_
      rintro _ w ⟨sh, se, sn, rfl, D', sm2, sr2, ss2, cm2, cr2, cs2, ce, cn, he, hn, hq2, hes, H⟩
      (try simp only [W0])
      generalize hpp : ({ q with ms := (popK q.ms).take (q.ms.length - 1), sn := ys } : Q25).put { y.m with sh := sh } = pp at *
      refine drew_k H fun w H => ?_
      have h8 : ∀ {v : List Value}, Has (ce ++ (cn ++ pp.2.mem qb sm2 sr2 ss2 cm2 cr2 cs2 (D' ++ (⟨b4, .t 113, y.enc⟩ :: ⟨b9, .t 43, x.m.enc⟩ :: ⟨b8, .t 43, v⟩ :: F)))) b8 (.t 43) v := Has.app (Has.app (Has.cons (Has.app (Has.app (Has.app (Has.app (Has.cons (Has.cons Has.here))))))))
      have h9 : ∀ {v : List Value}, Has (ce ++ (cn ++ pp.2.mem qb sm2 sr2 ss2 cm2 cr2 cs2 (D' ++ (⟨b4, .t 113, y.enc⟩ :: ⟨b9, .t 43, x.m.enc⟩ :: ⟨b8, .t 43, v⟩ :: F)))) b9 (.t 43) x.m.enc := Has.app (Has.app (Has.cons (Has.app (Has.app (Has.app (Has.app (Has.cons Has.here)))))))
      have h4 : ∀ {v : List Value}, Has (ce ++ (cn ++ pp.2.mem qb sm2 sr2 ss2 cm2 cr2 cs2 (D' ++ (⟨b4, .t 113, y.enc⟩ :: ⟨b9, .t 43, x.m.enc⟩ :: ⟨b8, .t 43, v⟩ :: F)))) b4 (.t 113) y.enc := Has.app (Has.app (Has.cons (Has.app (Has.app (Has.app (Has.app Has.here))))))
      have u8 : Upd (ce ++ (cn ++ pp.2.mem qb sm2 sr2 ss2 cm2 cr2 cs2 (D' ++ (⟨b4, .t 113, y.enc⟩ :: ⟨b9, .t 43, x.m.enc⟩ :: ⟨b8, .t 43, [I 0, .slice none 0 0]⟩ :: F)))) b8 (.t 43) [I 0, .slice none 0 0] (.t 43) x.m.enc (ce ++ (cn ++ pp.2.mem qb sm2 sr2 ss2 cm2 cr2 cs2 (D' ++ (⟨b4, .t 113, y.enc⟩ :: ⟨b9, .t 43, x.m.enc⟩ :: ⟨b8, .t 43, x.m.enc⟩ :: F)))) := Upd.app (Upd.app (Upd.cons (Upd.app (Upd.app (Upd.app (Upd.app (Upd.cons (Upd.cons Upd.here))))))))
      refine ldA_m (l := x.m.enc) H h9 rfl ?_
      (try simp only [W0])
      refine ld_m H h4 (o := 0) (v := I y.th) rfl ?_
      refine bld_a ?_
      have fin : ∀ w sx cx, TS cEn 119 sx [⟨y.th, ms0, 0⟩] cx → Hp w0 w (cx ++ (ce ++ (cn ++ pp.2.mem qb sm2 sr2 ss2 cm2 cr2 cs2 (D' ++ (⟨b4, .t 113, y.enc⟩ :: ⟨b9, .t 43, x.m.enc⟩ :: ⟨b8, .t 43, x.m.enc⟩ :: F))))) → Q (.returned (.tuple ⟨[.agg ⟨x.m.enc⟩, .bool false, sx, sn, I 0]⟩)) w := by
        intro w sx cx hx2 H
        have e : q.recv th wait dl (fun z => { z with sh := sh }) = ⟨x.m, ⟨false, [⟨y.th, ms0, 0⟩], pp.1.2, 0, pp.2⟩⟩ := by
          unfold Q25.recv; rw [if_neg hv', if_neg hb', hx]; simp only; rw [hy]; simp only; rw [hpp]
        subst hQ
        refine ⟨fun z => { z with sh := sh }, sx, sn, fun m => ⟨rfl, rfl⟩, ?_⟩
        rw [e]
        refine ⟨hok, rfl, D', sm2, sr2, ss2, cm2, cr2, cs2, cx, cn, hx2, hn, hq2, ?_, H.to fun q => ?_⟩
        · intro z hz
          rw [List.mem_singleton.1 hz]
          exact ⟨TR.nil, by simp [ms0]⟩
        · simp only [Q25.mem, List.map_append, List.map_cons, List.sum_append, List.sum_cons]; omega
      refine ⟨?_, ?_⟩
      · refine lit1_t (C := cEn) (x := ⟨y.th, ms0, 0⟩) elEn H rfl (by decide) fun w sx cx H hx2 => ?_
        refine rdA_m H (Has.app h9) rfl ?_
        refine stA_m (vs := x.m.enc) H (Upd.app u8) rfl rfl (cMs.sc x.m) fun w H => ?_
        refine rd1_m H (Has.app h4) (o := 0) rfl ?_
        refine ldA_m (l := x.m.enc) H (Has.app h8) rfl ?_
        exact fin w sx cx hx2 H
      · (try simp only [allW])
        refine stA_m (vs := x.m.enc) H u8 rfl rfl (cMs.sc x.m) fun w H => ?_
        refine rd1_m H h4 (o := 0) rfl ?_
        refine lit1_t (C := cEn) (x := ⟨y.th, ms0, 0⟩) elEn H rfl (by decide) fun w sx cx H hx2 => ?_
        refine rdA_m H (Has.app h9) rfl ?_
        refine ldA_m (l := x.m.enc) H (Has.app h8) rfl ?_
        exact fin w sx cx hx2 H
end
end Go.Proofs.YthcekppbbanfeaaGreat.Den
