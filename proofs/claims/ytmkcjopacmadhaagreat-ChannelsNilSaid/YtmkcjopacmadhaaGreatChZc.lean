/- Channels: the first example. Conditions: none. -/
import Derived.Test.YtmkcjopacmadhaaGreatChZb
set_option linter.unusedVariables false
set_option linter.unusedSimpArgs false
set_option maxRecDepth 8000
set_option maxHeartbeats 2000000
namespace Go.Proofs.YtmkcjopacmadhaaGreat.Den
open Go Go.RowKit
section
variable {w w' w0 : World} {L L' F cs cs2 cs3 A D D' : List Chunk} {s s2 : Value} {K : VK} {R : ER} {tb n b c r sb x : Nat} {T : Tbl} {pri th code val p k id room : Int} {ch : Chn} {B : TB}
theorem one_dat : TDat w0 D (Tbl.one B p k r sb x) where
  ent := fun a c ha e he => by simp [Tbl.one] at ha; obtain ⟨_, rfl⟩ := ha; cases he
  msg := fun a m ha => by cases ha
  tak := fun a m q ha => by cases ha
  ans := fun a m q ha => by cases ha
theorem undB : Pg.underlying 30 = some (.slice 5) := by kernel_rfl
theorem und8 : Pg.underlying 5 = some (.int .u8) := by kernel_rfl
theorem undS : Pg.underlying 9 = some .string := by kernel_rfl
/-- A constant text as bytes. -/
theorem text_h {parts : List (Nat × Value)} {len : Nat} (xs : List Int) {K : VK} (H : Hp w0 w L) (hl : xs.length = len) (hle : len * 1 ≤ 2 ^ 24) (h0 : len * 1 ≠ 0) (hr : buildL ((List.range (len * 1)).map fun x => [U8 0][x % 1]!) (parts.map fun p => (p.1 * 1, 1, p.2)) = some (cB.all xs))
    (k : ∀ w' s c, Hp w0 w' (c :: L) → TR cB w0 [c] s xs → K s w') : valV Pg R (Instr.buildSlice 30 len ⟨parts⟩) (fun v => valV Pg R (convert 30 30 v) K) w := by
  refine lit_h (sz := 1) elB H hle h0 hr fun w' b H' => ?_
  refine conv_bytes_h undB und8 H' Upd.here fun w2 H2 => k w2 _ _ H2 ?_
  have hal : (cB.all xs).length = len := by rw [all_len, hl]; show len * 1 = len; omega
  exact .inr ⟨b, 0, len, _, cB.all xs, by rw [hl], by omega, ⟨by simp; rfl, rfl⟩, by rw [hal, hl]; show 0 + len * 1 ≤ len; omega, by rw [List.drop_zero, List.take_of_length_le (by rw [hal, hl]; show len ≤ len * 1; omega)]⟩
theorem cBsz : cB.sz = 1 ∧ ∀ n, cB.enc n = [U8 n] := ⟨rfl, fun _ => rfl⟩
theorem take_m {e : Ent} {nm : Nm} (h : e.th ≠ -1) : T.take c e th room nm = ((T.addMs nm.r (e.msg T c th nm.ah) nm.mh).setBlk e.th (some ⟨4, some c, some nm.r⟩), ⟨T.last + 1, e.th, e.pr, e.sid, e.pri, 0, 0, nm.ch, e.data.take room.toNat, (e.data.length : Int), 1⟩) := by
  unfold Tbl.take; rw [if_neg h]
theorem send_one {x : Nat} {data : List Int} {nm : Nm} (h : T.At p k r x ch) (hr : ch.recs = []) (h1 : sendOk th k pri room) (h2 : data.length ≤ 4096) (h3 : T.state th = 1) :
    ∃ T' ch', T.send th k 0 pri room data nm = (T', [], 0) ∧ T'.At p k r x ch' ∧ ch'.ents = insE ⟨pri, T.com + 1, th, k, 0, some x, nm.dh, data, room, 0, 0, 0⟩ ch.ents ∧ ch'.recs = [] ∧ T'.com = T.com + 1 ∧ T'.last = T.last ∧ T'.blk = updF T.blk th (some ⟨2, some r, none⟩) ∧ T'.ml = T.ml ∧ T'.mss = T.mss ∧
      T'.ans = updF T.ans th none ∧ T'.tak = T.tak := by
  refine ⟨_, { ch with ents := insE ⟨pri, T.com + 1, th, k, 0, some x, nm.dh, data, room, 0, 0, 0⟩ ch.ents, eh := nm.eh }, send_q h1 h2 h3 h.lead hr, ?_, rfl, hr, rfl, rfl, rfl, rfl, rfl, rfl, rfl⟩
  exact ((Tbl.At.of (T' := (T.setAns th none).come) h rfl rfl rfl rfl).setCh (ch' := { ch with ents := insE ⟨pri, T.com + 1, th, k, 0, some x, nm.dh, data, room, 0, 0, 0⟩ ch.ents, eh := nm.eh }) h.hp).of rfl rfl rfl rfl
theorem recv_one {x : Nat} {e : Ent} {es : List Ent} {nm : Nm} (h : T.At p k r x ch) (he : ch.ents = e :: es) (ht : e.th ≠ -1) (h1 : sendOk th p pri room) (h3 : T.state th = 1) :
    ∃ T' ch', T.receive th p 0 pri room nm = (T', ⟨T.last + 1, e.th, e.pr, e.sid, e.pri, 0, 0, nm.ch, e.data.take room.toNat, (e.data.length : Int), 1⟩, false, 0) ∧ T'.At p k r x ch' ∧ ch'.ents = es ∧ ch'.recs = ch.recs ∧ T'.com = T.com ∧ T'.last = T.last + 1 ∧
      T'.blk = updF T.blk e.th (some ⟨4, some r, some nm.r⟩) ∧ T'.ml = T.ml ++ [nm.r] ∧ T'.mss = T.mss ++ [(nm.r, ⟨T.last + 1, e.th, th, e.pri, r, e.dh, e.data, nm.ah, List.replicate e.room.toNat 0, 0, false⟩)] ∧ T'.ans = T.ans ∧ T'.tak = T.tak := by
  have := receive_t (nm := nm) h1 h3 h.owned h.hc he
  rw [take_m ht] at this
  refine ⟨_, { ch with ents := es, eh := nm.eh }, this, ?_, rfl, rfl, rfl, rfl, rfl, rfl, rfl, rfl, rfl⟩
  exact (h.setCh (ch' := { ch with ents := es, eh := nm.eh }) h.hp).of rfl rfl rfl rfl
theorem recv_pul {x : Nat} {e : Ent} {es : List Ent} {nm : Nm} (h : T.At p k r x ch) (he : ch.ents = e :: es) (ht : e.th = -1) (h1 : sendOk th p pri room) (h3 : T.state th = 1) :
    ∃ T' ch', T.receive th p 0 pri room nm = (T', ⟨0, -1, e.pr, e.sid, e.pri, e.code, e.val, shN, [], 0, e.cnt⟩, false, 0) ∧ T'.At p k r x ch' ∧ ch'.ents = es ∧ ch'.recs = ch.recs ∧ T'.com = T.com ∧ T'.last = T.last ∧ T'.blk = T.blk ∧ T'.ml = T.ml ∧ T'.mss = T.mss ∧ T'.ans = T.ans ∧ T'.tak = T.tak := by
  have := receive_t (nm := nm) h1 h3 h.owned h.hc he
  unfold Tbl.take at this
  rw [if_pos ht] at this
  refine ⟨_, { ch with ents := es, eh := nm.eh }, this, ?_, rfl, rfl, rfl, rfl, rfl, rfl, rfl, rfl, rfl⟩
  exact h.setCh (ch' := { ch with ents := es, eh := nm.eh }) h.hp
theorem recv_blk {x : Nat} {nm : Nm} (h : T.At p k r x ch) (he : ch.ents = []) (h1 : sendOk th p pri room) (h3 : T.state th = 1) : ∃ T', T.receive th p 0 pri room nm = (T', Mg.none, true, 0) := by
  refine ⟨((((T.setTak th none).come).setCh r { ch with recs := insR ⟨pri, T.com + 1, th, room⟩ ch.recs, rh := nm.rh }).setBlk th (some ⟨3, some r, none⟩)), ?_⟩
  unfold Tbl.receive
  rw [if_neg (fun h => h h1), if_neg (by simpa using h3), h.owned]
  simp only [h.hc, he]
theorem reply_one {m : Msg} {status : Int} {data : List Int} {nm : Nm} {n a : Nat} (hok : T.Ok n) (hp : proc p) (hl : data.length ≤ 4096) (hr : a ∈ T.ml) (hm : oget a T.mss = some m) (hc : oget m.ch T.chs = some ch) (hpr : ch.pr = p) (hle : data.length ≤ m.area.length) :
    ∃ T', T.reply p m.id status data nm = (T', [⟨m.cl, 0, status⟩], 0) ∧ T'.ans = updF T.ans m.cl (some (nm.ch, (m.write 0 data).area.take (m.write 0 data).len.toNat)) ∧ T'.blk = updF T.blk m.cl none ∧ T'.chm = T.chm ∧ T'.chs = T.chs ∧ T'.cnm = T.cnm ∧ T'.cns = T.cns ∧ T'.ml = T.ml.filter (fun b => !decide (b = a)) ∧ T'.com = T.com ∧ T'.last = T.last ∧ T'.tak = T.tak := by
  refine ⟨T.reply1 a m status data nm, ?_, rfl, rfl, rfl, rfl, rfl, rfl, rfl, rfl, rfl, rfl⟩
  unfold Tbl.reply
  rw [asked_at hok hp hl hr hm hc hpr]
  simp only [hm]
  rw [if_neg (by omega)]
theorem read_one {m : Msg} {off cnt : Int} {n a : Nat} (hok : T.Ok n) (hp : proc p) (hr : a ∈ T.ml) (hm : oget a T.mss = some m) (hc : oget m.ch T.chs = some ch) (hpr : ch.pr = p) (h1 : 0 ≤ off) (h2 : 0 ≤ cnt) (h3 : off ≤ m.data.length) :
    T.read p m.id off cnt = ((m.data.drop off.toNat).take cnt.toNat, 0) := by
  unfold Tbl.read
  rw [asked_at hok hp (by omega) hr hm hc hpr]
  simp only [hm]
  rw [if_neg (by omega)]
theorem state_upd {q : Option Plc} {a : Int} (h : T.blk = updF (fun x => (T.blk x)) a q) : True := trivial
theorem state_of {T' : Tbl} {q : Option Plc} {a : Int} (h : T'.blk = updF T.blk a q) (hne : th ≠ a) : T'.state th = T.state th := by
  unfold Tbl.state; rw [h, updF_ne hne]
theorem awake_spec (H : Hp w0 w L) : Calls Pg 9 ⟨[]⟩ w fun e w' => e = .returned (.bool true) ∧ Hp w0 w' L := by
  apply F9_calls
  unfold F9
  refine begin_h (by decide) (by decide) H fun w tb B r sb x A hA H => ?_
  refine text_h [104, 101, 108, 108, 111] H rfl (by decide) (by decide) rfl fun w s1 c1 H ht1 => ?_
  have hat : (Tbl.one B 1 2 r sb x).At 1 2 r x _ := one_at
  refine cal_h (Send_spec (n := 3) (D := []) (F := c1 :: L) hA (by omega) one_ok one_dat ht1 (by simp) H (Split.cons Split.here) (by simp)) ?_
  rintro _ w ⟨nm, sw, A1, cs1, rfl, _, hA, H, hTD, hf⟩
  obtain ⟨T1, ch1, hs1, hat1, hen1, hre1, hcm1, hla1, hbk1, hml1, hms1, han1, _⟩ := send_one (nm := nm) (th := 5) (pri := 10) (room := 4) (data := [104, 101, 108, 108, 111]) hat rfl (by decide) (by decide) rfl
  have hok1 := send_ok (one_ok (B := B) (p := 1) (k := 2) (r := r) (sb := sb) (x := x) (n := 3)) (th := 5) (p := 2) (cn := 0) (pri := 10) (room := 4) (data := [104, 101, 108, 108, 111]) hf
  rw [hs1] at hA hTD hok1 ⊢
  simp only [W0] at hA hTD hok1 ⊢
  clear hs1
  have hen1 : ch1.ents = [_] := hen1
  have hst1 : T1.state 3 = 1 := by rw [state_of hbk1 (by decide)]; rfl
  refine cal_h (Receive_spec (n := 6) (D := cs1 ++ []) (F := cs1 ++ (c1 :: L)) hA (by omega) hok1 hTD H Split.here (by intro x hx; simp at hx; simp [hx])) ?_
  rintro _ w ⟨nm2, A2, cs2, rfl, hdt, hA, H, hTD, hf2⟩
  obtain ⟨T2, ch2, hs2, hat2, hen2, hre2, hcm2, hla2, hbk2, hml2, hms2, han2, _⟩ := recv_one (nm := nm2) (th := 3) (pri := 20) (room := 3) hat1 hen1 (show (5 : Int) ≠ -1 by decide) (by decide) hst1
  have hok2 := receive_ok (th := 3) (p := 1) (id := 0) (pri := 20) (room := 3) hok1 hf2
  rw [hs2] at hA hTD hok2 hdt ⊢
  simp only [W0] at hA hTD hok2 hdt ⊢
  clear hs2
  have hl0 : T1.last = 0 := hla1
  refine al_m (ys := [I 0, I 0, I 0, I 0, I 0, I 0, I 0, .slice none 0 0, I 0, I 0]) H (by kernel_rfl) fun w bo H => ?_
  simp only [Mg.cells]
  repeat (first | simp only [W0, pO, Option.map_some, Option.map_none] | with_reducible (first | refine lss_a ?_ | refine lss_b ?_ | refine gtr_a ?_ | refine gtr_b ?_ | refine geq_a ?_ | refine geq_b ?_ | refine leq_a ?_ | refine leq_b ?_ | refine eql_a ?_ | refine eql_b ?_ | refine neq_a ?_ | refine neq_b ?_ | refine add_a ?_ | refine sub_a ?_ | refine ld_a ?_ | refine ldA_a ?_ | refine ldS_a ?_ | refine ldNS_a ?_ | refine rdA_s ?_ | refine rd1_s ?_ | refine drew_a fun w1 H1 => ?_ | refine st_a fun w1 H1 => ?_ | refine stA_a fun w1 H1 => ?_ | refine lenT_a ?_ | refine lenO_a ?_ | refine ixT_a ?_ | refine ixO_a ?_ | refine bld_a ?_ | refine min_a ?_ | refine max_a ?_  | refine ldT_a ?_ | refine ldC_a ?_ | refine ldX_a ?_ | refine ldM_a ?_ | refine rdT_a ?_ | refine rdC_a ?_ | refine rdX_a ?_ | refine rdM_a ?_ | refine getCh_a ?_ | refine getCh2_a ?_ | refine getCn_a ?_ | refine getCn2_a ?_ | refine getPl_a ?_ | refine getPl2_a ?_ | refine getTk_a ?_ | refine getAn2_a ?_ | refine lenE_a ?_ | refine lenR_a ?_ | refine cv8_a ?_ | refine cv64_a ?_ | fail))
  rw [hl0] at H1
  have H1 : Hp w0 w1 (⟨bo, .t 32, [I 1, I 5, I 2, I 0, I 10, I 0, I 0, nm2.ch.val, I 5, I 1]⟩ :: (A2 ++ (cs2 ++ (cs1 ++ c1 :: L)))) := H1
  unfold F9_j2
  repeat (first | simp only [W0, pO, Option.map_some, Option.map_none] | with_reducible (first | refine lss_a ?_ | refine lss_b ?_ | refine gtr_a ?_ | refine gtr_b ?_ | refine geq_a ?_ | refine geq_b ?_ | refine leq_a ?_ | refine leq_b ?_ | refine eql_a ?_ | refine eql_b ?_ | refine neq_a ?_ | refine neq_b ?_ | refine add_a ?_ | refine sub_a ?_ | refine ld_a ?_ | refine ldA_a ?_ | refine ldS_a ?_ | refine ldNS_a ?_ | refine rdA_s ?_ | refine rd1_s ?_ | refine drew_a fun w1 H1 => ?_ | refine st_a fun w1 H1 => ?_ | refine stA_a fun w1 H1 => ?_ | refine lenT_a ?_ | refine lenO_a ?_ | refine ixT_a ?_ | refine ixO_a ?_ | refine bld_a ?_ | refine min_a ?_ | refine max_a ?_  | refine ldT_a ?_ | refine ldC_a ?_ | refine ldX_a ?_ | refine ldM_a ?_ | refine rdT_a ?_ | refine rdC_a ?_ | refine rdX_a ?_ | refine rdM_a ?_ | refine getCh_a ?_ | refine getCh2_a ?_ | refine getCn_a ?_ | refine getCn2_a ?_ | refine getPl_a ?_ | refine getPl2_a ?_ | refine getTk_a ?_ | refine getAn2_a ?_ | refine lenE_a ?_ | refine lenR_a ?_ | refine cv8_a ?_ | refine cv64_a ?_ | fail))
  refine conv_str_h undB und8 undS cBsz hdt H1 (by intro c hc; simp at hc; rcases hc with h | h <;> simp [h]) ?_
  refine pv_of (v := .bool false) (by kernel_rfl) ?_
  repeat (first | simp only [W0, pO, Option.map_some, Option.map_none] | with_reducible (first | refine lss_a ?_ | refine lss_b ?_ | refine gtr_a ?_ | refine gtr_b ?_ | refine geq_a ?_ | refine geq_b ?_ | refine leq_a ?_ | refine leq_b ?_ | refine eql_a ?_ | refine eql_b ?_ | refine neq_a ?_ | refine neq_b ?_ | refine add_a ?_ | refine sub_a ?_ | refine ld_a ?_ | refine ldA_a ?_ | refine ldS_a ?_ | refine ldNS_a ?_ | refine rdA_s ?_ | refine rd1_s ?_ | refine drew_a fun w1 H1 => ?_ | refine st_a fun w1 H1 => ?_ | refine stA_a fun w1 H1 => ?_ | refine lenT_a ?_ | refine lenO_a ?_ | refine ixT_a ?_ | refine ixO_a ?_ | refine bld_a ?_ | refine min_a ?_ | refine max_a ?_  | refine ldT_a ?_ | refine ldC_a ?_ | refine ldX_a ?_ | refine ldM_a ?_ | refine rdT_a ?_ | refine rdC_a ?_ | refine rdX_a ?_ | refine rdM_a ?_ | refine getCh_a ?_ | refine getCh2_a ?_ | refine getCn_a ?_ | refine getCn2_a ?_ | refine getPl_a ?_ | refine getPl2_a ?_ | refine getTk_a ?_ | refine getAn2_a ?_ | refine lenE_a ?_ | refine lenR_a ?_ | refine cv8_a ?_ | refine cv64_a ?_ | fail))
  unfold F9_j1
  have hrm : nm2.r ∈ T2.ml := by rw [hml2]; simp
  have hmm : oget nm2.r T2.mss = some ⟨0 + 1, 5, 3, 10, r, nm.dh, [104, 101, 108, 108, 111], nm2.ah, List.replicate (Int.toNat 4) 0, 0, false⟩ := by
    rw [hms2, oget_app, show oget nm2.r T1.mss = none from hf2, hl0]
    simp only [Option.none_or, oget, if_true]
  have hpr := read_one (p := 1) (off := 3) (cnt := 9) hok2 (by decide) hrm hmm hat2.hc hat2.hp (by decide) (by decide) (show (3 : Int) ≤ ((5 : Nat) : Int) by decide)
  refine cal_h (Read_spec (n := 9) (p := 1) (id := 1) (off := 3) (k := 9) (D := cs2 ++ (cs1 ++ [])) (F := ⟨bo, .t 32, [I 1, I 5, I 2, I 0, I 10, I 0, I 0, nm2.ch.val, I 5, I 1]⟩ :: (cs2 ++ (cs1 ++ c1 :: L))) hA (by omega) hok2 hTD (by decide) H1 (Split.cons Split.here) (by intro c hc; simp at hc; rcases hc with h | h <;> simp [h])) ?_
  rintro _ w ⟨s3, cs3, rfl, ht3, H⟩
  rw [show T2.read 1 1 3 9 = _ from hpr] at ht3 ⊢
  repeat (first | simp only [W0, pO, Option.map_some, Option.map_none] | with_reducible (first | refine lss_a ?_ | refine lss_b ?_ | refine gtr_a ?_ | refine gtr_b ?_ | refine geq_a ?_ | refine geq_b ?_ | refine leq_a ?_ | refine leq_b ?_ | refine eql_a ?_ | refine eql_b ?_ | refine neq_a ?_ | refine neq_b ?_ | refine add_a ?_ | refine sub_a ?_ | refine ld_a ?_ | refine ldA_a ?_ | refine ldS_a ?_ | refine ldNS_a ?_ | refine rdA_s ?_ | refine rd1_s ?_ | refine drew_a fun w1 H1 => ?_ | refine st_a fun w1 H1 => ?_ | refine stA_a fun w1 H1 => ?_ | refine lenT_a ?_ | refine lenO_a ?_ | refine ixT_a ?_ | refine ixO_a ?_ | refine bld_a ?_ | refine min_a ?_ | refine max_a ?_  | refine ldT_a ?_ | refine ldC_a ?_ | refine ldX_a ?_ | refine ldM_a ?_ | refine rdT_a ?_ | refine rdC_a ?_ | refine rdX_a ?_ | refine rdM_a ?_ | refine getCh_a ?_ | refine getCh2_a ?_ | refine getCn_a ?_ | refine getCn2_a ?_ | refine getPl_a ?_ | refine getPl2_a ?_ | refine getTk_a ?_ | refine getAn2_a ?_ | refine lenE_a ?_ | refine lenR_a ?_ | refine cv8_a ?_ | refine cv64_a ?_ | fail))
  refine text_h [111, 107] H rfl (by decide) (by decide) rfl fun w s4 c4 H ht4 => ?_
  refine cal_h (Reply_spec (n := 9) (p := 1) (id := 1) (status := 7) (data := [111, 107]) (D := cs2 ++ (cs1 ++ [])) (F := c4 :: (cs3 ++ (⟨bo, .t 32, [I 1, I 5, I 2, I 0, I 10, I 0, I 0, nm2.ch.val, I 5, I 1]⟩ :: (cs2 ++ (cs1 ++ c1 :: L))))) hA (by omega) hok2 hTD ht4 (by simp) H (Split.cons Split.here) (by intro c hc; simp at hc; rcases hc with h | h <;> simp [h])) ?_
  rintro _ w ⟨nm5, s5, A5, cs5, rfl, ht5, hA, H, hTD, _⟩
  obtain ⟨T5, hs5, han5, _⟩ := reply_one (p := 1) (status := 7) (data := [111, 107]) (nm := nm5) hok2 (by decide) (by decide) hrm hmm hat2.hc hat2.hp (show 2 ≤ 4 by decide)
  rw [show T2.reply 1 1 7 [111, 107] nm5 = _ from hs5] at ht5 hA hTD ⊢
  simp only [W0] at ht5 hA hTD ⊢
  have han5 : T5.ans = updF T2.ans 5 (some (nm5.ch, [111, 107])) := han5
  have h55 : T5.ans 5 = some (nm5.ch, [111, 107]) := by rw [han5, updF_eq]
  refine cal_h (Answer_spec (th := 5) hA hTD (fun q hq => by rw [h55] at hq; injection hq with hq; subst hq; show 2 ≤ 4096; decide) H Split.here (by intro c hc; simp at hc; rcases hc with h | h | h <;> simp [h])) ?_
  rintro _ w ⟨s6, cs6, rfl, ht6, H⟩
  rw [h55] at ht6 ⊢
  repeat (first | simp only [W0, pO, Option.map_some, Option.map_none] | with_reducible (first | refine lss_a ?_ | refine lss_b ?_ | refine gtr_a ?_ | refine gtr_b ?_ | refine geq_a ?_ | refine geq_b ?_ | refine leq_a ?_ | refine leq_b ?_ | refine eql_a ?_ | refine eql_b ?_ | refine neq_a ?_ | refine neq_b ?_ | refine add_a ?_ | refine sub_a ?_ | refine ld_a ?_ | refine ldA_a ?_ | refine ldS_a ?_ | refine ldNS_a ?_ | refine rdA_s ?_ | refine rd1_s ?_ | refine drew_a fun w1 H1 => ?_ | refine st_a fun w1 H1 => ?_ | refine stA_a fun w1 H1 => ?_ | refine lenT_a ?_ | refine lenO_a ?_ | refine ixT_a ?_ | refine ixO_a ?_ | refine bld_a ?_ | refine min_a ?_ | refine max_a ?_  | refine ldT_a ?_ | refine ldC_a ?_ | refine ldX_a ?_ | refine ldM_a ?_ | refine rdT_a ?_ | refine rdC_a ?_ | refine rdX_a ?_ | refine rdM_a ?_ | refine getCh_a ?_ | refine getCh2_a ?_ | refine getCn_a ?_ | refine getCn2_a ?_ | refine getPl_a ?_ | refine getPl2_a ?_ | refine getTk_a ?_ | refine getAn2_a ?_ | refine lenE_a ?_ | refine lenR_a ?_ | refine cv8_a ?_ | refine cv64_a ?_ | fail))
  refine conv_str_h undB und8 undS cBsz ht3 H (by intro c hc; simp at hc; rcases hc with h | h | h <;> simp [h]) ?_
  refine pv_of (v := .bool true) (by kernel_rfl) ?_
  simp only [W0]
  refine pv_of (lenS_tr ht5) ?_
  refine eql_y (show ((1 : Nat) : Int) = 1 from rfl) ?_
  repeat (first | simp only [W0, pO, Option.map_some, Option.map_none] | with_reducible (first | refine lss_a ?_ | refine lss_b ?_ | refine gtr_a ?_ | refine gtr_b ?_ | refine geq_a ?_ | refine geq_b ?_ | refine leq_a ?_ | refine leq_b ?_ | refine eql_a ?_ | refine eql_b ?_ | refine neq_a ?_ | refine neq_b ?_ | refine add_a ?_ | refine sub_a ?_ | refine ld_a ?_ | refine ldA_a ?_ | refine ldS_a ?_ | refine ldNS_a ?_ | refine rdA_s ?_ | refine rd1_s ?_ | refine drew_a fun w1 H1 => ?_ | refine st_a fun w1 H1 => ?_ | refine stA_a fun w1 H1 => ?_ | refine lenT_a ?_ | refine lenO_a ?_ | refine ixT_a ?_ | refine ixO_a ?_ | refine bld_a ?_ | refine min_a ?_ | refine max_a ?_  | refine ldT_a ?_ | refine ldC_a ?_ | refine ldX_a ?_ | refine ldM_a ?_ | refine rdT_a ?_ | refine rdC_a ?_ | refine rdX_a ?_ | refine rdM_a ?_ | refine getCh_a ?_ | refine getCh2_a ?_ | refine getCn_a ?_ | refine getCn2_a ?_ | refine getPl_a ?_ | refine getPl2_a ?_ | refine getTk_a ?_ | refine getAn2_a ?_ | refine lenE_a ?_ | refine lenR_a ?_ | refine cv8_a ?_ | refine cv64_a ?_ | fail))
  refine ixN_t (C := cWk) (i := 0) ht5 H (by intro c hc; simp at hc; rcases hc with h | h | h <;> simp [h]) rfl (by decide) ?_
  repeat (first | simp only [W0, pO, Option.map_some, Option.map_none] | with_reducible (first | refine lss_a ?_ | refine lss_b ?_ | refine gtr_a ?_ | refine gtr_b ?_ | refine geq_a ?_ | refine geq_b ?_ | refine leq_a ?_ | refine leq_b ?_ | refine eql_a ?_ | refine eql_b ?_ | refine neq_a ?_ | refine neq_b ?_ | refine add_a ?_ | refine sub_a ?_ | refine ld_a ?_ | refine ldA_a ?_ | refine ldS_a ?_ | refine ldNS_a ?_ | refine rdA_s ?_ | refine rd1_s ?_ | refine drew_a fun w1 H1 => ?_ | refine st_a fun w1 H1 => ?_ | refine stA_a fun w1 H1 => ?_ | refine lenT_a ?_ | refine lenO_a ?_ | refine ixT_a ?_ | refine ixO_a ?_ | refine bld_a ?_ | refine min_a ?_ | refine max_a ?_  | refine ldT_a ?_ | refine ldC_a ?_ | refine ldX_a ?_ | refine ldM_a ?_ | refine rdT_a ?_ | refine rdC_a ?_ | refine rdX_a ?_ | refine rdM_a ?_ | refine getCh_a ?_ | refine getCh2_a ?_ | refine getCn_a ?_ | refine getCn2_a ?_ | refine getPl_a ?_ | refine getPl2_a ?_ | refine getTk_a ?_ | refine getAn2_a ?_ | refine lenE_a ?_ | refine lenR_a ?_ | refine cv8_a ?_ | refine cv64_a ?_ | fail))
  refine pv_of (v := .bool true) rfl ?_
  repeat (first | simp only [W0, pO, Option.map_some, Option.map_none] | with_reducible (first | refine lss_a ?_ | refine lss_b ?_ | refine gtr_a ?_ | refine gtr_b ?_ | refine geq_a ?_ | refine geq_b ?_ | refine leq_a ?_ | refine leq_b ?_ | refine eql_a ?_ | refine eql_b ?_ | refine neq_a ?_ | refine neq_b ?_ | refine add_a ?_ | refine sub_a ?_ | refine ld_a ?_ | refine ldA_a ?_ | refine ldS_a ?_ | refine ldNS_a ?_ | refine rdA_s ?_ | refine rd1_s ?_ | refine drew_a fun w1 H1 => ?_ | refine st_a fun w1 H1 => ?_ | refine stA_a fun w1 H1 => ?_ | refine lenT_a ?_ | refine lenO_a ?_ | refine ixT_a ?_ | refine ixO_a ?_ | refine bld_a ?_ | refine min_a ?_ | refine max_a ?_  | refine ldT_a ?_ | refine ldC_a ?_ | refine ldX_a ?_ | refine ldM_a ?_ | refine rdT_a ?_ | refine rdC_a ?_ | refine rdX_a ?_ | refine rdM_a ?_ | refine getCh_a ?_ | refine getCh2_a ?_ | refine getCn_a ?_ | refine getCn2_a ?_ | refine getPl_a ?_ | refine getPl2_a ?_ | refine getTk_a ?_ | refine getAn2_a ?_ | refine lenE_a ?_ | refine lenR_a ?_ | refine cv8_a ?_ | refine cv64_a ?_ | fail))
  simp only [Option.isSome_some]
  repeat (first | simp only [W0, pO, Option.map_some, Option.map_none] | with_reducible (first | refine lss_a ?_ | refine lss_b ?_ | refine gtr_a ?_ | refine gtr_b ?_ | refine geq_a ?_ | refine geq_b ?_ | refine leq_a ?_ | refine leq_b ?_ | refine eql_a ?_ | refine eql_b ?_ | refine neq_a ?_ | refine neq_b ?_ | refine add_a ?_ | refine sub_a ?_ | refine ld_a ?_ | refine ldA_a ?_ | refine ldS_a ?_ | refine ldNS_a ?_ | refine rdA_s ?_ | refine rd1_s ?_ | refine drew_a fun w1 H1 => ?_ | refine st_a fun w1 H1 => ?_ | refine stA_a fun w1 H1 => ?_ | refine lenT_a ?_ | refine lenO_a ?_ | refine ixT_a ?_ | refine ixO_a ?_ | refine bld_a ?_ | refine min_a ?_ | refine max_a ?_  | refine ldT_a ?_ | refine ldC_a ?_ | refine ldX_a ?_ | refine ldM_a ?_ | refine rdT_a ?_ | refine rdC_a ?_ | refine rdX_a ?_ | refine rdM_a ?_ | refine getCh_a ?_ | refine getCh2_a ?_ | refine getCn_a ?_ | refine getCn2_a ?_ | refine getPl_a ?_ | refine getPl2_a ?_ | refine getTk_a ?_ | refine getAn2_a ?_ | refine lenE_a ?_ | refine lenR_a ?_ | refine cv8_a ?_ | refine cv64_a ?_ | fail))
  refine conv_str_h undB und8 undS cBsz ht6 H (by intro c hc; simp at hc; rcases hc with h | h | h | h <;> simp [h]) ?_
  refine pv_of (v := .bool true) (by kernel_rfl) ?_
  repeat (first | simp only [W0, pO, Option.map_some, Option.map_none] | with_reducible (first | refine lss_a ?_ | refine lss_b ?_ | refine gtr_a ?_ | refine gtr_b ?_ | refine geq_a ?_ | refine geq_b ?_ | refine leq_a ?_ | refine leq_b ?_ | refine eql_a ?_ | refine eql_b ?_ | refine neq_a ?_ | refine neq_b ?_ | refine add_a ?_ | refine sub_a ?_ | refine ld_a ?_ | refine ldA_a ?_ | refine ldS_a ?_ | refine ldNS_a ?_ | refine rdA_s ?_ | refine rd1_s ?_ | refine drew_a fun w1 H1 => ?_ | refine st_a fun w1 H1 => ?_ | refine stA_a fun w1 H1 => ?_ | refine lenT_a ?_ | refine lenO_a ?_ | refine ixT_a ?_ | refine ixO_a ?_ | refine bld_a ?_ | refine min_a ?_ | refine max_a ?_  | refine ldT_a ?_ | refine ldC_a ?_ | refine ldX_a ?_ | refine ldM_a ?_ | refine rdT_a ?_ | refine rdC_a ?_ | refine rdX_a ?_ | refine rdM_a ?_ | refine getCh_a ?_ | refine getCh2_a ?_ | refine getCn_a ?_ | refine getCn2_a ?_ | refine getPl_a ?_ | refine getPl2_a ?_ | refine getTk_a ?_ | refine getAn2_a ?_ | refine lenE_a ?_ | refine lenR_a ?_ | refine cv8_a ?_ | refine cv64_a ?_ | fail))
  exact ⟨(by first | rfl | trivial), Hp.tre (by assumption)⟩
end
end Go.Proofs.YtmkcjopacmadhaaGreat.Den
