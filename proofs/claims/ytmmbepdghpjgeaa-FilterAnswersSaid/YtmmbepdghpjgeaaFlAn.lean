/- Packet filter: the law Answers, walked. Conditions: none. -/
import Derived.Test.YtmmbepdghpjgeaaFlSq
import Derived.Test.YtmmbepdghpjgeaaFlX
set_option linter.unusedVariables false
set_option linter.unusedSimpArgs false
set_option maxRecDepth 8000
set_option maxHeartbeats 1000000
namespace Go.Proofs.Ytmmbepdghpjgeaa.Den
open Go Go.RowKit
def kR : Rul := ⟨1, true, true, 2, -1, -1, ⟨0, 0, false⟩, ⟨0, 0, false⟩, ⟨0, 65535⟩, ⟨0, 65535⟩⟩
theorem kR_ok : kR.Ok := by unfold Rul.Ok Pat.Ok kR; simp only; omega
theorem kR_check : kR.check = 0 := by decide
theorem kR_fits {p : Pkt} (hp : p.Ok) (hc : p.check = 0) : kR.fits p = dirMeet 2 p.dir := by
  have h := any_fits (a := 1) hp hc
  unfold Rul.fits anyRul at h
  simp only [Bool.and_eq_true] at h
  obtain ⟨⟨⟨⟨⟨⟨h1, h2⟩, h3⟩, h4⟩, h5⟩, h6⟩, h7⟩ := h
  unfold Rul.fits kR
  simp only [h2, h3, h4, h5, h6, h7, Bool.and_true]
def aP1 (p : Pkt) : Pkt := { p with dir := 2, start := true }
def aP2 (p : Pkt) (o : Int) : Pkt := ⟨1, o, p.dst, p.src, p.proto, p.to, p.fr, false⟩
def aF0 (l : Int) : FS := ⟨[kR, anyRul 2], [0, 0], 5, 1 + l, [], 0, 0, 0⟩
def aF1 (l : Int) (c : Con) : FS := ⟨[kR, anyRul 2], [1, 0], 5, 1 + l, [(c, (11 + l, 1), 0)], 1, 1, 10⟩
def aF2 (l : Int) (c : Con) : FS := ⟨[kR, anyRul 2], [1, 0], 5, 1 + l, [(c, (11 + 2 * l, 1), 0)], 1, 1, 10 + l⟩
theorem aP2_check {p : Pkt} {o : Int} (h : (aP1 p).check = 0) (ho : 0 ≤ o ∧ o ≤ 255) : (aP2 p o).check = 0 := by
  unfold Pkt.check at *
  split at h
  · cases h
  split at h
  · cases h
  rename_i h2
  have e1 : inn 1 1 2 = true := by decide
  have e2 : inn o 0 255 = true := by unfold inn; simp; omega
  simp only [aP1, Bool.not_eq_true', Bool.not_eq_false, Bool.or_eq_true, not_or] at h2
  simp only [aP2, e1, e2, h2.2, h2.1.1.2, h2.1.2]
  simp
theorem aD1 {p : Pkt} {l : Int} (hp : p.Ok) (hc : (aP1 p).check = 0) (hl : 0 ≤ l ∧ l ≤ 255) : (aF0 l).decide (aP1 p) 10 = ((1, 0, 0), aF1 l (aP1 p).con) := by
  have hf : kR.fits (aP1 p) = true := by rw [kR_fits (p := aP1 p) hp hc]; show dirMeet 2 2 = true; decide
  have hd : deciding [kR, anyRul 2] (aP1 p) = 0 := by
    unfold deciding decFrom
    rw [hf]; rfl
  have e0 : (aF0 l).expire 10 = { aF0 l with clock := 10 } := rfl
  have e1 : ∀ c, mget c ((aF0 l).expire 10).ents = none := fun c => rfl
  unfold FS.decide
  rw [if_neg (by simp [hc]), if_neg (by omega), if_neg (by show ¬ (10 : Int) < 0; decide), e1, e1]
  simp only
  unfold FS.rule
  have hr : ((aF0 l).expire 10).rules = [kR, anyRul 2] := rfl
  simp only [hr, hd]
  rw [if_neg (by decide)]
  show ((kR.act, (0 : Int), (0 : Int)), if (kR.keep && (aP1 p).start) = true then _ else _) = _
  rw [if_pos (by rfl)]
  unfold FS.make
  simp only
  rw [if_neg (by show ¬ (5 : Int) ≤ 0; decide)]
  unfold FS.put aF1
  show ((1, 0, 0), (⟨[kR, anyRul 2], [0 + 1, 0], 5, 1 + l, [((aP1 p).con, (10 + (1 + l), 0 + 1), 0)], 1, 0 + 1, 10⟩ : FS)) = _
  have : (10 : Int) + (1 + l) = 11 + l := by omega
  rw [this]; rfl
theorem mget_one {c x : Con} {v : Ey} {n : Nat} : mget x [(c, v, n)] = if x = c then some v else none := by
  unfold mget mfind
  by_cases h : x = c
  · rw [if_pos h, if_pos h]; rfl
  · rw [if_neg h, if_neg h]; rfl
theorem mput_one {c : Con} {v v' : Ey} {n k : Nat} : mput c v' [(c, v, n)] k = [(c, v', n)] ∧ mclk c [(c, v, n)] k = k := by
  unfold mput mclk mfind
  rw [if_pos rfl]; exact ⟨rfl, rfl⟩
theorem aD2 {p : Pkt} {l o : Int} (hp : p.Ok) (hc : (aP1 p).check = 0) (hl : 0 ≤ l ∧ l ≤ 255) (ho : 0 ≤ o ∧ o ≤ 255) : (aF1 l (aP1 p).con).decide (aP2 p o) (10 + l) = ((1, -1, 0), aF2 l (aP1 p).con) := by
  have hc2 := aP2_check hc ho
  have hex : ((aF1 l (aP1 p).con).expire (10 + l)).ents = [((aP1 p).con, (11 + l, 1), 0)] := by
    unfold FS.expire aF1
    simp only
    rw [List.filter_cons, if_pos (by simp only [decide_eq_true_eq]; omega)]; rfl
  have ht : turned (aP2 p o).con = (aP1 p).con := rfl
  have hput : ∀ c, c = (aP1 p).con → ((aF1 l (aP1 p).con).expire (10 + l)).put c (10 + l + (aF1 l (aP1 p).con).life, 1) = aF2 l (aP1 p).con := by
    rintro c rfl
    unfold FS.put
    rw [hex]
    have := mput_one (c := (aP1 p).con) (v := (11 + l, 1)) (v' := (10 + l + (aF1 l (aP1 p).con).life, 1)) (n := 0) (k := ((aF1 l (aP1 p).con).expire (10 + l)).mck)
    rw [this.1, this.2]
    unfold aF2 FS.expire aF1
    simp only
    have : (10 : Int) + l + (1 + l) = 11 + 2 * l := by omega
    rw [this]
  unfold FS.decide
  rw [if_neg (by simp [hc2]), if_neg (by omega), if_neg (by show ¬ 10 + l < (10 : Int); omega), hex, mget_one, mget_one, ht]
  by_cases h : (aP2 p o).con = (aP1 p).con
  · rw [if_pos h]
    simp only
    rw [hput _ h]
  · rw [if_neg h, if_pos rfl]
    simp only
    rw [hput _ rfl]
theorem aD3 {p : Pkt} {l o : Int} (hp : p.Ok) (hc : (aP1 p).check = 0) (hl : 0 ≤ l ∧ l ≤ 255) (ho : 0 ≤ o ∧ o ≤ 255) : ((aF2 l (aP1 p).con).decide (aP2 p o) (11 + 2 * l)).1 = (2, 1, 0) ∧ ((aF2 l (aP1 p).con).decide (aP2 p o) (11 + 2 * l)).2.ents = [] ∧ MW ((aF2 l (aP1 p).con).decide (aP2 p o) (11 + 2 * l)).2.ents ((aF2 l (aP1 p).con).decide (aP2 p o) (11 + 2 * l)).2.mck := by
  have hc2 := aP2_check hc ho
  have hp2 : (aP2 p o).Ok := ⟨hp.2, hp.1⟩
  have hf1 : kR.fits (aP2 p o) = false := by rw [kR_fits hp2 hc2]; show dirMeet 2 1 = false; decide
  have hf2 : (anyRul 2).fits (aP2 p o) = true := any_fits hp2 hc2
  have hd : deciding [kR, anyRul 2] (aP2 p o) = 1 := by
    unfold deciding decFrom
    rw [hf1]
    simp only [Bool.not_false, if_true]
    unfold decFrom
    rw [hf2]
    rfl
  have hex : ((aF2 l (aP1 p).con).expire (11 + 2 * l)).ents = [] := by
    unfold FS.expire aF2
    simp only
    rw [List.filter_cons, if_neg (by simp)]; rfl
  have hR : (aF2 l (aP1 p).con).decide (aP2 p o) (11 + 2 * l) = ((2, 1, 0), ((aF2 l (aP1 p).con).expire (11 + 2 * l)).count 1) := by
    unfold FS.decide
    rw [if_neg (by simp [hc2]), if_neg (by omega), if_neg (by show ¬ 11 + 2 * l < 10 + l; omega), hex]
    show FS.rule _ _ _ = _
    unfold FS.rule
    have hr : ((aF2 l (aP1 p).con).expire (11 + 2 * l)).rules = [kR, anyRul 2] := rfl
    simp only [hr, hd]
    rw [if_neg (by decide)]
    rfl
  rw [hR]
  refine ⟨rfl, hex, ?_⟩
  show MW ((aF2 l (aP1 p).con).expire (11 + 2 * l)).ents _
  rw [hex]; exact ⟨by simp [mkeys], by simp, by simp⟩
theorem aInv0 {l : Int} (hl : 0 ≤ l ∧ l ≤ 255) : (aF0 l).Inv 3 := by
  refine ⟨by show (1 : Int) ≤ 1 + l; omega, by show 1 + l ≤ (1099511627776 : Int); omega, MW.nil, rfl, ?_, ?_, (by show 2 ≤ 200; decide), (by show (0 : Int) ≤ 0; decide), (by show (0 : Int) ≤ 3; decide)⟩
  · intro c hc; simp [aF0] at hc; subst hc; decide
  · intro r hr
    simp only [aF0, List.mem_cons, List.not_mem_nil, or_false] at hr
    rcases hr with rfl | rfl
    · exact ⟨kR_ok, kR_check⟩
    · exact ⟨any_ok 2, any_check (.inr rfl)⟩
theorem aMW {c : Con} {v : Ey} : MW [(c, v, 0)] 1 := ⟨by simp [mkeys], by simp, by simp⟩
theorem aInv1 {l : Int} {c : Con} (hl : 0 ≤ l ∧ l ≤ 255) : (aF1 l c).Inv 3 ∧ (aF2 l c).Inv 3 := by
  have hc : ∀ x ∈ ([1, 0] : List Int), 0 ≤ x ∧ x ≤ (3 : Nat) := by intro x hx; simp at hx; rcases hx with rfl | rfl <;> decide
  refine ⟨⟨by show (1 : Int) ≤ 1 + l; omega, by show 1 + l ≤ (1099511627776 : Int); omega, aMW, rfl, hc, (aInv0 hl).rok, (by show 2 ≤ 200; decide), (by show (0 : Int) ≤ 1; decide), (by show (1 : Int) ≤ 3; decide)⟩, ⟨by show (1 : Int) ≤ 1 + l; omega, by show 1 + l ≤ (1099511627776 : Int); omega, aMW, rfl, hc, (aInv0 hl).rok, (by show 2 ≤ 200; decide), (by show (0 : Int) ≤ 1; decide), (by show (1 : Int) ≤ 3; decide)⟩⟩
section
variable {w w' w0 : World} {L L' F cs cs2 A X Y cc cr : List Chunk} {s s2 sr sc : Value} {K : VK} {R : ER} {b i j fb mb n : Nat} {p : Pkt}
theorem u8_i64 {n : Int} (h : 0 ≤ n ∧ n ≤ 255) : cvI .i64 (U8 n) = some (I n) := by simp only [cvI]; rw [wrap64_id (by omega) (by omega)]
theorem answers_law {o l : Int} (hp : p.Ok) (ho : 0 ≤ o ∧ o ≤ 255) (hl : 0 ≤ l ∧ l ≤ 255) (H : Hp w0 w L) :
    Calls Pg 7 ⟨[.agg ⟨p.enc⟩, U8 o, U8 l]⟩ w fun e w' => e = .returned (.bool true) ∧ Hp w0 w' L := by
  generalize hQ : (fun (e : Ending) (w' : World) => e = .returned (.bool true) ∧ Hp w0 w' L : ER) = Q
  have aw : ∀ w A (K : VK), Hp w0 w (A ++ L) → (∀ w', Hp w0 w' L → K (.bool true) w') → cal Pg Q 10 ⟨[]⟩ K w := by
    intro w A K H g
    refine cal_h (awake_spec H) ?_
    rintro _ w ⟨rfl, H⟩
    exact g w H.right
  apply F7_calls
  unfold F7
  refine bx_m H fun w b3 H => ?_
  refine cal_h (any39_spec H) ?_
  rintro _ w ⟨rfl, H⟩
  (try simp only [W0])
  refine al_m (ys := rul0.enc) H (by kernel_rfl) fun w b8 H => ?_
  refine stA_m (vs := (anyRul 1).enc) H updd rfl rfl (Rul.enc_sc _) fun w H => ?_
  (try simp only [W0])
  refine st_m (o := 2) H updd (by simp [Rul.enc]) rfl fun w H => ?_
  (try simp only [W0])
  refine st_m (o := 1) H updd (by simp [Rul.enc]) rfl fun w H => ?_
  (try simp only [W0])
  refine st_m (o := 3) H updd (by simp [Rul.enc]) rfl fun w H => ?_
  replace H : Hp w0 w (⟨b8, .t 29, kR.enc⟩ :: ⟨b3, .t 45, p.enc⟩ :: L) := H
  refine drew_k H fun w H => ?_
  refine ldA_m (l := kR.enc) H has rfl ?_
  (try simp only [W0])
  refine cal_h (any39_spec H) ?_
  rintro _ w ⟨rfl, H⟩
  (try simp only [W0])
  refine rdA_m H has rfl ?_
  (try simp only [W0])
  refine lit_t (C := cRul) [kR, anyRul 2] elRul H rfl (by decide) (by decide) rfl fun w s7 c7 H h7 => ?_
  first | rw [u8_i64 hl, pv_some] | rw [wrap64_id (a := l) (by omega) (by omega)]
  refine add_k (by omega) (by omega) rfl ?_
  (try simp only [W0])
  have hok : ∀ r ∈ [kR, anyRul 2], r.Ok := by
    intro r hr
    simp only [List.mem_cons, List.not_mem_nil, or_false] at hr
    rcases hr with rfl | rfl
    · exact kR_ok
    · exact any_ok 2
  have hne : newErr [kR, anyRul 2] 5 (1 + l) = 0 := by
    unfold newErr
    have hca : checkAll [kR, anyRul 2] = 0 := by decide
    have hi5 : inn 5 1 100 = true := by decide
    rw [if_neg (by simp [hca]), hi5, if_neg]
    simp only [Bool.not_true, Bool.false_or, Bool.or_eq_true, decide_eq_true_eq]; omega
  refine cal_h (new_ok (limit := 5) (life := 1 + l) h7.tr hok H (fun c hc => List.mem_append_left _ hc) hne (by decide)) ?_
  rintro _ w ⟨fb, mb, sr, sc, cr, cc, rfl, h2, h3, H⟩
  (try simp only [W0])
  refine neq_n (by decide) ?_
  (try simp only [W0])
  unfold F7_j1
  (try simp only [W0])
  refine st_m (b := b3) (o := 0) (t := 45) (l := p.enc) H (Upd.cons (Upd.cons (Upd.app (Upd.app (Upd.app (Upd.cons Upd.here)))))) (by simp [Pkt.enc]) rfl fun w H => ?_
  (try simp only [W0])
  refine st_m (b := b3) (o := 7) (t := 45) (l := p.enc.set 0 (I 2)) H (Upd.cons (Upd.cons (Upd.app (Upd.app (Upd.app (Upd.cons Upd.here)))))) (by simp [Pkt.enc]) rfl fun w H => ?_
  replace H : Hp w0 w ((aF0 l).mem fb mb sr sc (cc ++ (cr ++ (c7 ++ (⟨b8, .t 29, kR.enc⟩ :: ⟨b3, .t 45, (aP1 p).enc⟩ :: L))))) := H
  have hp1 : (aP1 p).Ok := hp
  unfold F7_j4
  refine ldA_m (b := b3) (t := 45) (l := (aP1 p).enc) H (by unfold Has FS.mem; simp) rfl ?_
  have hmem : ∀ c ∈ cr, c ∈ cr ++ (c7 ++ (⟨b8, .t 29, kR.enc⟩ :: ⟨b3, .t 45, (aP1 p).enc⟩ :: L)) := fun c hc => List.mem_append_left _ hc
  refine cal_h (decide_spec (f := aF0 l) (now := 10) (aInv0 hl) (by decide) hp1 h2.tr hmem h3 (fun r _ _ _ => make_ok MW.nil (by simp [aF0, FS.count, FS.expire]) (by show 0 ≤ 4000; decide) (by show (1 : Int) ≤ 5; decide) (by show (0 : Int) ≤ 0; decide) (by show (0 : Int) < 2 ^ 60; decide) _ _) H) ?_
  rintro _ w ⟨cc, rfl, h3, H⟩
  (try simp only [W0])
  by_cases hc : (aP1 p).check = 0
  · rw [aD1 hp hc hl] at h3 H ⊢
    simp only at h3 H ⊢
    refine neq_n (by decide) ?_
    (try simp only [W0])
    unfold F7_j5
    (try simp only [W0])
    unfold F7_j6
    refine neq_n (by decide) ?_
    (try simp only [W0])
    refine neq_n (by decide) ?_
    (try simp only [W0])
    refine cal_h (states_spec (f := aF1 l (aP1 p).con) aMW (by show 1 ≤ 4000; decide) H) ?_
    rintro _ w ⟨s6, xs, c6, rfl, H, h6, hpm, _⟩
    have hlen : xs.length = 1 := hpm.length_eq
    replace H := H.right
    (try simp only [W0])
    refine pv_of (lenS_ts h6) ?_
    (try simp only [W0])
    rw [List.length_map, hlen]
    refine neq_n (by decide) ?_
    (try simp only [W0])
    unfold F7_j2
    unfold FS.mem at H
    have hb3 : ∀ {M : List Chunk}, Has (⟨fb, .t 117, [sr, sc, I (aF1 l (aP1 p).con).limit, I (aF1 l (aP1 p).con).life, .map (some mb), I (aF1 l (aP1 p).con).made, I (aF1 l (aP1 p).con).clock]⟩ :: ⟨mb, .o (mobj kC vE (aF1 l (aP1 p).con).ents (aF1 l (aP1 p).con).mck), []⟩ :: (cc ++ (cr ++ (c7 ++ (⟨b8, .t 29, kR.enc⟩ :: ⟨b3, .t 45, (aP1 p).enc⟩ :: L))))) b3 (.t 45) (aP1 p).enc := by unfold Has; simp
    refine ldA_m (l := (aP1 p).enc) H (hb3 (M := [])) rfl ?_
    refine al_m (ys := [I 0, I 0, U32 0, U32 0, I 0, I 0, I 0, .bool false]) H (by kernel_rfl) fun w b9 H => ?_
    refine stA_m (vs := (aP1 p).enc) H Upd.here rfl rfl (Pkt.enc_sc _) fun w H => ?_
    first | rw [u8_i64 ho, pv_some] | rw [wrap64_id (a := o) (by omega) (by omega)]
    (try simp only [W0])
    refine st_m (o := 0) H Upd.here (by simp [Pkt.enc]) rfl fun w H => ?_
    (try simp only [W0])
    refine st_m (o := 7) H Upd.here (by simp [Pkt.enc]) rfl fun w H => ?_
    (try simp only [W0])
    refine st_m (o := 1) H Upd.here (by simp [Pkt.enc]) rfl fun w H => ?_
    refine drew_k H fun w H => ?_
    (try simp only [W0])
    refine ld_m H (Has.cons (hb3 (M := []))) (o := 3) (v := U32 p.dst) rfl ?_
    (try simp only [W0])
    refine ld_m H (Has.cons (hb3 (M := []))) (o := 2) (v := U32 p.src) rfl ?_
    (try simp only [W0])
    refine ld_m H (Has.cons (hb3 (M := []))) (o := 6) (v := I p.to) rfl ?_
    (try simp only [W0])
    refine ld_m H (Has.cons (hb3 (M := []))) (o := 5) (v := I p.fr) rfl ?_
    (try simp only [W0])
    refine st_m (o := 2) H Upd.here (by simp [Pkt.enc]) rfl fun w H => ?_
    refine rd1_m H (Has.cons (hb3 (M := []))) (o := 5) rfl ?_
    refine rd1_m H (Has.cons (hb3 (M := []))) (o := 6) rfl ?_
    refine rd1_m H (Has.cons (hb3 (M := []))) (o := 2) rfl ?_
    (try simp only [W0])
    refine st_m (o := 3) H Upd.here (by simp [Pkt.enc]) rfl fun w H => ?_
    refine rd1_m H (Has.cons (hb3 (M := []))) (o := 5) rfl ?_
    refine rd1_m H (Has.cons (hb3 (M := []))) (o := 6) rfl ?_
    (try simp only [W0])
    refine st_m (o := 5) H Upd.here (by simp [Pkt.enc]) rfl fun w H => ?_
    refine rd1_m H (Has.cons (hb3 (M := []))) (o := 5) rfl ?_
    (try simp only [W0])
    refine st_m (o := 6) H Upd.here (by simp [Pkt.enc]) rfl fun w H => ?_
    have H2 : Hp w0 w ((aF1 l (aP1 p).con).mem fb mb sr sc (cc ++ (cr ++ (⟨b9, .t 45, (aP2 p o).enc⟩ :: L)))) := by
      replace H : Hp w0 w (⟨b9, .t 45, (aP2 p o).enc⟩ :: (aF1 l (aP1 p).con).mem fb mb sr sc (cc ++ (cr ++ (c7 ++ (⟨b8, .t 29, kR.enc⟩ :: ⟨b3, .t 45, (aP1 p).enc⟩ :: L))))) := H
      refine H.to fun q => ?_
      simp only [FS.mem, List.map_append, List.map_cons, List.sum_append, List.sum_cons]; omega
    clear H
    have hp2 : (aP2 p o).Ok := ⟨hp.2, hp.1⟩
    have hb9 : ∀ {f : FS} {cc : List Chunk}, Has (f.mem fb mb sr sc (cc ++ (cr ++ (⟨b9, .t 45, (aP2 p o).enc⟩ :: L)))) b9 (.t 45) (aP2 p o).enc := by intro f cc; unfold Has FS.mem; simp
    refine ldA_m (l := (aP2 p o).enc) H2 hb9 rfl ?_
    first | rw [u8_i64 hl, pv_some] | rw [wrap64_id (a := l) (by omega) (by omega)]
    refine add_k (by omega) (by omega) rfl ?_
    have nk : ∀ (f : FS) (now : Int), ∀ r, f.rules[(deciding f.rules (aP2 p o)).toNat]? = some r → r.keep = true → (aP2 p o).start = true → MakeOK ((f.expire now).count (deciding f.rules (aP2 p o)).toNat) (aP2 p o).con (now + f.life) := by
      intro f now r _ _ h; cases h
    refine cal_h (decide_spec (f := aF1 l (aP1 p).con) (now := 10 + l) (cr := cr) (F := cr ++ (⟨b9, .t 45, (aP2 p o).enc⟩ :: L)) (aInv1 hl).1 (by decide) hp2 h2.tr (fun c hc => List.mem_append_left _ hc) h3 (nk _ _) H2) ?_
    rintro _ w ⟨cc, rfl, h3, H⟩
    rw [aD2 hp hc hl ho] at h3 H ⊢
    simp only at h3 H ⊢
    (try simp only [W0])
    refine neq_n (by decide) ?_
    (try simp only [W0])
    refine neq_n (by decide) ?_
    (try simp only [W0])
    refine neq_n (by decide) ?_
    (try simp only [W0])
    unfold F7_j3
    refine ldA_m (l := (aP2 p o).enc) H hb9 rfl ?_
    first | rw [u8_i64 hl, pv_some] | rw [wrap64_id (a := l) (by omega) (by omega)]
    refine mul_k (z := 2 * l) (by omega) (by omega) rfl ?_
    refine add_k (by omega) (by omega) rfl ?_
    refine cal_h (decide_spec (f := aF2 l (aP1 p).con) (now := 11 + 2 * l) (cr := cr) (F := cr ++ (⟨b9, .t 45, (aP2 p o).enc⟩ :: L)) (aInv1 hl).2 (by decide) hp2 h2.tr (fun c hc => List.mem_append_left _ hc) h3 (nk _ _) H) ?_
    rintro _ w ⟨cc, rfl, h3, H⟩
    obtain ⟨e1, e2, e3⟩ := aD3 hp hc hl ho
    rw [e1]
    generalize (aF2 l (aP1 p).con).decide (aP2 p o) (11 + 2 * l) = res at *
    (try simp only [W0])
    refine eql_y (by decide) ?_
    (try simp only [W0])
    refine eql_y (by decide) ?_
    (try simp only [W0])
    refine eql_y (by decide) ?_
    (try simp only [W0])
    refine cal_h (states_spec (f := res.2) e3 (by rw [e2]; decide) H) ?_
    rintro _ w ⟨s6, xs, c6, rfl, H, h6, hpm, _⟩
    have hlen : xs.length = 0 := by rw [hpm.length_eq, e2]; rfl
    (try simp only [W0])
    refine pv_of (lenS_ts h6) ?_
    (try simp only [W0])
    rw [List.length_map, hlen]
    refine eql_y (by decide) ?_
    (try simp only [W0])
    refine aw w (c6 ++ (⟨fb, .t 117, [sr, sc, I res.2.limit, I res.2.life, .map (some mb), I res.2.made, I res.2.clock]⟩ :: ⟨mb, .o (mobj kC vE res.2.ents res.2.mck), []⟩ :: (cc ++ (cr ++ [⟨b9, .t 45, (aP2 p o).enc⟩])))) _ (H.to fun q => by simp only [FS.mem, List.cons_append, List.map_append, List.map_cons, List.map_nil, List.sum_append, List.sum_cons, List.sum_nil]; omega) fun w H => ?_
    (try simp only [W0])
    subst hQ
    exact ⟨(by first | rfl | trivial), H⟩
  · have hcl : (aF0 l).decide (aP1 p) 10 = ((0, 0, (aP1 p).check), aF0 l) := by unfold FS.decide; rw [if_pos hc]
    rw [hcl] at h3 H ⊢
    simp only at h3 H ⊢
    refine neq_y hc ?_
    (try simp only [W0])
    unfold F7_j5
    (try simp only [W0])
    refine aw w (⟨fb, .t 117, [sr, sc, I (aF0 l).limit, I (aF0 l).life, .map (some mb), I (aF0 l).made, I (aF0 l).clock]⟩ :: ⟨mb, .o (mobj kC vE (aF0 l).ents (aF0 l).mck), []⟩ :: (cc ++ (cr ++ (c7 ++ [⟨b8, .t 29, kR.enc⟩, ⟨b3, .t 45, (aP1 p).enc⟩])))) _ (H.to fun q => by simp only [FS.mem, List.cons_append, List.map_append, List.map_cons, List.map_nil, List.sum_append, List.sum_cons, List.sum_nil]; omega) fun w H => ?_
    subst hQ
    exact ⟨(by first | rfl | trivial), H⟩
end
end Go.Proofs.Ytmmbepdghpjgeaa.Den
