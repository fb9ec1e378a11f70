/- Packet filter: the chapter's first example. Conditions: none. -/
import Derived.Test.YtmmbepdghpjgeaaFlP
import Derived.Test.YtmmbepdghpjgeaaFlT
set_option linter.unusedVariables false
set_option linter.unusedSimpArgs false
set_option maxRecDepth 8000
set_option maxHeartbeats 1000000
namespace Go.Proofs.Ytmmbepdghpjgeaa.Den
open Go Go.RowKit
theorem exRul_ok : exRul.Ok := by unfold Rul.Ok Pat.Ok exRul; decide
theorem exRul_check : exRul.check = 0 := by decide
def exPkt : Pkt := ⟨1, 0, 167838211, 0, 6, 80, 0, false⟩
def exPkt2 : Pkt := ⟨1, 0, 167772160, 0, 6, 0, 0, false⟩
def exFS : FS := ⟨[exRul], [0], 1, 1, [], 0, 0, 0⟩
theorem ex_match : (decide (exRul.check = 0) && decide (exPkt.check = 0) && exRul.fits exPkt) = true := by decide
theorem ex_decide : (exFS.decide exPkt2 0).1 = (2, 0, 0) := by decide
theorem exFS_inv : exFS.Inv 0 := by
  refine ⟨by decide, by decide, MW.nil, rfl, ?_, ?_, by decide, by decide, by decide⟩
  · intro c hc; simp [exFS] at hc; subst hc; decide
  · intro r hr; simp [exFS] at hr; subst hr; exact ⟨exRul_ok, exRul_check⟩
section
variable {w w' w0 : World} {L L' F cs A X Y cc cr : List Chunk} {s sr sc : Value} {K : VK} {R : ER} {b i j fb mb n : Nat} {f : FS} {p : Pkt} {now : Int}
theorem awake_spec (H : Hp w0 w L) : Calls Pg 10 ⟨[]⟩ w fun e w' => e = .returned (.bool true) ∧ Hp w0 w' L := by
  apply F10_calls
  unfold F10
  refine cal_h (parse_calls (S := exText) ex_parse (by decide) exRul_ok H) ?_
  rintro _ w ⟨rfl, H⟩
  simp only [W0]
  refine al_m (ys := rul0.enc) H (by kernel_rfl) fun w b1 H => ?_
  refine al_m (ys := [I 0, I 0]) H (by kernel_rfl) fun w b2 H => ?_
  refine stA_m (vs := exRul.enc) H updd rfl rfl exRul.enc_sc fun w H => ?_
  refine stA_a fun w H => ?_
  refine ldA_a ?_
  refine bld_a ?_
  refine pv_of (v := .bool false) (by rfl) ?_
  simp only [W0]
  refine ldA_m (l := exRul.enc) H has rfl ?_
  (try simp only [W0])
  refine bld_a ?_
  (try simp only [W0])
  refine cal_h (matches_spec (r := exRul) (p := exPkt) exRul_ok (by unfold Pkt.Ok exPkt; decide) H) ?_
  rintro _ w ⟨rfl, H⟩
  rw [ex_match]
  simp only [W0]
  unfold F10_j1
  refine ldA_m (l := exRul.enc) H has rfl ?_
  refine lit1_t (C := cRul) (x := exRul) elRul H rfl (by decide) fun w s1 c1 H h1 => ?_
  refine cal_h (new_ok (l := [exRul]) (limit := 1) (life := 1) h1.tr (by intro r hr; simp at hr; subst hr; exact exRul_ok) H (fun c hc => List.mem_append_left _ hc) (by decide) (by decide)) ?_
  rintro _ w ⟨fb, mb, sr, sc, cr, cc, rfl, h2, h3, H⟩
  (try simp only [W0])
  refine neq_n (by decide) ?_
  (try simp only [W0])
  unfold F10_j2
  refine bld_a ?_
  refine cal_h (decide_spec (f := exFS) (p := exPkt2) (now := 0) (F := cr ++ (c1 ++ (⟨b2, .t 32, [I 0, I 0]⟩ :: ⟨b1, .t 29, exRul.enc⟩ :: L))) exFS_inv (by decide) (by unfold Pkt.Ok exPkt2; decide) h2.tr (fun c hc => List.mem_append_left _ hc) h3
    (by intro r hr hk; have : exFS.rules[(deciding exFS.rules exPkt2).toNat]? = some exRul := rfl
        rw [this] at hr; injection hr with hr; subst hr; cases hk) H) ?_
  rintro _ w ⟨cc', rfl, h4, H⟩
  rw [ex_decide]
  (try simp only [W0])
  refine eql_y (by decide) ?_
  (try simp only [W0])
  refine eql_y (by decide) ?_
  (try simp only [W0])
  refine eql_y (by decide) ?_
  (try simp only [W0])
  refine ⟨(by first | rfl | trivial), ?_⟩
  exact H.tail.tail.right.right.right.tail.tail
end
end Go.Proofs.Ytmmbepdghpjgeaa.Den
