/- Packet filter: Decide, its walk to the end. Conditions: none. -/
import Derived.Test.YtmmbepdghpjgeaaFlS
set_option linter.unusedVariables false
set_option linter.unusedSimpArgs false
set_option maxRecDepth 8000
set_option maxHeartbeats 1000000
namespace Go.Proofs.Ytmmbepdghpjgeaa.Den
open Go Go.RowKit
section
variable {w w' w0 : World} {L L' F cs A X Y cc cr : List Chunk} {s sr sc : Value} {K : VK} {R : ER} {b i j fb mb n : Nat} {f : FS} {p : Pkt} {now : Int}
/-- The rule that decides. -/
theorem rule_walk {Q : ER} {b4 b12 : Nat} (hi : f.Inv n) (hn : n < 2 ^ 60) (hp : p.Ok) (hnow : 0 ≤ now) (hnow2 : now ≤ 1099511627776) (hr : TR cRul w0 cr sr f.rules) (hm : ∀ c ∈ cr, c ∈ F) (hc : TS cI 2 sc f.counts cc)
    (hmk : ∀ r, f.rules[(deciding f.rules p).toNat]? = some r → r.keep = true → p.start = true → MakeOK (f.count (deciding f.rules p).toNat) p.con (now + f.life))
    (H : Hp w0 w (⟨b12, .t 119, Con.enc p.con⟩ :: ⟨b4, .t 45, p.enc⟩ :: f.mem fb mb sr sc (cc ++ F)))
    (g : ∀ w' cc', TS cI 2 sc (f.rule p now).2.counts cc' → Hp w0 w' ((f.rule p now).2.mem fb mb sr sc (cc' ++ F)) → Q (.returned (.tuple ⟨[I (f.rule p now).1.1, I (f.rule p now).1.2.1, I (f.rule p now).1.2.2]⟩)) w') :
    F20_j6 Q (ptr fb 0) (I now) (ptr b4 0) (ptr b12 0) w := by
  unfold FS.mem at H
  have hsr : scalar sr = true := hr.sc
  have hsc : scalar sc = true := hc.sc
  unfold F20_j6
  refine drew_k H fun w H => ?_
  simp only [W0]
  refine ld_a ?_
  refine ldA_m (l := p.enc) H has rfl ?_
  (try simp only [W0])
  refine cal_h (deciding_spec hr hi.rok hp (by have := hi.rl; omega) H (fun c hc => List.mem_cons_of_mem _ (List.mem_cons_of_mem _ (List.mem_cons_of_mem _ (List.mem_cons_of_mem _ (List.mem_append_right _ (hm c hc))))))) ?_
  rintro _ w ⟨rfl, H⟩
  (try simp only [W0])
  refine lss_k (fun h0 => ?_) (fun h0 => ?_)
  · have e : f.rule p now = ((1, deciding f.rules p, 0), f) := by unfold FS.rule; simp only; rw [if_pos h0]
    rw [e] at g
    (try simp only [W0])
    exact g w cc hc H.tail.tail
  · (try simp only [W0])
    rcases deciding_lt (l := f.rules) (p := p) with h1 | ⟨h1, h2, r, hx, hfit⟩
    · omega
    obtain ⟨i, hi'⟩ : ∃ i : Nat, deciding f.rules p = (i : Int) := ⟨(deciding f.rules p).toNat, by omega⟩
    have e : f.rule p now = ((r.act, (i : Int), 0), if r.keep && p.start then (f.count i).make p.con (now + f.life) else f.count i) := by
      unfold FS.rule; simp only; rw [if_neg h0, hx]; simp only [hi', Int.toNat_natCast]
    rw [hi'] at hx hmk h2 ⊢
    rw [Int.toNat_natCast] at hx hmk
    rw [e] at g
    simp only at g
    have hcl := hi.cl
    have hcx : f.counts[i]? = some (f.counts.getD i 0) := by
      rw [List.getD_eq_getElem?_getD, List.getElem?_eq_getElem (by omega)]; rfl
    have hcb := hi.cb _ (List.mem_of_getElem? hcx)
    unfold F20_j7
    (try simp only [W0])
    refine ld_a ?_
    refine ix1_t (C := cI) hc.tr H (by intro c hc; simp [hc]) hcx rfl rfl ?_
    refine add_k (by omega) (by omega) rfl ?_
    refine ist1_t (C := cI) (x := f.counts.getD i 0 + 1) hc H (F := ⟨b12, .t 119, Con.enc p.con⟩ :: ⟨b4, .t 45, p.enc⟩ :: ⟨fb, .t 117, [sr, sc, I f.limit, I f.life, .map (some mb), I f.made, I f.clock]⟩ :: ⟨mb, .o (mobj kC vE f.ents f.mck), []⟩ :: F) spl (by omega) rfl rfl fun w cc' H hc' => ?_
    have hm' : ∀ c ∈ cr, c ∈ cc' ++ (⟨b12, .t 119, Con.enc p.con⟩ :: ⟨b4, .t 45, p.enc⟩ :: ⟨fb, .t 117, [sr, sc, I f.limit, I f.life, .map (some mb), I f.made, I f.clock]⟩ :: ⟨mb, .o (mobj kC vE f.ents f.mck), []⟩ :: F) :=
      fun c hc => List.mem_append_right _ (List.mem_cons_of_mem _ (List.mem_cons_of_mem _ (List.mem_cons_of_mem _ (List.mem_cons_of_mem _ (hm c hc)))))
    unfold F20_j9
    (try simp only [W0])
    refine ld_a ?_
    refine ixN_t (C := cRul) hr H hm' hx (by decide) ?_
    refine al_m (ys := rul0.enc) H (by kernel_rfl) fun w b6 H => ?_
    refine stA_m (vs := r.enc) H updd (by exact r.enc_len) rfl (by exact r.enc_sc) fun w H => ?_
    (try simp only [W0])
    refine ld_m H has (o := 2) (v := .bool r.keep) rfl ?_
    have fin : ∀ (w : World) (f' : FS) (F' : List Chunk), f'.counts = f.counts.set i (f.counts.getD i 0 + 1) → f' = (if r.keep && p.start then (f.count i).make p.con (now + f.life) else f.count i) →
        Hp w0 w (f'.mem fb mb sr sc (F' ++ (cc' ++ F))) → F20_j8 Q (ptr fb 0) (I (i : Int)) w := by
      intro w f' F' hcc hf' H
      unfold FS.mem at H
      unfold F20_j8
      (try simp only [W0])
      refine ld_a ?_
      refine ixF_t (C := cRul) (f := 0) hr H (fun c hc => List.mem_cons_of_mem _ (List.mem_cons_of_mem _ (List.mem_append_right _ (List.mem_append_right _ (hm c hc))))) hx rfl ?_
      (try simp only [W0])
      rw [← hf'] at g
      refine g w cc' ?_ (H.to fun q => by simp only [FS.mem, List.map_append, List.map_cons, List.sum_append, List.sum_cons]; omega)
      rw [hcc]; exact hc'
    have hmkc : ((f.count i).make p.con (now + f.life)).counts = f.counts.set i (f.counts.getD i 0 + 1) := by
      unfold FS.make FS.put
      simp only
      split
      · cases oldest (f.count i).ents <;> rfl
      · rfl
    have no : (r.keep && p.start) = false → F20_j8 Q (ptr fb 0) (I (i : Int)) w := by
      intro hk
      refine fin w (f.count i) [⟨b6, .t 29, r.enc⟩, ⟨b12, .t 119, Con.enc p.con⟩, ⟨b4, .t 45, p.enc⟩] rfl (by rw [hk]; rfl) (H.to fun q => by simp only [FS.mem, FS.count, List.map_append, List.map_cons, List.map_nil, List.sum_append, List.sum_cons, List.sum_nil]; omega)
    cases hk : r.keep with
    | false => (try simp only [W0]); exact no (by rw [hk]; rfl)
    | true =>
      (try simp only [W0])
      refine ld_m H has (o := 7) (v := .bool p.start) rfl ?_
      (try simp only [W0])
      cases hs : p.start with
      | false => (try simp only [W0]); exact no (by rw [hs]; simp)
      | true =>
        (try simp only [W0])
        refine drew_k H fun w H => ?_
        refine ldA_m (l := Con.enc p.con) H has (by exact cCon.len p.con) ?_
        (try simp only [W0])
        refine ld_a ?_
        refine add_k (by have := hi.l1; omega) (by have := hi.l2; omega) rfl ?_
        (try simp only [W0])
        have H2 : Hp w0 w ((f.count i).mem fb mb sr sc ([⟨b6, .t 29, r.enc⟩, ⟨b12, .t 119, Con.enc p.con⟩, ⟨b4, .t 45, p.enc⟩] ++ (cc' ++ F))) :=
          H.to fun q => by simp only [FS.mem, FS.count, List.map_append, List.map_cons, List.map_nil, List.sum_append, List.sum_cons, List.sum_nil]; omega
        refine cal_h (hmk r hx hk hs _ _ _ _ _ _ _ H2) ?_
        rintro _ w ⟨rfl, H⟩
        (try simp only [W0])
        exact fin w ((f.count i).make p.con (now + f.life)) _ hmkc (by rw [hk, hs]; rfl) H
theorem decide_spec (hi : f.Inv n) (hn : n < 2 ^ 60) (hp : p.Ok) (hr : TR cRul w0 cr sr f.rules) (hm : ∀ c ∈ cr, c ∈ F) (hc : TS cI 2 sc f.counts cc)
    (hmk : ∀ r, f.rules[(deciding f.rules p).toNat]? = some r → r.keep = true → p.start = true → MakeOK ((f.expire now).count (deciding f.rules p).toNat) p.con (now + f.life))
    (H : Hp w0 w (f.mem fb mb sr sc (cc ++ F))) :
    Calls Pg 20 ⟨[ptr fb 0, .agg ⟨p.enc⟩, I now]⟩ w fun e w' => ∃ cc', e = .returned (.tuple ⟨[I (f.decide p now).1.1, I (f.decide p now).1.2.1, I (f.decide p now).1.2.2]⟩) ∧ TS cI 2 sc (f.decide p now).2.counts cc' ∧ Hp w0 w' ((f.decide p now).2.mem fb mb sr sc (cc' ++ F)) := by
  have hsr : scalar sr = true := hr.sc
  have hsc : scalar sc = true := hc.sc
  generalize hQ : (fun (e : Ending) (w' : World) => ∃ cc', e = .returned (.tuple ⟨[I (f.decide p now).1.1, I (f.decide p now).1.2.1, I (f.decide p now).1.2.2]⟩) ∧ TS cI 2 sc (f.decide p now).2.counts cc' ∧ Hp w0 w' ((f.decide p now).2.mem fb mb sr sc (cc' ++ F)) : ER) = Q
  have fin : ∀ (a i e : Int) (f' : FS) (w' : World) (cc' : List Chunk), f.decide p now = ((a, i, e), f') → TS cI 2 sc f'.counts cc' → Hp w0 w' (f'.mem fb mb sr sc (cc' ++ F)) → Q (.returned (.tuple ⟨[I a, I i, I e]⟩)) w' := by
    intro a i e f' w' cc' h1 h2 h3
    subst hQ
    rw [h1]
    exact ⟨cc', rfl, h2, h3⟩
  apply F20_calls
  unfold F20
  refine bx_m H fun w b4 H => ?_
  simp only [W0]
  unfold F20_j1
  refine ldA_m (l := p.enc) H has rfl ?_
  refine cal_h (pcheck_spec H) ?_
  rintro _ w ⟨rfl, H⟩
  (try simp only [W0])
  refine neq_k (fun h1 => ?_) (fun h1 => ?_)
  · (try simp only [W0])
    exact fin _ _ _ f w cc (by unfold FS.decide; rw [if_pos h1]) hc H.tail
  · (try simp only [W0])
    unfold F20_j2
    have h1' : p.check = 0 := by simpa using h1
    have bad : (now < 0 ∨ 1099511627776 < now) → Q (.returned (.tuple ⟨[I 0, I 0, I 34]⟩)) w := fun h => fin _ _ _ f w cc (by unfold FS.decide; rw [if_neg (by simp [h1']), if_pos h]) hc H.tail
    refine lss_k (fun h2 => ?_) (fun h2 => ?_)
    · (try simp only [W0])
      exact bad (.inl h2)
    · (try simp only [W0])
      refine gtr_k (fun h3 => ?_) (fun h3 => ?_)
      · (try simp only [W0])
        exact bad (.inr h3)
      · (try simp only [W0])
        unfold F20_j3
        unfold FS.mem at H
        (try simp only [W0])
        refine ld_a ?_
        refine lss_k (fun h4 => ?_) (fun h4 => ?_)
        · (try simp only [W0])
          exact fin _ _ _ f w cc (by unfold FS.decide; rw [if_neg (by simp [h1']), if_neg (by omega), if_pos h4]) hc H.tail
        · (try simp only [W0])
          unfold F20_j4
          (try simp only [W0])
          refine st_a fun w H => ?_
          simp only [List.set_cons_zero, List.set_cons_succ] at H
          have e0 : f.decide p now = match mget p.con (f.expire now).ents with
              | some v => ((1, -1, 0), (f.expire now).put p.con (now + f.life, v.2))
              | none => match mget (turned p.con) (f.expire now).ents with
                | some v => ((1, -1, 0), (f.expire now).put (turned p.con) (now + f.life, v.2))
                | none => (f.expire now).rule p now := by
            conv => lhs; unfold FS.decide
            rw [if_neg (by simp [h1']), if_neg (by omega), if_neg h4]
            rfl
          have hi2 := hi.expire now
          have hcE : (f.expire now).counts = f.counts := rfl
          have hlE : (f.expire now).life = f.life := rfl
          refine expire_walk (f := { f with clock := now }) hi.mw H rfl fun w H => ?_
          have hexp : ({ f with clock := now } : FS).expire now = f.expire now := rfl
          rw [hexp] at H
          generalize hf1 : f.expire now = f1 at *
          unfold F20_j5
          (try simp only [W0])
          refine ld_m H has (o := 4) (v := I p.proto) rfl ?_
          (try simp only [W0])
          refine ld_m H has (o := 2) (v := U32 p.src) rfl ?_
          (try simp only [W0])
          refine ld_m H has (o := 3) (v := U32 p.dst) rfl ?_
          (try simp only [W0])
          refine ld_m H has (o := 5) (v := I p.fr) rfl ?_
          (try simp only [W0])
          refine ld_m H has (o := 6) (v := I p.to) rfl ?_
          refine bld_a ?_
          refine al_m (ys := [I 0, U32 0, U32 0, I 0, I 0]) H (by kernel_rfl) fun w b12 H => ?_
          refine stA_m (vs := Con.enc p.con) H updd rfl rfl (Con.enc_sc _) fun w H => ?_
          unfold F20_j10
          refine drew_k H fun w H => ?_
          refine ldA_m (l := Con.enc p.con) H has rfl ?_
          refine ldA_m (l := Con.enc p.con) H has rfl ?_
          (try simp only [W0])
          refine cal_h (turned_spec H) ?_
          rintro _ w ⟨rfl, H⟩
          (try simp only [W0])
          refine rdA_m H has rfl ?_
          (try simp only [W0])
          refine lit_t (C := cCon) [p.con, turned p.con] elCon H rfl (by decide) (by decide) rfl fun w s7 c7 H h7 => ?_
          refine pv_of (lenS_ts h7) ?_
          unfold F20_j11
          refine ⟨3, ?_⟩
          show F20_l1 Q 3 (ptr fb 0) (I now) (ptr b4 0) (ptr b12 0) s7 (I 2) (I 0) w
          rw [F20_l1_succ]
          unfold F20_b1
          refine lss_y (by decide) ?_
          (try simp only [W0])
          have hsp : Split (c7 ++ (⟨b12, .t 119, Con.enc p.con⟩ :: ⟨b4, .t 45, p.enc⟩ :: f1.mem fb mb sr sc (cc ++ F))) (f1.mem fb mb sr sc []) (c7 ++ (⟨b12, .t 119, Con.enc p.con⟩ :: ⟨b4, .t 45, p.enc⟩ :: (cc ++ F))) := by
            refine ⟨fun q => ?_, fun x => ?_⟩
            · simp only [FS.mem, List.map_append, List.map_cons, List.map_nil, List.sum_append, List.sum_cons, List.sum_nil]; omega
            · simp only [FS.mem, List.mem_append, List.mem_cons, List.not_mem_nil, or_false]
              constructor
              · rintro (h | h | h | h | h | h | h) <;> simp [h]
              · rintro ((h | h) | h | h | h | h | h) <;> simp [h]
          have m7 : ∀ c ∈ c7, c ∈ c7 ++ (⟨b12, .t 119, Con.enc p.con⟩ :: ⟨b4, .t 45, p.enc⟩ :: f1.mem fb mb sr sc (cc ++ F)) := fun c hc => List.mem_append_left _ hc
          have drop : ∀ {f2 : FS} {w : World}, Hp w0 w (f2.mem fb mb sr sc (c7 ++ (⟨b12, .t 119, Con.enc p.con⟩ :: ⟨b4, .t 45, p.enc⟩ :: (cc ++ F)))) → Hp w0 w (f2.mem fb mb sr sc (cc ++ F)) := fun H =>
            H.to fun q => by simp only [FS.mem, List.map_append, List.map_cons, List.map_nil, List.sum_append, List.sum_cons, List.sum_nil]; omega
          refine look_round (i := 0) (c := p.con) hi2 (by omega) (by omega) h7.tr rfl (by decide) H m7 hsp ?_ ?_
          · intro v hv w' H'
            refine fin _ _ _ (f1.put p.con (now + f1.life, v.2)) w' cc ?_ (by rw [show (f1.put p.con (now + f1.life, v.2)).counts = f.counts from hcE]; exact hc) (drop H')
            rw [e0, hv, hlE]
          · intro hv w H
            rw [F20_l1_succ]
            unfold F20_b1
            refine lss_y (by decide) ?_
            (try simp only [W0])
            refine look_round (i := 1) (c := turned p.con) hi2 (by omega) (by omega) h7.tr rfl (by decide) H m7 hsp ?_ ?_
            · intro v hv2 w' H'
              refine fin _ _ _ (f1.put (turned p.con) (now + f1.life, v.2)) w' cc ?_ (by rw [show (f1.put (turned p.con) (now + f1.life, v.2)).counts = f.counts from hcE]; exact hc) (drop H')
              rw [e0, hv]; simp only [hv2, hlE]
            · intro hv2 w H
              rw [F20_l1_succ]
              unfold F20_b1
              refine lss_n (by decide) ?_
              (try simp only [W0])
              have hrE : f1.rules = f.rules := by rw [← hf1]; rfl
              refine rule_walk (f := f1) (cc := cc) hi2 hn hp (by omega) (by omega) (by rw [hrE]; exact hr) hm (by rw [hcE]; exact hc) (by rw [hrE, hlE]; exact hmk) H.right fun w' cc' h1 h2 => ?_
              have e1 : f.decide p now = f1.rule p now := by rw [e0, hv]; simp only [hv2]
              exact fin _ _ _ (f1.rule p now).2 w' cc' e1 h1 h2
end
end Go.Proofs.Ytmmbepdghpjgeaa.Den
