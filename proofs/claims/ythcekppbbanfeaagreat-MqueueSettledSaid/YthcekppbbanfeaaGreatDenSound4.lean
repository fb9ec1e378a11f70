/- That a region whose order is open may be read in the order of its text, second part: the exchange of two operations. Conditions: none. -/
import Derived.Test.YthcekppbbanfeaaGreatDenSound3
set_option linter.unusedVariables false
set_option linter.unusedSimpArgs false
namespace Go.Proofs.YthcekppbbanfeaaGreat.Den
open Go
section
variable {P : Program} {R : ER} {ops : Array Oper} {L : List Nat}

theorem pureFn_congr {op : Op} {f : Env → Option Value} {e e' : Env} (hf : pureFn P op = some f) (h : ∀ x ∈ op.operands, ev e x = ev e' x) : f e = f e' := by
  have pairs : ∀ t (l : List (Nat × Operand)) r, placesO P t l = some r → (∀ p ∈ l, ev e p.2 = ev e' p.2) → evParts e r = evParts e' r := by
    intro t l
    induction l with
    | nil => intro r hr _; simp only [placesO] at hr; injection hr with hr; subst hr; rfl
    | cons p l ih =>
      intro r hr hp
      obtain ⟨i, x⟩ := p
      simp only [placesO] at hr
      split at hr
      · split at hr
        · rename_i l' hl'; injection hr with hr; subst hr
          simp only [evParts]
          rw [hp (i, x) (List.mem_cons_self ..), ih l' hl' (fun q hq => hp q (List.mem_cons_of_mem _ hq))]
        · cases hr
      · cases hr
  unfold pureFn at hf
  split at hf <;> simp only [Op.operands, Call.operands] at h
  case h_5 =>
    split at hf
    · split at hf
      · split at hf
        · injection hf with hf; subst hf; simp_all
        · cases hf
      · cases hf
    · cases hf
  case h_6 =>
    split at hf
    · split at hf
      · injection hf with hf; subst hf; simp_all
      · cases hf
    · split at hf
      · injection hf with hf; subst hf; simp_all
      · cases hf
    · cases hf
  case h_7 =>
    split at hf
    · injection hf with hf; subst hf; simp_all
    · split at hf
      · injection hf with hf; subst hf; simp_all
      · injection hf with hf; subst hf; simp_all
      · cases hf
    · cases hf
  case h_8 =>
    split at hf
    · split at hf
      · split at hf
        · injection hf with hf; subst hf; simp_all
        · injection hf with hf; subst hf; simp_all
        · cases hf
      · cases hf
    · cases hf
  case h_9 =>
    unfold binFn at hf
    split at hf
    · injection hf with hf; subst hf; simp_all
    · injection hf with hf; subst hf; simp_all
    · injection hf with hf; subst hf; simp_all
    · split at hf
      · injection hf with hf; subst hf; simp_all
      · injection hf with hf; subst hf; simp_all
      · cases hf
    · split at hf
      · injection hf with hf; subst hf; simp_all
      · injection hf with hf; subst hf; simp_all
      · cases hf
    · split at hf
      · split at hf
        · injection hf with hf; subst hf; simp_all
        · injection hf with hf; subst hf; simp_all
        · cases hf
      · cases hf
    · cases hf
  case h_11 =>
    split at hf
    · injection hf with hf; subst hf; simp_all
    · cases hf
  case h_12 =>
    split at hf
    · cases hf
    · injection hf with hf; subst hf; simp_all
    · cases hf
  case h_13 fn first captured =>
    injection hf with hf; subst hf
    have e1 : first.map (ev e) = first.map (ev e') := Array.map_congr_left fun x hx => h x (by simp [hx])
    have e2 : captured.map (ev e) = captured.map (ev e') := Array.map_congr_left fun x hx => h x (by simp [hx])
    simp only [amap_eq, e1, e2]
  case h_15 t parts =>
    split at hf
    · rename_i z l hz hl hs; injection hf with hf; subst hf
      simp only [pairs t parts.toList l hl (fun p hp => h p.2 (by simp; exact ⟨p.1, by simpa using hp⟩))]
    · cases hf
  case h_16 t x lo hi =>
    split at hf
    · split at hf
      · injection hf with hf; subst hf; cases lo <;> cases hi <;> simp_all
      · cases hf
    · split at hf
      · injection hf with hf; subst hf; cases lo <;> cases hi <;> simp_all
      · cases hf
    · injection hf with hf; subst hf; cases lo <;> cases hi <;> simp_all
    · cases hf
  case h_17 =>
    split at hf
    · injection hf with hf; subst hf; simp_all
    · injection hf with hf; subst hf; simp_all
    · injection hf with hf; subst hf; rfl
    · cases hf
  case h_18 =>
    split at hf
    · injection hf with hf; subst hf; simp_all
    · cases hf
  case h_19 =>
    split at hf
    · injection hf with hf; subst hf; simp_all
    · cases hf
  case h_20 =>
    split at hf
    · injection hf with hf; subst hf; simp_all
    · cases hf
  case h_21 => cases hf
  all_goals (injection hf with hf; subst hf; simp_all)
theorem effK_congr {o : Oper} {e e' : Env} {K : VK} (hs : ∀ cs b, o.op ≠ .select cs b) (h : ∀ x ∈ o.op.operands, ev e x = ev e' x) : effK P R o e K = effK P R o e' K := by
  have hx := execOp_congr o hs h
  obtain ⟨dst, op, type, pos, after, guard⟩ := o
  have pairs : ∀ ps : Array (Nat × Operand), (∀ x ∈ ps.map (·.2), ev e x = ev e' x) →
      (ps.map fun (i, x) => (i, ev e x)) = (ps.map fun (i, x) => (i, ev e' x)) := fun ps hp =>
    Array.map_congr_left fun p hm => by
      obtain ⟨i, x⟩ := p
      simp only [hp x (Array.mem_map.2 ⟨(i, x), hm, rfl⟩)]
  cases op <;> simp only [Op.operands, Call.operands] at h <;> simp only [effK, amap_eq]
  case build t ps => rw [pairs ps fun x hx => h x (by simpa using hx)]
  case buildSlice t n ps => rw [pairs ps fun x hx => h x (by simpa using hx)]
  case makeMap t r => cases r <;> simp_all
  case slice t x lo hi mx => cases lo <;> cases hi <;> cases mx <;> simp_all
  case call c =>
    have hargs : c.args.map (ev e) = c.args.map (ev e') := Array.map_congr_left fun x hx => h x (by simp [hx])
    cases hc : c.callee with
    | value f =>
      have hf : ev e f = ev e' f := h f (by simp [hc])
      cases f with
      | func g => simp only [hx, hargs]
      | _ => simp only [hf, hargs]
    | invoke r m => have hr : ev e r = ev e' r := h r (by simp [hc]); simp only [hr, hargs]
    | builtin b => simp only [hargs]
  all_goals (first | rfl | (simp_all; done))
theorem beq_ne {t d : Nat} (h : t ≠ d) : Nat.beq t d = false := by
  cases hb : Nat.beq t d with
  | false => rfl
  | true => exact absurd (Nat.eq_of_beq_eq_true hb) h
theorem ev_updO {e : Env} {dst : Option Nat} {v : Value} {x : Operand} (h : ∀ d, dst = some d → x ≠ .tmp d) : ev (updO e dst v) x = ev e x := by
  cases dst with
  | none => rfl
  | some d =>
    cases x with
    | tmp t =>
      have hne : t ≠ d := fun q => h d rfl (q ▸ rfl)
      simp only [updO, upd, ev]
      rw [beq_ne hne]; rfl
    | _ => rfl
theorem updO_comm (e : Env) {x y : Option Nat} (v u : Value) (h : ∀ d, x = some d → y ≠ some d) : updO (updO e x v) y u = updO (updO e y u) x v := by
  cases x with
  | none => rfl
  | some d =>
    cases y with
    | none => rfl
    | some d' =>
      have hne : d ≠ d' := fun he => h d rfl (he ▸ rfl)
      funext t
      simp only [updO, upd]
      cases h1 : Nat.beq t d <;> cases h2 : Nat.beq t d' <;> first | rfl | (exact absurd ((Nat.eq_of_beq_eq_true h1).symm.trans (Nat.eq_of_beq_eq_true h2)) hne)
theorem ev_looks {o : Oper} {e : Env} {dst : Option Nat} {v : Value} (h : ∀ d, dst = some d → d ∉ o.looksAt ops) : ∀ x ∈ o.op.operands, ev (updO e dst v) x = ev e x :=
  fun x hx => ev_updO fun d hd hxd => h d hd (by
    subst hxd
    exact List.mem_append_left _ (List.mem_filterMap.2 ⟨.tmp d, by simpa using hx, rfl⟩))
theorem want_upd {o : Oper} {e : Env} {dst : Option Nat} {v : Value} (h : ∀ d, dst = some d → d ∉ o.looksAt ops) : want ops o (updO e dst v) = want ops o e := by
  unfold want
  cases hg : o.guard with
  | none => rfl
  | some jb =>
    obtain ⟨j, b⟩ := jb
    simp only
    cases ht : guardTmp ops j with
    | none => rfl
    | some t =>
      cases dst with
      | none => rfl
      | some d =>
        have hne : t ≠ d := fun q => h d rfl (by subst q; simp only [Oper.looksAt, hg]; simp only [guardTmp] at ht; simp [ht])
        have : updO e (some d) v t = e t := by
          simp only [updO, upd]
          rw [beq_ne hne]; rfl
        simp only [this]
/-! ### the three kinds -/
theorem dOp_pure {i : Nat} {o : Oper} {f : Env → Option Value} (hf : pureFn P o.op = some f) {K : Hist → Env → WP} {h : Hist} {e : Env} {w : World} :
    dOp P R ops L i o K h e w ↔ ∃ v, (if want ops o e then f e else some undef) = some v ∧ K h (updO e o.dst v) w := by
  unfold dOp
  simp only [hf]
  rw [gOp_eq]
  cases hw : want ops o e with
  | false => simp
  | true =>
    simp only [if_true, opK, hf, pv]
    cases hv : f e with
    | none => simp
    | some v => simp
theorem dOp_load {i : Nat} {o : Oper} {t : Nat} {a : Operand} (hf : pureFn P o.op = none) (ho : o.op = .load t a) {K : Hist → Env → WP} {h : Hist} {e : Env} {w : World} :
    dOp P R ops L i o K h e w ↔ ∃ v, (if want ops o e then Reads P t (ev e a) w v ∧ ∀ w' ∈ worlds L i h, Reads P t (ev e a) w' v else v = undef) ∧ K ((i, .ld (want ops o e) t (ev e a) v) :: h) (updO e o.dst v) w := by
  have e1 : dOp P R ops L i o K h e w = gOp P R ops (worlds L i h) o e (fun v => K ((i, .ld (want ops o e) t (ev e a) v) :: h) (updO e o.dst v)) w := by
    unfold dOp; rw [hf]; simp only [ho]
  rw [e1, gOp_eq]
  cases hw : want ops o e with
  | false => simp
  | true =>
    simp only [if_true]
    have e2 : ∀ K' : VK, opK P R (worlds L i h) o e K' w = ldK P (worlds L i h) t (ev e a) K' w := by
      intro K'; unfold opK; rw [hf]; simp only [ho]
    rw [e2]
    simp only [ldK_iff, and_assoc]
theorem dOp_eff {i : Nat} {o : Oper} (hf : pureFn P o.op = none) (ho : isLoad o = false) {K : Hist → Env → WP} {h : Hist} {e : Env} {w : World} :
    dOp P R ops L i o K h e w ↔ (if want ops o e then effK P R o e (fun v => stabL P (loadsH L i h) (K ((i, .eff w) :: h) (updO e o.dst v))) w else stabL P (loadsH L i h) (K ((i, .eff w) :: h) (updO e o.dst undef)) w) := by
  have e1 : dOp P R ops L i o K h e w = gOp P R ops [] o e (fun v => stabL P (loadsH L i h) (K ((i, .eff w) :: h) (updO e o.dst v))) w := by
    unfold dOp
    simp only [hf]
    unfold isLoad at ho
    generalize o.op = op at ho
    cases op <;> first | rfl | cases ho
  rw [e1, gOp_eq]
  have e2 : ∀ K' : VK, opK P R [] o e K' = effK P R o e K' := by
    intro K'
    unfold opK
    simp only [hf]
    unfold isLoad at ho
    generalize hop : o.op = op at ho
    cases op <;> first | rfl | cases ho
  rw [e2]
theorem isLoad_spec {o : Oper} (h : isLoad o = true) : ∃ t a, o.op = .load t a := by
  unfold isLoad at h; generalize o.op = op at h ⊢; cases op <;> first | exact ⟨_, _, rfl⟩ | cases h
/-- Another history that holds the same. -/
theorem dOp_hist {i : Nat} {o : Oper} {K K' : Hist → Env → WP} {h h' : Hist} (hh : ∀ x, x ∈ h' ↔ x ∈ h) (hK : ∀ x e w, K (x :: h) e w → K' (x :: h') e w) (hK0 : ∀ e w, K h e w → K' h' e w) {e : Env} {w : World}
    (q : dOp P R ops L i o K h e w) : dOp P R ops L i o K' h' e w := by
  have ew : ∀ w', w' ∈ worlds L i h' → w' ∈ worlds L i h := fun w' hw => by
    obtain ⟨k, hk, hk2⟩ := worlds_mem.1 hw; exact worlds_mem.2 ⟨k, (hh _).1 hk, hk2⟩
  have el : ∀ l, l ∈ loadsH L i h' → l ∈ loadsH L i h := fun w' hw => by
    obtain ⟨k, hk, hk2⟩ := loads_mem.1 hw; exact loads_mem.2 ⟨k, (hh _).1 hk, hk2⟩
  have es : ∀ G G' : WP, (∀ w, G w → G' w) → ∀ w, stabL P (loadsH L i h) G w → stabL P (loadsH L i h') G' w := fun G G' hG w q => by
    obtain ⟨q1, q2⟩ := stabL_iff.1 q
    exact stabL_iff.2 ⟨fun l hl => q1 l (el l hl), hG _ q2⟩
  cases hf : pureFn P o.op with
  | some f => rw [dOp_pure hf] at *; obtain ⟨v, h1, h2⟩ := q; exact ⟨v, h1, hK0 _ _ h2⟩
  | none =>
    cases hl : isLoad o with
    | true =>
      obtain ⟨t, a, ho⟩ := isLoad_spec hl
      rw [dOp_load hf ho] at *; obtain ⟨v, h1, h2⟩ := q
      refine ⟨v, ?_, hK _ _ _ h2⟩
      split
      · rename_i hw; simp only [hw, if_true] at h1; exact ⟨h1.1, fun w' hw' => h1.2 w' (ew w' hw')⟩
      · rename_i hw; simp only [hw] at h1; exact h1
    | false =>
      rw [dOp_eff hf hl] at *
      split
      · rename_i hw; simp only [hw, if_true] at q; exact effK_mono (fun v w' q => es _ _ (fun w q => hK _ _ _ q) _ q) q
      · rename_i hw; simp only [hw] at q; exact es _ _ (fun w q => hK _ _ _ q) _ q
theorem dOp_mono {i : Nat} {o : Oper} {K K' : Hist → Env → WP} (hK : ∀ h e w, K h e w → K' h e w) {h : Hist} {e : Env} {w : World}
    (hh : dOp P R ops L i o K h e w) : dOp P R ops L i o K' h e w := dOp_hist (fun _ => Iff.rfl) (fun _ _ _ q => hK _ _ _ q) (fun _ _ q => hK _ _ _ q) hh
theorem stCells_false {a : Addr} : ∀ (l : List Value) (i : Nat) (w : World), stCells a l i (fun _ => False) w → False
  | [], _, w, hh => hh
  | _ :: l, i, w, ⟨_, _, _, h4⟩ => stCells_false l (i + 1) _ h4
theorem calls_false {f : FuncId} {args : Array Value} {w : World} (h : Calls P f args w (retK noR fun _ _ => False)) : False := by
  obtain ⟨e, w', fr, hR, _⟩ := h []
  cases e <;> exact hR
theorem semV_false {s : Sem Next} {w : World} (h : semV P noR s (fun _ _ => False) w) : False := by
  unfold semV at h
  generalize s.run P w = r at h
  cases r with
  | ok n w =>
    cases n <;> simp only [stepK] at h
    case enter f args => exact calls_false h
    case row r args => obtain ⟨_, _, q, _⟩ := h default []; exact q
    case round l f tmps a b =>
      obtain ⟨e, w', hR, _⟩ := h.2 default [] (room_wide _)
      cases e <;> exact hR
  | halt x w => cases x <;> simp only [stepK] at h; exact h
theorem valV_false {s : Sem Value} {w : World} (h : valV P noR s (fun _ _ => False) w) : False := by
  unfold valV at h; split at h <;> exact h
theorem unitV_false {s : Sem Unit} {w : World} (h : unitV P noR s (fun _ _ => False) w) : False := by
  unfold unitV at h; split at h <;> exact h
theorem effK_false {o : Oper} {e : Env} {w : World} (h : effK P noR o e (fun _ _ => False) w) : False := by
  obtain ⟨dst, op, type, pos, after, guard⟩ := o
  cases op <;> simp only [effK, amap_eq] at h <;> first
    | exact valV_false h
    | exact unitV_false h
    | exact h
    | skip
  case store t a x =>
    unfold stK at h
    cases ha : isAggO P t with
    | none => simp only [ha] at h
    | some b =>
      cases b <;> simp only [ha] at h
      · cases hs : szO P t with
        | none => simp only [hs] at h
        | some n =>
          rcases n with _ | _ | n <;> simp only [hs] at h
          simp only [st1] at h
          split at h
          · exact h.2.2.2
          · exact h
      · cases hs : szO P t with
        | none => simp only [hs] at h
        | some n =>
          simp only [hs, stN] at h
          split at h
          · exact stCells_false _ _ _ h.2
          · exact h
  case alloc t =>
    unfold al at h
    split at h <;> exact h
  case call c =>
    cases hc : c.callee with
    | value f =>
      simp only [hc] at h
      have key : ∀ v, calD P noR v (c.args.map (ev e)) (fun _ _ => False) w → False := by
        intro v hv
        unfold calD at hv
        cases v with
        | func fn first captured =>
          cases fn with
          | func g =>
            dsimp only at hv
            cases hb : enterOk P g with
            | false => rw [hb] at hv; exact semV_false hv
            | true => rw [hb] at hv; exact calls_false hv
          | _ => exact semV_false hv
        | _ => exact semV_false hv
      cases f with
      | func g =>
        dsimp only at h
        cases hb : enterOk P g with
        | false => rw [hb] at h; exact semV_false h
        | true => rw [hb] at h; exact calls_false h
      | _ => exact key _ h
    | invoke r n => simp only [hc] at h; exact semV_false h
    | builtin b => simp only [hc] at h; exact semV_false h
theorem dOp_false {i : Nat} {o : Oper} {h : Hist} {e : Env} {w : World} (hh : dOp P noR ops L i o (fun _ _ _ => False) h e w) : False := by
  cases hf : pureFn P o.op with
  | some f => rw [dOp_pure hf] at hh; exact hh.choose_spec.2
  | none =>
    cases hl : isLoad o with
    | true =>
      obtain ⟨t, a, ho⟩ : ∃ t a, o.op = .load t a := by
        unfold isLoad at hl; generalize o.op = op at hl ⊢; cases op <;> first | exact ⟨_, _, rfl⟩ | cases hl
      rw [dOp_load hf ho] at hh; exact hh.choose_spec.2
    | false =>
      rw [dOp_eff hf hl] at hh
      split at hh
      · exact effK_false (effK_mono (fun v w' q => (stabL_iff.1 q).2) hh)
      · exact (stabL_iff.1 hh).2
theorem Reads_one {t : Nat} {x : Value} {w : World} {u v : Value} (h1 : Reads P t x w u) (h2 : Reads P t x w v) : u = v := by
  obtain ⟨a, rfl, h1⟩ := h1
  obtain ⟨b, hb, h2⟩ := h2
  injection hb with hb; injection hb with hb; subst hb
  rcases h1 with ⟨_, h1⟩ | ⟨n, cs, p1, p2, p3, rfl⟩ <;> rcases h2 with ⟨_, h2⟩ | ⟨m, ds, q1, q2, q3, rfl⟩
  · rw [h1] at h2; injection h2
  · simp_all
  · simp_all
  · rw [p2] at q2; injection q2 with q2; subst q2; rw [p3] at q3; injection q3 with q3; subst q3; rfl
/-- i ahead of j becomes j ahead of i. -/
theorem dOp_swap {i j : Nat} {oi oj : Oper} (hap : oi.apart ops oj = true) (hsi : ∀ cs b, oi.op ≠ .select cs b) (hsj : ∀ cs b, oj.op ≠ .select cs b)
    (hdep : ordd L i j = false) (hdep' : ordd L j i = false) (hk : isPure P oi = true ∨ isPure P oj = true ∨ isLoad oi = true ∨ isLoad oj = true) {K : Hist → Env → WP} (hK : ∀ x y h e w, K (x :: y :: h) e w → K (y :: x :: h) e w) {h : Hist} {e : Env} {w : World}
    (hh : dOp P noR ops L i oi (fun h1 e1 => dOp P noR ops L j oj K h1 e1) h e w) : dOp P noR ops L j oj (fun h2 e2 => dOp P noR ops L i oi K h2 e2) h e w := by
  obtain ⟨a1, a2, a3⟩ := Oper.apart_spec hap
  have wj : ∀ v, want ops oj (updO e oi.dst v) = want ops oj e := fun v => want_upd a1
  have wi : ∀ v, want ops oi (updO e oj.dst v) = want ops oi e := fun v => want_upd a3
  have evj : ∀ v, ∀ x ∈ oj.op.operands, ev (updO e oi.dst v) x = ev e x := fun v => ev_looks a1
  have evi : ∀ v, ∀ x ∈ oi.op.operands, ev (updO e oj.dst v) x = ev e x := fun v => ev_looks a3
  cases hfi : pureFn P oi.op with
  | some fi =>
    rw [dOp_pure hfi] at hh
    obtain ⟨v, h1, h2⟩ := hh
    have pi : ∀ u, (if want ops oi (updO e oj.dst u) then fi (updO e oj.dst u) else some undef) = some v := by
      intro u; rw [wi, pureFn_congr hfi (evi u)]; exact h1
    cases hfj : pureFn P oj.op with
    | some fj =>
      rw [dOp_pure hfj] at h2 ⊢
      obtain ⟨u, h3, h4⟩ := h2
      rw [wj, pureFn_congr hfj (evj v)] at h3
      exact ⟨u, h3, (dOp_pure hfi).2 ⟨v, pi u, by rw [← updO_comm e v u a2]; exact h4⟩⟩
    | none =>
      cases hlj : isLoad oj with
      | true =>
        obtain ⟨t, a, hoj⟩ := isLoad_spec hlj
        rw [dOp_load hfj hoj] at h2 ⊢
        obtain ⟨u, h3, h4⟩ := h2
        have ea : ev (updO e oi.dst v) a = ev e a := evj v a (by rw [hoj]; simp [Op.operands])
        rw [wj, ea] at h3 h4
        exact ⟨u, h3, (dOp_pure hfi).2 ⟨v, pi u, by rw [← updO_comm e v u a2]; exact h4⟩⟩
      | false =>
        rw [dOp_eff hfj hlj] at h2 ⊢
        rw [wj] at h2
        have fin : ∀ u w', stabL P (loadsH L j h) (K ((j, .eff w) :: h) (updO (updO e oi.dst v) oj.dst u)) w' → stabL P (loadsH L j h) (dOp P noR ops L i oi K ((j, .eff w) :: h) (updO e oj.dst u)) w' := by
          intro u w' q
          obtain ⟨q1, q2⟩ := stabL_iff.1 q
          exact stabL_iff.2 ⟨q1, (dOp_pure hfi).2 ⟨v, pi u, by rw [← updO_comm e v u a2]; exact q2⟩⟩
        split
        · rename_i hw
          simp only [hw, if_true] at h2
          rw [effK_congr hsj (evj v)] at h2
          exact effK_mono (fun u w' q => fin u w' q) h2
        · rename_i hw
          simp only [hw] at h2
          exact fin _ _ h2
  | none =>
    have hpi : isPure P oi = false := by simp [isPure, hfi]
    cases hli : isLoad oi with
    | true =>
      obtain ⟨ti, ai, hoi⟩ := isLoad_spec hli
      rw [dOp_load hfi hoi] at hh
      obtain ⟨v, h1, h2⟩ := hh
      have ea : ∀ u, ev (updO e oj.dst u) ai = ev e ai := fun u => evi u ai (by rw [hoi]; simp [Op.operands])
      have pi : ∀ u, (if want ops oi (updO e oj.dst u) then Reads P ti (ev (updO e oj.dst u) ai) w v ∧ ∀ w' ∈ worlds L i h, Reads P ti (ev (updO e oj.dst u) ai) w' v else v = undef) := by
        intro u; rw [wi, ea]; exact h1
      cases hfj : pureFn P oj.op with
      | some fj =>
        rw [dOp_pure hfj] at h2 ⊢
        obtain ⟨u, h3, h4⟩ := h2
        rw [wj, pureFn_congr hfj (evj v)] at h3
        exact ⟨u, h3, (dOp_load hfi hoi).2 ⟨v, pi u, by rw [wi, ea, ← updO_comm e v u a2]; exact h4⟩⟩
      | none =>
        cases hlj : isLoad oj with
        | true =>
          obtain ⟨t, a, hoj⟩ := isLoad_spec hlj
          rw [dOp_load hfj hoj] at h2 ⊢
          obtain ⟨u, h3, h4⟩ := h2
          have ea' : ev (updO e oi.dst v) a = ev e a := evj v a (by rw [hoj]; simp [Op.operands])
          rw [wj, ea'] at h3 h4
          have e1 : worlds L j ((i, HE.ld (want ops oi e) ti (ev e ai) v) :: h) = worlds L j h := rfl
          rw [e1] at h3
          refine ⟨u, h3, (dOp_load hfi hoi).2 ⟨v, ?_, ?_⟩⟩
          · exact pi u
          · rw [wi, ea, ← updO_comm e v u a2]; exact hK _ _ _ _ _ h4
        | false =>
          rw [dOp_eff hfj hlj] at h2 ⊢
          rw [wj] at h2
          have e1 : loadsH L j ((i, HE.ld (want ops oi e) ti (ev e ai) v) :: h) = (want ops oi e, ti, ev e ai, v) :: loadsH L j h := by simp only [loadsH, hdep]; rfl
          have e2 : worlds L i ((j, HE.eff w) :: h) = w :: worlds L i h := by simp only [worlds, hdep']; rfl
          rw [e1] at h2
          have fin : ∀ u w', stabL P ((want ops oi e, ti, ev e ai, v) :: loadsH L j h) (K ((j, .eff w) :: (i, HE.ld (want ops oi e) ti (ev e ai) v) :: h) (updO (updO e oi.dst v) oj.dst u)) w' →
              stabL P (loadsH L j h) (dOp P noR ops L i oi K ((j, .eff w) :: h) (updO e oj.dst u)) w' := by
            intro u w' q
            obtain ⟨q1, q2⟩ := stabL_iff.1 q
            refine stabL_iff.2 ⟨fun l hl => q1 l (List.mem_cons_of_mem _ hl), (dOp_load hfi hoi).2 ⟨v, ?_, ?_⟩⟩
            · rw [wi, ea, e2]
              split
              · rename_i hw
                simp only [hw, if_true] at h1
                refine ⟨q1 _ (List.mem_cons_self ..) hw, fun w'' hw'' => ?_⟩
                rcases List.mem_cons.1 hw'' with rfl | hw''
                · exact h1.1
                · exact h1.2 _ hw''
              · rename_i hw; simp only [hw] at h1; exact h1
            · rw [wi, ea, ← updO_comm e v u a2]; exact hK _ _ _ _ _ q2
          split
          · rename_i hw
            simp only [hw, if_true] at h2
            rw [effK_congr hsj (evj v)] at h2
            exact effK_mono (fun u w' q => fin u w' q) h2
          · rename_i hw
            simp only [hw] at h2
            exact fin _ _ h2
    | false =>
      rw [dOp_eff hfi hli] at hh
      cases hfj : pureFn P oj.op with
      | some fj =>
        have step : ∀ v w', stabL P (loadsH L i h) (dOp P noR ops L j oj K ((i, .eff w) :: h) (updO e oi.dst v)) w' →
            ∃ u, (if want ops oj e then fj e else some undef) = some u ∧ stabL P (loadsH L i h) (K ((i, .eff w) :: h) (updO (updO e oj.dst u) oi.dst v)) w' := by
          intro v w' q0
          obtain ⟨q1, q⟩ := stabL_iff.1 q0
          rw [dOp_pure hfj] at q
          obtain ⟨u, h3, h4⟩ := q
          rw [wj, pureFn_congr hfj (evj v)] at h3
          exact ⟨u, h3, stabL_iff.2 ⟨q1, by rw [← updO_comm e v u a2]; exact h4⟩⟩
        rw [dOp_pure hfj]
        -- the pure value is known ahead of the effect
        have hsome : ∃ u, (if want ops oj e then fj e else some undef) = some u := by
          by_cases hex : ∃ u, (if want ops oj e then fj e else some undef) = some u
          · exact hex
          · exfalso
            have hno : ∀ v w', stabL P (loadsH L i h) (dOp P noR ops L j oj K ((i, .eff w) :: h) (updO e oi.dst v)) w' → False := fun v w' q => hex ⟨_, (step v w' q).choose_spec.1⟩
            split at hh
            · exact effK_false (effK_mono (K' := fun _ _ => False) (fun v w' q => hno v w' q) hh)
            · exact hno _ _ hh
        obtain ⟨u, hu⟩ := hsome
        refine ⟨u, hu, ?_⟩
        have step' : ∀ v w', stabL P (loadsH L i h) (dOp P noR ops L j oj K ((i, .eff w) :: h) (updO e oi.dst v)) w' → stabL P (loadsH L i h) (K ((i, .eff w) :: h) (updO (updO e oj.dst u) oi.dst v)) w' := by
          intro v w' q
          obtain ⟨u', h3, h4⟩ := step v w' q
          rw [hu] at h3; injection h3 with h3; subst h3; exact h4
        rw [dOp_eff hfi hli, wi]
        split
        · rename_i hw
          simp only [hw, if_true] at hh
          rw [effK_congr hsi (evi u)]
          exact effK_mono (fun v w' q => step' v w' q) hh
        · rename_i hw
          simp only [hw] at hh
          exact step' _ _ hh
      | none =>
        have hpj : isPure P oj = false := by simp [isPure, hfj]
        have hlj : isLoad oj = true := by rcases hk with q | q | q | q
                                          · rw [hpi] at q; cases q
                                          · rw [hpj] at q; cases q
                                          · rw [hli] at q; cases q
                                          · exact q
        obtain ⟨t, a, hoj⟩ := isLoad_spec hlj
        have hws : worlds L j ((i, HE.eff w) :: h) = w :: worlds L j h := by simp only [worlds, hdep]; rfl
        have ea : ∀ v, ev (updO e oi.dst v) a = ev e a := fun v => evj v a (by rw [hoj]; simp [Op.operands])
        have step : ∀ v w', stabL P (loadsH L i h) (dOp P noR ops L j oj K ((i, .eff w) :: h) (updO e oi.dst v)) w' →
            ∃ u, (if want ops oj e then Reads P t (ev e a) w u ∧ ∀ w' ∈ worlds L j h, Reads P t (ev e a) w' u else u = undef) ∧
              stabL P (loadsH L i ((j, HE.ld (want ops oj e) t (ev e a) u) :: h)) (K ((i, .eff w) :: (j, HE.ld (want ops oj e) t (ev e a) u) :: h) (updO (updO e oj.dst u) oi.dst v)) w' := by
          intro v w' q0
          obtain ⟨q1, q⟩ := stabL_iff.1 q0
          rw [dOp_load hfj hoj] at q
          obtain ⟨u, h3, h4⟩ := q
          rw [wj, hws, ea] at h3
          rw [wj, ea] at h4
          refine ⟨u, ?_, stabL_iff.2 ⟨?_, by rw [← updO_comm e v u a2]; exact hK _ _ _ _ _ h4⟩⟩
          · split
            · rename_i hw; simp only [hw, if_true] at h3
              exact ⟨h3.2 w (List.mem_cons_self ..), fun w'' hw'' => h3.2 w'' (List.mem_cons_of_mem _ hw'')⟩
            · rename_i hw; simp only [hw] at h3; exact h3
          · have e1 : loadsH L i ((j, HE.ld (want ops oj e) t (ev e a) u) :: h) = (want ops oj e, t, ev e a, u) :: loadsH L i h := by simp only [loadsH, hdep']; rfl
            rw [e1]
            intro l hl hon
            rcases List.mem_cons.1 hl with rfl | hl
            · dsimp only at hon ⊢
              rw [hon] at h3
              exact h3.1
            · exact q1 l hl hon
        rw [dOp_load hfj hoj]
        have hsome : ∃ u, (if want ops oj e then Reads P t (ev e a) w u ∧ ∀ w' ∈ worlds L j h, Reads P t (ev e a) w' u else u = undef) := by
          by_cases hex : ∃ u, (if want ops oj e then Reads P t (ev e a) w u ∧ ∀ w' ∈ worlds L j h, Reads P t (ev e a) w' u else u = undef)
          · exact hex
          · exfalso
            have hno : ∀ v w', stabL P (loadsH L i h) (dOp P noR ops L j oj K ((i, .eff w) :: h) (updO e oi.dst v)) w' → False := fun v w' q => hex ⟨_, (step v w' q).choose_spec.1⟩
            split at hh
            · exact effK_false (effK_mono (K' := fun _ _ => False) (fun v w' q => hno v w' q) hh)
            · exact hno _ _ hh
        obtain ⟨u, hu⟩ := hsome
        refine ⟨u, hu, ?_⟩
        have step' : ∀ v w', stabL P (loadsH L i h) (dOp P noR ops L j oj K ((i, .eff w) :: h) (updO e oi.dst v)) w' →
            stabL P (loadsH L i ((j, HE.ld (want ops oj e) t (ev e a) u) :: h)) (K ((i, .eff w) :: (j, HE.ld (want ops oj e) t (ev e a) u) :: h) (updO (updO e oj.dst u) oi.dst v)) w' := by
          intro v w' q
          obtain ⟨u', h3, h4⟩ := step v w' q
          have : u' = u := by
            split at h3
            · rename_i hw; simp only [hw, if_true] at hu; exact Reads_one h3.1 hu.1
            · rename_i hw; simp only [hw] at hu; rw [h3]; exact hu.symm
          subst this; exact h4
        rw [dOp_eff hfi hli, wi]
        split
        · rename_i hw
          simp only [hw, if_true] at hh
          rw [effK_congr hsi (evi u)]
          exact effK_mono (fun v w' q => step' v w' q) hh
        · rename_i hw
          simp only [hw] at hh
          exact step' _ _ hh
end
end Go.Proofs.YthcekppbbanfeaaGreat.Den
