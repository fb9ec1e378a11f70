/- That a region whose order is open may be read in the order of its text, if the pairs that the order leaves open commute. Conditions: none. -/
import Derived.Test.YthcekppbbanfeaaGreatDenSound2
set_option linter.unusedVariables false
set_option linter.unusedSimpArgs false
namespace Go.Proofs.YthcekppbbanfeaaGreat.Den
open Go
section
variable {P : Program} {R : ER} {ops : Array Oper}

/-! ### monotone -/
theorem retK_mono {K K' : VK} (h : ∀ v w, K v w → K' v w) : ∀ e w, retK R K e w → retK R K' e w
  | .returned v, w, hh => h v w hh
  | .panicked ch, w, hh => hh
  | .outgrown, _, hh => hh
theorem stepK_mono {K K' : VK} (h : ∀ v w, K v w → K' v w) : ∀ r, stepK P R K r → stepK P R K' r := by
  intro r hr
  cases r with
  | ok n w => cases n <;> simp only [stepK] at hr ⊢ <;> first | exact h _ _ hr | exact Calls.mono hr (retK_mono h) | exact Rows.mono hr (fun _ _ q => h _ _ q) | exact RoundIn.mono hr (retK_mono h)
  | halt x w => cases x <;> simp only [stepK] at hr ⊢ <;> exact hr
theorem semV_mono {K K' : VK} (h : ∀ v w, K v w → K' v w) {s : Sem Next} {w : World} (hh : semV P R s K w) : semV P R s K' w := stepK_mono h _ hh
theorem valV_mono {K K' : VK} (h : ∀ v w, K v w → K' v w) {s : Sem Value} {w : World} (hh : valV P R s K w) : valV P R s K' w := by
  unfold valV at *
  split at hh <;> first | exact h _ _ hh | exact hh
theorem unitV_mono {K K' : VK} (h : ∀ v w, K v w → K' v w) {s : Sem Unit} {w : World} (hh : unitV P R s K w) : unitV P R s K' w := by
  unfold unitV at *
  split at hh <;> first | exact h _ _ hh | exact hh
theorem cal_mono {K K' : VK} (h : ∀ v w, K v w → K' v w) {f : FuncId} {args : Array Value} {w : World} (hh : cal P R f args K w) : cal P R f args K' w :=
  Calls.mono hh (retK_mono h)
theorem stCells_mono {a : Addr} {G G' : WP} (h : ∀ w, G w → G' w) : ∀ (l : List Value) (i : Nat) (w : World), stCells a l i G w → stCells a l i G' w
  | [], _, w, hh => h w hh
  | _ :: l, i, w, ⟨h1, h2, h3, h4⟩ => ⟨h1, h2, h3, stCells_mono h l (i + 1) _ h4⟩
theorem stK_mono {K K' : VK} (h : ∀ v w, K v w → K' v w) {t : Nat} {v x : Value} {w : World} (hh : stK P t v x K w) : stK P t v x K' w := by
  unfold stK at *
  cases ha : isAggO P t with
  | none => simp only [ha] at hh
  | some b =>
    cases b <;> simp only [ha] at hh ⊢
    · cases hs : szO P t with
      | none => simp only [hs] at hh
      | some n =>
        rcases n with _ | _ | n <;> simp only [hs] at hh ⊢
        unfold st1 at *
        cases v with
        | pointer a => cases a with
          | none => exact hh
          | some a => exact ⟨hh.1, hh.2.1, hh.2.2.1, h _ _ hh.2.2.2⟩
        | _ => exact hh
    · cases hs : szO P t with
      | none => simp only [hs] at hh
      | some n =>
        simp only [hs] at hh ⊢
        unfold stN at *
        split at hh
        · exact ⟨hh.1, stCells_mono (h undef) _ _ _ hh.2⟩
        · cases hh
theorem calD_mono {K K' : VK} (h : ∀ v w, K v w → K' v w) {v : Value} {args : Array Value} {w : World} (hh : calD P R v args K w) : calD P R v args K' w := by
  have key : ∀ s : Sem Next, semV P R s K w → semV P R s K' w := fun s => semV_mono h
  unfold calD at *
  cases v with
  | func fn first captured =>
    cases fn with
    | func g =>
      cases hb : enterOk P g with
      | false => simp only [hb, cond_false] at hh ⊢; exact key _ hh
      | true => simp only [hb, cond_true] at hh ⊢; exact cal_mono h hh
    | _ => exact key _ hh
  | _ => exact key _ hh
theorem effK_mono {K K' : VK} (h : ∀ v w, K v w → K' v w) {o : Oper} {e : Env} {w : World} (hh : effK P R o e K w) : effK P R o e K' w := by
  obtain ⟨dst, op, type, pos, after, guard⟩ := o
  cases op <;> simp only [effK, amap_eq] at hh ⊢ <;> first
    | exact valV_mono h hh
    | exact unitV_mono h hh
    | exact stK_mono h hh
    | exact h _ _ hh
    | skip
  case alloc t =>
    unfold al at *
    cases hz : (P.info? t).bind (·.zero) with
    | none => rw [hz] at hh; exact hh
    | some z => rw [hz] at hh; exact h _ _ hh
  case call c =>
    cases hc : c.callee with
    | value f =>
      simp only [hc] at hh
      cases f with
      | func g =>
        dsimp only at hh ⊢
        cases hb : enterOk P g with
        | false => rw [hb] at hh; exact semV_mono h hh
        | true => rw [hb] at hh; exact cal_mono h hh
      | _ => exact calD_mono h hh
    | invoke r n => simp only [hc] at hh; exact semV_mono h hh
    | builtin b => simp only [hc] at hh; exact semV_mono h hh
theorem gd_mono {K K' : VK} (h : ∀ v w, K v w → K' v w) {F : VK → WP} (hF : ∀ w, F K w → F K' w) {v : Value} {want : Bool} {w : World} (hh : gd v want F K w) : gd v want F K' w := by
  unfold gd at *
  cases v with
  | bool b =>
    simp only at hh ⊢
    cases hb : b == want with
    | false => simp only [hb] at hh ⊢; exact h _ _ hh
    | true => simp only [hb] at hh ⊢; exact hF _ hh
  | _ => exact h _ _ hh

/-! ### the operation's value, where it is pure or a load -/
theorem gOp_eq (ws : List World) (o : Oper) (e : Env) (K : VK) (w : World) :
    gOp P R ops ws o e K w = (if want ops o e then opK P R ws o e K w else K undef w) := by
  unfold gOp want
  cases o.guard with
  | none => simp
  | some jb =>
    obtain ⟨j, b⟩ := jb
    cases hg : guardTmp ops j with
    | none => simp [hg]
    | some t =>
      simp only [hg, gd, onV]
      cases e t <;> simp only [Bool.false_eq_true, if_false]
      rename_i c; rcases Bool.eq_false_or_eq_true (c == b) with hc | hc <;> simp only [hc] <;> rfl
def Reads (P : Program) (t : Nat) (x : Value) (w : World) (v : Value) : Prop := ∃ a, x = .pointer (some a) ∧
  ((isAggO P t = some false ∧ w.cell? a = some v) ∨ (∃ n cs, isAggO P t = some true ∧ szO P t = some n ∧ cellsAt w a 0 n = some cs ∧ v = .agg cs.toArray))
theorem stab_iff {a : Addr} {c : Value} {G : Prop} : ∀ {ws : List World}, stab ws a c G ↔ (∀ w ∈ ws, w.cell? a = some c) ∧ G
  | [] => by simp [stab]
  | w :: ws => by simp [stab, stab_iff (ws := ws), and_assoc]
theorem stabN_iff {a : Addr} {n : Nat} {c : List Value} {G : Prop} : ∀ {ws : List World}, stabN ws a n c G ↔ (∀ w ∈ ws, cellsAt w a 0 n = some c) ∧ G
  | [] => by simp [stabN]
  | w :: ws => by simp [stabN, stabN_iff (ws := ws), and_assoc]
theorem ldK_iff {ws : List World} {t : Nat} {x : Value} {K : VK} {w : World} : ldK P ws t x K w ↔ ∃ v, Reads P t x w v ∧ (∀ w' ∈ ws, Reads P t x w' v) ∧ K v w := by
  unfold ldK
  cases ha : isAggO P t with
  | none => simp [Reads, ha]
  | some b =>
    cases b with
    | false =>
      have h1 : ∀ ws : List World, (match ws with | [] => ld1 x K | _ :: _ => ld1S ws x K : WP) w ↔ ∃ a c, x = .pointer (some a) ∧ w.cell? a = some c ∧ (∀ w' ∈ ws, w'.cell? a = some c) ∧ K c w := by
        intro ws
        have : (match ws with | [] => ld1 x K | _ :: _ => ld1S ws x K : WP) w = ld1S ws x K w := by
          cases ws with
          | nil => unfold ld1 ld1S; cases x <;> first | rfl | (rename_i a; cases a <;> first | rfl | (simp only [stab]))
          | cons _ _ => rfl
        rw [this]
        unfold ld1S
        cases x with
        | pointer a => cases a with
          | none => simp
          | some a =>
            simp only [Value.pointer.injEq, Option.some.injEq, exists_and_left]
            cases hc : w.cell? a with
            | none => simp [hc]
            | some c => simp [hc, stab_iff]
        | _ => simp
      refine Iff.trans (h1 ws) ?_
      constructor
      · rintro ⟨a, c, rfl, h2, h3, h4⟩; exact ⟨c, ⟨a, rfl, .inl ⟨ha, h2⟩⟩, fun w' hw' => ⟨a, rfl, .inl ⟨ha, h3 w' hw'⟩⟩, h4⟩
      · rintro ⟨v, ⟨a, rfl, h⟩, h3, h4⟩
        rcases h with ⟨_, h⟩ | ⟨_, _, h, _⟩
        · refine ⟨a, v, rfl, h, fun w' hw' => ?_, h4⟩
          obtain ⟨a', he, h⟩ := h3 w' hw'
          injection he with he; injection he with he; subst he
          rcases h with ⟨_, h⟩ | ⟨_, _, h, _⟩
          · exact h
          · rw [ha] at h; cases h
        · rw [ha] at h; cases h
    | true =>
      simp only
      cases hs : szO P t with
      | none =>
        simp only [false_iff]
        rintro ⟨v, ⟨a, rfl, h⟩, _⟩
        rcases h with ⟨h, _⟩ | ⟨n, _, _, h, _⟩
        · rw [ha] at h; cases h
        · rw [hs] at h; cases h
      | some n =>
        have h1 : ∀ ws : List World, (match ws with | [] => ldN n x K | _ :: _ => ldNS ws n x K : WP) w ↔ ∃ a c, x = .pointer (some a) ∧ cellsAt w a 0 n = some c ∧ (∀ w' ∈ ws, cellsAt w' a 0 n = some c) ∧ K (.agg c.toArray) w := by
          intro ws
          have : (match ws with | [] => ldN n x K | _ :: _ => ldNS ws n x K : WP) w = ldNS ws n x K w := by
            cases ws with
            | nil => unfold ldN ldNS; cases x <;> first | rfl | (rename_i a; cases a <;> first | rfl | (simp only [stabN]))
            | cons _ _ => rfl
          rw [this]
          unfold ldNS
          cases x with
          | pointer a => cases a with
            | none => simp
            | some a =>
              simp only [Value.pointer.injEq, Option.some.injEq, exists_and_left]
              cases hc : cellsAt w a 0 n with
              | none => simp [hc]
              | some c => simp [hc, stabN_iff]
          | _ => simp
        refine Iff.trans (h1 ws) ?_
        constructor
        · rintro ⟨a, c, rfl, h2, h3, h4⟩; exact ⟨_, ⟨a, rfl, .inr ⟨n, c, ha, hs, h2, rfl⟩⟩, fun w' hw' => ⟨a, rfl, .inr ⟨n, c, ha, hs, h3 w' hw', rfl⟩⟩, h4⟩
        · rintro ⟨v, ⟨a, rfl, h⟩, h3, h4⟩
          rcases h with ⟨h, _⟩ | ⟨m, cs, _, hm, h, rfl⟩
          · rw [ha] at h; cases h
          · rw [hs] at hm; injection hm with hm; subst hm
            refine ⟨a, cs, rfl, h, fun w' hw' => ?_, h4⟩
            obtain ⟨a', he, h'⟩ := h3 w' hw'
            injection he with he; injection he with he; subst he
            rcases h' with ⟨h', _⟩ | ⟨m, cs', _, hm, h', he⟩
            · rw [ha] at h'; cases h'
            · rw [hs] at hm; injection hm with hm; subst hm
              injection he with he
              have : cs = cs' := by simpa using congrArg Array.toList he
              subst this; exact h'
theorem rdK_iff {t : Nat} {x v : Value} {G : WP} {w : World} : rdK P t x v G w ↔ Reads P t x w v ∧ G w := by
  unfold rdK
  cases ha : isAggO P t with
  | none => simp [Reads, ha]
  | some b =>
    cases b with
    | false =>
      simp only [rd1]
      refine and_congr_left fun _ => ?_
      cases x with
      | pointer a => cases a with
        | none => simp [Reads]
        | some a => simp [Reads, ha]
      | _ => simp [Reads]
    | true =>
      simp only
      cases hs : szO P t with
      | none => simp [Reads, ha, hs]
      | some n =>
        simp only [rdN]
        refine and_congr_left fun _ => ?_
        cases x with
        | pointer a => cases a with
          | none => simp [Reads]
          | some a =>
            cases v with
            | agg cs =>
              simp only [Reads, Value.pointer.injEq, Option.some.injEq, ha, hs, reduceCtorEq, false_and, false_or, exists_and_left, true_and, exists_eq_left', Value.agg.injEq]
              constructor
              · intro h; exact ⟨cs.toList, h, by simp⟩
              · rintro ⟨l, h, rfl⟩; simpa using h
            | _ => simp [Reads, ha]
        | _ => simp [Reads]
theorem stabL_iff {G : WP} {w : World} : ∀ {ls : List (Bool × TypeId × Value × Value)}, stabL P ls G w ↔ (∀ l ∈ ls, l.1 = true → Reads P l.2.1 l.2.2.1 w l.2.2.2) ∧ G w
  | [] => by simp [stabL]
  | (on, t, x, v) :: r => by
    simp only [stabL, ck]
    cases on with
    | false => simp [stabL_iff (ls := r)]
    | true => simp [rdK_iff, stabL_iff (ls := r), and_assoc]
theorem worlds_mem {L : List Nat} {j : Nat} {w : World} : ∀ {h : Hist}, w ∈ worlds L j h ↔ ∃ i, (i, HE.eff w) ∈ h ∧ ordd L i j = false
  | [] => by simp [worlds]
  | (i, .eff w') :: h => by
    simp only [worlds]
    cases hd : ordd L i j with
    | true =>
      simp only [cond_true, worlds_mem (h := h), List.mem_cons, Prod.mk.injEq, HE.eff.injEq]
      constructor
      · rintro ⟨k, hk, hk2⟩; exact ⟨k, .inr hk, hk2⟩
      · rintro ⟨k, hk | hk, hk2⟩
        · rw [hk.1, hd] at hk2; cases hk2
        · exact ⟨k, hk, hk2⟩
    | false =>
      simp only [cond_false, List.mem_cons, worlds_mem (h := h), Prod.mk.injEq, HE.eff.injEq]
      constructor
      · rintro (rfl | ⟨k, hk, hk2⟩)
        · exact ⟨i, .inl ⟨rfl, rfl⟩, hd⟩
        · exact ⟨k, .inr hk, hk2⟩
      · rintro ⟨k, hk | hk, hk2⟩
        · exact .inl hk.2
        · exact .inr ⟨k, hk, hk2⟩
  | (i, .ld on t x v) :: h => by
    simp only [worlds, worlds_mem (h := h), List.mem_cons, Prod.mk.injEq, reduceCtorEq, and_false, false_or]
theorem loads_mem {L : List Nat} {j : Nat} {l : Bool × TypeId × Value × Value} : ∀ {h : Hist}, l ∈ loadsH L j h ↔ ∃ i, (i, HE.ld l.1 l.2.1 l.2.2.1 l.2.2.2) ∈ h ∧ ordd L i j = false
  | [] => by simp [loadsH]
  | (i, .eff w') :: h => by
    simp only [loadsH, loads_mem (h := h), List.mem_cons, Prod.mk.injEq, reduceCtorEq, and_false, false_or]
  | (i, .ld on t x v) :: h => by
    obtain ⟨on', t', x', v'⟩ := l
    simp only [loadsH]
    cases hd : ordd L i j with
    | true =>
      simp only [cond_true, loads_mem (h := h), List.mem_cons, Prod.mk.injEq, HE.ld.injEq]
      constructor
      · rintro ⟨k, hk, hk2⟩; exact ⟨k, .inr hk, hk2⟩
      · rintro ⟨k, hk | hk, hk2⟩
        · rw [hk.1, hd] at hk2; cases hk2
        · exact ⟨k, hk, hk2⟩
    | false =>
      simp only [cond_false, List.mem_cons, loads_mem (h := h), Prod.mk.injEq, HE.ld.injEq]
      constructor
      · rintro (⟨rfl, rfl, rfl, rfl⟩ | ⟨k, hk, hk2⟩)
        · exact ⟨i, .inl ⟨rfl, rfl, rfl, rfl, rfl⟩, hd⟩
        · exact ⟨k, .inr hk, hk2⟩
      · rintro ⟨k, hk | hk, hk2⟩
        · exact .inl hk.2
        · exact .inr ⟨k, hk, hk2⟩
end
end Go.Proofs.YthcekppbbanfeaaGreat.Den
