/- That a call does what the denotation of its body asks, second part: code and calls. Conditions: none. -/
import Derived.Test.YthcekppbbanfeaaGreatDenSound5
set_option linter.unusedVariables false
set_option linter.unusedSimpArgs false
namespace Go.Proofs.YthcekppbbanfeaaGreat.Den
open Go
section
variable {P : Program} {R : ER} {ops : Array Oper} {nt : Nat} {ds : List Deferred} {r : Option Nat} {m : Nat}

/-- The wide fence, in a round or not. -/
def fr (r : Option Nat) : Fence := { Fence.wide with round := r }
theorem room_fr (r : Option Nat) (n : Nat) : (fr r).room n := fun _ h => by simp [fr, Fence.wide] at h
theorem depth_fr {r : Option Nat} {n : Nat} : (fr r).depth.isSome = true → 1 ≤ n := fun h => by simp [fr, Fence.wide] at h
theorem callsIn_fr {r : Option Nat} {n : Nat} {f : FuncId} {args : Array Value} {w : World} {R : ER} : CallsIn (fr r) n P f args w R ↔ Calls P f args w R :=
  ⟨fun h cs => let ⟨e, w', f', q, s, x⟩ := h.2 cs (room_fr _ _); ⟨e, w', f', q, comesIn_wide.1 s, x⟩,
   fun h => ⟨trivial, fun cs _ => let ⟨e, w', f', q, s, x⟩ := h cs; ⟨e, w', f', q, comesIn_wide.2 s, x⟩⟩⟩
theorem rowsIn_fr {r : Option Nat} {n : Nat} {row : String} {args : Array Value} {w : World} {R : Value → World → Prop} (h : Rows P row args w R) : RowsIn (fr r) n P row args w R :=
  fun c cs _ => let ⟨v, w', q, s⟩ := h c cs; ⟨v, w', q, stepsIn_wide.2 s⟩
theorem roundIn_fr {r : Option Nat} {n l f : Nat} {tmps : Array Value} {a b : Code} {w : World} {R : ER} (h : RoundIn Fence.wide 0 P l f tmps a b w R) : RoundIn (fr r) n P l f tmps a b w R :=
  ⟨trivial, fun c cs _ => h.2 c cs (room_wide _)⟩

def envOf (a : Act) : Env := fun t => a.tmps.getD t undef
def Inv (nt : Nat) (ds : List Deferred) (a : Act) : Prop := a.tmps.size = nt ∧ a.defers = ds
theorem ev_envOf (a : Act) : ev (envOf a) = a.eval := by funext x; cases x <;> rfl
def dstOk (nt : Nat) (o : Oper) : Bool := match o.dst with | some d => decide (d < nt) | none => true
theorem envOf_put {a : Act} {o : Oper} {v : Value} (hi : Inv nt ds a) (hd : dstOk nt o = true) : envOf (a.put o.dst v) = updO (envOf a) o.dst v := by
  unfold dstOk at hd
  cases h : o.dst with
  | none => rfl
  | some d =>
    simp only [h, decide_eq_true_eq] at hd
    funext t
    simp only [envOf, Act.put, updO, upd]
    by_cases ht : t = d
    · subst ht; simp [Array.getElem?_setIfInBounds, hi.1, hd]
    · rw [beq_ne ht]; simp [Array.getElem?_setIfInBounds_ne (Ne.symm ht)]
theorem Inv_put {a : Act} {o : Oper} {v : Value} (hi : Inv nt ds a) : Inv nt ds (a.put o.dst v) := by
  obtain ⟨h1, h2⟩ := hi
  cases h : o.dst with
  | none => exact ⟨h1, h2⟩
  | some d => exact ⟨by simp [Act.put, h1], h2⟩
theorem want_eq (o : Oper) (a : Act) : want ops o (envOf a) = Region.wanted o (yielded ops a.tmps) := by
  unfold want Region.wanted
  cases o.guard with
  | none => rfl
  | some jb =>
    obtain ⟨j, b⟩ := jb
    simp only [yielded, guardTmp]
    cases ht : (ops[j]?).bind (·.dst) with
    | none => simp
    | some t =>
      simp only [envOf, Array.getD_eq_getD_getElem?, Option.bind_some]
      cases hv : a.tmps[t]? with
      | none => simp [undef, onV]
      | some v => cases v <;> simp [onV]
theorem upon_of_stepK {o : Oper} {a : Act} {K : VK} {next : Act → World → Prop} {Q : Exit → Act → World → Prop}
    (hn : ∀ v w, K v w → next (a.put o.dst v) w) (hp : ∀ ch w, R (.panicked ch) w → Q (.panic ch) a w) : ∀ x, stepK P R K x → o.uponIn (fr r) m P a next Q x := by
  intro x hr
  have hk : ∀ e w', retK R K e w' → (match (motive := Ending → World → Prop) e with | .returned v => fun w'' => next (a.put o.dst v) w'' | .panicked chain => fun w'' => Q (.panic chain) a w'' | .outgrown => fun _ => LetsOut Q) w' := by
    intro e w' he
    cases e with
    | returned v => exact hn _ _ he
    | panicked ch => exact hp _ _ he
    | outgrown => exact he.elim
  cases x with
  | ok n w =>
    cases n <;> simp only [stepK] at hr <;> simp only [Oper.uponIn]
    case value v => exact hn _ _ hr
    case skip => exact hn _ _ hr
    case enter f args => exact ⟨depth_fr, callsIn_fr.2 (Calls.mono hr fun e w' he => by have := hk e w' he; cases e <;> exact this)⟩
    case row rw args => exact ⟨depth_fr, rowsIn_fr (Rows.mono hr fun v w' q => hn _ _ q)⟩
    case round l f tmps x y => exact ⟨depth_fr, roundIn_fr (RoundIn.mono hr fun e w' he => by have := hk e w' he; cases e <;> exact this)⟩
  | halt x w => cases x <;> simp only [stepK] at hr; simp only [Oper.uponIn]; exact hp _ _ hr
theorem opK_defer {ws : List World} {o : Oper} {e : Env} {K : VK} {w : World} (h : opK P R ws o e K w) : ∀ c, o.op ≠ .defer c := by
  intro c hc
  unfold opK at h
  rw [hc] at h
  simp only [pureFn] at h
  unfold effK at h
  rw [hc] at h
  exact h
theorem wpOp_of_gOp (hng : NG P) {ws : List World} {i : Nat} {o : Oper} (hi : ops[i]? = some o) {K : VK} {a : Act} {w : World} {next : Act → World → Prop} {Q : Exit → Act → World → Prop}
    (hn : ∀ v w, K v w → next (a.put o.dst v) w) (hp : ∀ ch w, R (.panicked ch) w → Q (.panic ch) a w)
    (h : gOp P R ops ws o (envOf a) K w) : wpOpIn (fr r) m P ops Q i next a w := by
  unfold wpOpIn
  simp only [hi]
  rw [gOp_eq, want_eq] at h
  split
  · rename_i hw
    simp only [hw, if_true] at h
    refine ⟨fun _ _ => trivial, ?_⟩
    rw [Oper.semAt_eq _ _ _ (opK_defer h)]
    have := opK_sound hng h
    rw [ev_envOf] at this
    exact upon_of_stepK hn hp _ this
  · rename_i hw
    simp only [hw] at h
    exact ⟨fun _ _ => trivial, hn _ _ h⟩
theorem wpOp_of_dOp (hng : NG P) {L : List Nat} {i : Nat} {o : Oper} (hi : ops[i]? = some o) (hd : dstOk nt o = true) {K : Hist → Env → WP} {h : Hist} {a : Act} {w : World} {Q : Exit → Act → World → Prop}
    (hinv : Inv nt ds a) (hh : dOp P noR ops L i o K h (envOf a) w) : wpOpIn (fr r) m P ops Q i (fun a' w' => Inv nt ds a' ∧ ∃ h', K h' (envOf a') w') a w := by
  have key : ∀ (ws : List World) (KK : VK), (∀ v w', KK v w' → ∃ h', K h' (updO (envOf a) o.dst v) w') → gOp P noR ops ws o (envOf a) KK w → wpOpIn (fr r) m P ops Q i (fun a' w' => Inv nt ds a' ∧ ∃ h', K h' (envOf a') w') a w := by
    intro ws KK hKK q
    refine wpOp_of_gOp hng hi (fun v w' q' => ⟨Inv_put hinv, ?_⟩) (fun ch w' q' => q'.elim) q
    obtain ⟨h', q'⟩ := hKK v w' q'
    exact ⟨h', by rw [envOf_put hinv hd]; exact q'⟩
  unfold dOp at hh
  cases hf : pureFn P o.op with
  | some f => simp only [hf] at hh; exact key _ _ (fun v w' q => ⟨_, q⟩) hh
  | none =>
    simp only [hf] at hh
    by_cases hl : ∃ t x, o.op = .load t x
    · obtain ⟨t, x, ho⟩ := hl
      simp only [ho] at hh
      exact key _ _ (fun v w' q => ⟨_, q⟩) hh
    · have hh' : gOp P noR ops [] o (envOf a) (fun v => stabL P (loadsH L i h) (K ((i, .eff w) :: h) (updO (envOf a) o.dst v))) w := by
        generalize hop : o.op = op at hh hl
        cases op <;> first | exact absurd ⟨_, _, rfl⟩ hl | exact hh
      exact key _ _ (fun v w' q => ⟨_, (stabL_iff.1 q).2⟩) hh'
theorem wpAny_of_dAny (hng : NG P) (hd : ∀ (i : Nat) (o : Oper), ops[i]? = some o → dstOk nt o = true) {K : Env → WP} {Q : Exit → Act → World → Prop} (hQ : ∀ a w, Inv nt ds a → K (envOf a) w → Q .normal a w) :
    ∀ (fuel : Nat) (listed : Array Bool) (h : Hist) (a : Act) (w : World), Inv nt ds a → dAny P noR ops K fuel listed h (envOf a) w → wpAnyIn (fr r) m P .any ops Q fuel listed a w
  | 0, listed, h, a, w, hi, hh => ⟨hh.1, hQ _ _ hi hh.2⟩
  | fuel + 1, listed, h, a, w, hi, hh => by
    refine ⟨fun q => hQ _ _ hi (hh.1 q), fun i hr => ?_⟩
    obtain ⟨_, o, ho, _⟩ := mem_ready.1 hr
    have := wpOp_of_dOp (Q := Q) (r := r) (m := m) hng ho (hd i o ho) hi (hh.2 i hr o ho)
    exact wpOpIn_mono (fun a' w' ⟨hi', h', q⟩ => wpAny_of_dAny hng hd hQ fuel _ h' a' w' hi' q) this
theorem wpOps_of_den (hng : NG P) (hd : ∀ (i : Nat) (o : Oper), ops[i]? = some o → dstOk nt o = true) {K : Env → WP} {Q : Exit → Act → World → Prop} (hQ : ∀ a w, Inv nt ds a → K (envOf a) w → Q .normal a w)
    (hp : ∀ ch a w, Inv nt ds a → R (.panicked ch) w → Q (.panic ch) a w) :
    ∀ (l : List Oper) (k : Nat) (a : Act) (w : World), (∀ j, j < l.length → l[j]? = ops[k + j]?) → Inv nt ds a → denOps P R ops l (envOf a) K w → wpOpsIn (fr r) m P ops Q (List.range' k l.length) a w
  | [], k, a, w, hl, hi, hh => hQ _ _ hi hh
  | o :: l, k, a, w, hl, hi, hh => by
    have h0 : ops[k]? = some o := by simpa using (hl 0 (by simp)).symm
    rw [List.length_cons, List.range'_succ, wpOpsIn_cons]
    refine wpOp_of_gOp hng h0 (fun v w' q => ?_) (fun ch w' q => hp _ _ _ hi q) hh
    refine wpOps_of_den hng hd hQ hp l (k + 1) _ _ ?_ (Inv_put hi) ?_
    · intro j hj; have := hl (j + 1) (by simpa using hj); simpa [Nat.add_assoc, Nat.add_comm 1 j] using this
    · rw [envOf_put hi (hd k o h0)]; exact q

def postOf (R : ER) (nt : Nat) (ds : List Deferred) (k : Kont) : Exit → Act → World → Prop
  | .normal, a, w => Inv nt ds a ∧ k.n (envOf a) w
  | .exit id, a, w => Inv nt ds a ∧ k.x id (envOf a) w
  | .ret, a, w => Inv nt ds a ∧ k.r (envOf a) w
  | .goto _, _, _ => False
  | .panic ch, a, w => a.defers = ds ∧ R (.panicked ch) w
  | .outgrown, _, _ => False
/-- The code's closed facts. -/
def okC (P : Program) (nt : Nat) (inr : Bool) : Code → Bool
  | .region _ ops d => ops.toList.all (dstOk nt) && (!d || regOk ops)
  | .seq a b => okC P nt inr a && okC P nt inr b
  | .cond _ a b => okC P nt inr a && okC P nt inr b
  | .block _ b => okC P nt inr b
  | .loop b => okC P nt inr b
  | .scope b => !inr && okC P nt inr b
  | _ => true
theorem den_sound (hm : P.follows .mixedOrders = true) (hng : NG P) : ∀ (c : Code), okC P nt r.isSome c = true → ∀ (k : Kont) (a : Act) (w : World), Inv nt ds a → den P R c (envOf a) k w → c.wpIn (fr r) m P (postOf R nt ds k) a w
  | .skip, _, k, a, w, hi, h => wpIn_skip ⟨hi, h⟩
  | .label l, _, k, a, w, hi, h => wpIn_label ⟨hi, h⟩
  | .region id ops d, hok, k, a, w, hi, h => by
    simp only [okC, Bool.and_eq_true, List.all_eq_true] at hok
    have hd : ∀ (i : Nat) (o : Oper), ops[i]? = some o → dstOk nt o = true := fun i o ho => hok.1 o (by simpa using Array.mem_of_getElem? ho)
    cases d with
    | false =>
      refine wpIn_region ?_
      have := wpOps_of_den (Q := postOf R nt ds k) (R := R) (r := r) (m := m) hng hd (fun a w hi q => ⟨hi, q⟩) (fun ch a w hi q => ⟨hi.2, q⟩) ops.toList 0 a w (by simp) hi h
      simpa [List.range_eq_range'] using this
    | true =>
      refine wpIn_region_any hm ?_
      have hro : regOk ops = true := by simpa using hok.2
      have h' : (bif calm P ops then denD P noR ops (befs ops.toList []) 0 ops.toList [] (envOf a) k.n else denT P noR ops (befs ops.toList []) k.n ops.size (Array.replicate ops.size false) [] (envOf a)) w.drew := h
      cases hc : calm P ops with
      | true => rw [hc] at h'; exact wpAny_of_dAny hng hd (fun a w hi q => ⟨hi, q⟩) _ _ [] a _ hi (calm_any hro hc h')
      | false => rw [hc] at h'; exact wpAny_of_dAny hng hd (fun a w hi q => ⟨hi, q⟩) _ _ [] a _ hi (tree_any hro h')
  | .seq x y, hok, k, a, w, hi, h => by
    simp only [okC, Bool.and_eq_true] at hok
    refine wpIn_seq (wpIn_mono (den_sound hm hng x hok.1 _ a w hi h) fun e a' w' q => ?_)
    cases e with
    | normal => exact den_sound hm hng y hok.2 k a' w' q.1 q.2
    | _ => exact q
  | .cond c x y, hok, k, a, w, hi, h => by
    simp only [okC, Bool.and_eq_true] at hok
    simp only [den, cnd, ev_envOf] at h
    cases hc : a.eval c with
    | bool b =>
      simp only [hc] at h
      refine wpIn_cond hc ?_
      cases b with
      | true => exact den_sound hm hng x hok.1 k a w hi h
      | false => exact den_sound hm hng y hok.2 k a w hi h
    | _ => simp only [hc] at h
  | .block id b, hok, k, a, w, hi, h => by
    refine wpIn_block (wpIn_mono (den_sound hm hng b hok (inB id k) a w hi h) fun e a' w' q => ?_)
    cases e with
    | exit i =>
      simp only [Exit.inBlock]
      obtain ⟨q1, q2⟩ := q
      simp only [inB] at q2
      by_cases hid : i = id
      · subst hid; rw [if_pos rfl]; rw [Nat.beq_refl] at q2; exact ⟨q1, q2⟩
      · rw [if_neg hid]; rw [beq_ne hid] at q2; exact ⟨q1, q2⟩
    | normal => exact q
    | goto l => exact q
    | ret => exact q
    | panic ch => exact q
    | outgrown => exact q
  | .loop b, hok, k, a, w, hi, h => by
    obtain ⟨n, hn⟩ := h
    refine wpIn_loop_rounds n ?_
    have key : ∀ n a w, Inv nt ds a → iterL (den P R b) n (envOf a) k w → Code.roundsIn (fr r) m P b (postOf R nt ds k) n a w := by
      intro n
      induction n with
      | zero => intro a w _ q; exact q.elim
      | succ n ih =>
        intro a w hi q
        rw [roundsIn_succ]
        refine wpIn_mono (den_sound hm hng b hok _ a w hi q) fun e a' w' q => ?_
        cases e with
        | normal => exact ih a' w' q.1 q.2
        | _ => exact q
    exact key n a w hi hn
  | .scope b, hok, k, a, w, hi, h => by
    simp only [okC, Bool.and_eq_true, Bool.not_eq_true'] at hok
    have hs := den_sound hm hng b hok.2 k a w hi h
    have hr : fr r = Fence.wide := by
      cases r with
      | none => rfl
      | some l => exact absurd hok.1 (by simp)
    rw [hr] at hs ⊢
    refine wpIn_wide.2 (wp_scope_straight ((wpIn_wide (n := m)).1 (wpIn_mono hs fun e a' w' q => ?_)))
    cases e with
    | goto l => exact q.elim
    | _ => exact q
  | .exit id, _, k, a, w, hi, h => wpIn_exit ⟨hi, h⟩
  | .ret, _, k, a, w, hi, h => wpIn_ret ⟨hi, h⟩
  | .goto l, _, k, a, w, hi, h => h.elim
  | .rangeFunc .., _, k, a, w, hi, h => h.elim
  | .refuse _, _, k, a, w, hi, h => h.elim

/-! ### calls -/
def resL (P : Program) : List ResultVar → Env → (List Value → WP) → WP
  | [], _, K => K []
  | .tmp t :: rs, e, K => resL P rs e fun vs => K (e t :: vs)
  | .cell a t :: rs, e, K => ldK P [] t (e a) fun v => resL P rs e fun vs => K (v :: vs)
def retV : List Value → Value
  | [v] => v
  | vs => .tuple vs.toArray
def resV (P : Program) (R : ER) (rs : List ResultVar) (e : Env) : WP := resL P rs e fun vs => R (.returned (retV vs))
def kont (P : Program) (R : ER) (fn : Func) : Kont := { n := resV P R fn.results.toList, x := fun _ _ _ => False, r := resV P R fn.results.toList }
def argsEnv (l : List Value) : Env := fun t => l.getD t undef
theorem loadAt_addr {t : Nat} {v c : Value} {w : World} (h : (Instr.loadAt t v).run P w = .ok c w) : (do loadVar t (← asAddr v) : Sem Value).run P w = .ok c w := by
  cases v with
  | pointer a => cases a with
    | some a => exact h
    | none => cases h
  | _ => cases h
theorem resL_spec {a : Act} {g : ResultVar → Sem Value} (g1 : ∀ t, g (.tmp t) = pure (a.tmps.getD t undef)) (g2 : ∀ b t, g (.cell b t) = (do loadVar t (← asAddr (a.tmps.getD b undef)))) :
    ∀ (rs : List ResultVar) (K : List Value → WP) (w : World), resL P rs (envOf a) K w → ∃ vs, (rs.mapM g).run P w = .ok vs w ∧ K vs w
  | [], K, w, h => ⟨[], rfl, h⟩
  | .tmp t :: rs, K, w, h => by
    obtain ⟨vs, h1, h2⟩ := resL_spec g1 g2 rs _ w h
    refine ⟨_, ?_, h2⟩
    rw [List.mapM_cons, Sem.run_bind, g1]
    simp only [Sem.run_pure, Result.andThen, Sem.run_bind, h1]
    rfl
  | .cell b t :: rs, K, w, h => by
    obtain ⟨c, hc, h⟩ := ldK_spec h
    obtain ⟨vs, h1, h2⟩ := resL_spec g1 g2 rs _ w h
    refine ⟨_, ?_, h2⟩
    rw [List.mapM_cons, Sem.run_bind, g2]
    have := loadAt_addr hc
    simp only [envOf] at this
    simp only [this, Result.andThen, Sem.run_bind, h1]
    rfl
def resG (tmps : Array Value) : ResultVar → Sem Value
  | .tmp t => pure (tmps.getD t undef)
  | .cell a t => do loadVar t (← asAddr (tmps.getD a undef))
theorem results_eq (fn : Func) (tmps : Array Value) : results fn tmps = (do let vs ← fn.results.mapM (resG tmps); pure (if h : vs.size = 1 then vs[0] else .tuple vs)) := by
  unfold results
  congr 2
theorem results_spec {fn : Func} {a : Act} {w : World} (h : resV P R fn.results.toList (envOf a) w) : ∃ v, (results fn a.tmps).run P w = .ok v w ∧ R (.returned v) w := by
  obtain ⟨vs, h1, h2⟩ := resL_spec (g := resG a.tmps) (fun _ => rfl) (fun _ _ => rfl) _ _ _ h
  refine ⟨_, ?_, h2⟩
  rw [results_eq, Sem.run_bind, Array.mapM_eq_mapM_toList, Sem.run_map, h1]
  simp only [Result.andThen]
  cases vs with
  | nil => rfl
  | cons v vs => cases vs <;> rfl
theorem calls_den (hm : P.follows .mixedOrders = true) (hng : NG P) {f : FuncId} {fn : Func} {c : Code} {args : List Value} {w : World} (hf : P.funcs[f]? = some fn) (hb : fn.body = some c)
    (hok : (okC P fn.ntmps false c && decide (args.length ≤ fn.ntmps)) = true) (h : den P R c (argsEnv args) (kont P R fn) w) : Calls P f args.toArray w R := by
  simp only [Bool.and_eq_true, decide_eq_true_eq] at hok
  refine calls_of_wp hf hb ?_
  have he : envOf { tmps := args.toArray ++ Array.replicate (fn.ntmps - args.toArray.size) undef, defers := [] } = argsEnv args := by
    funext t
    simp only [envOf, argsEnv, Array.getD_eq_getD_getElem?, List.getD_eq_getElem?_getD, Array.getElem?_append]
    split
    · simp
    · rename_i ht
      have ht' : args.length ≤ t := by simpa using ht
      simp only [List.getElem?_eq_none ht', Option.getD_none]
      rw [Array.getElem?_replicate]
      split <;> rfl
  refine (wpIn_wide (n := 0)).1 (wpIn_mono (den_sound (R := R) (nt := fn.ntmps) (ds := []) (r := none) (m := 0) hm hng c hok.1 (kont P R fn) _ w ⟨by simp; omega, rfl⟩ (he ▸ h)) fun e a' w' q => ?_)
  cases e with
  | normal => exact ⟨q.1.2, results_spec q.2⟩
  | ret => exact ⟨q.1.2, results_spec q.2⟩
  | panic ch => exact q
  | exit id => exact q.2.elim
  | goto l => exact q.elim
  | outgrown => exact q.elim
end
end Go.Proofs.YthcekppbbanfeaaGreat.Den
