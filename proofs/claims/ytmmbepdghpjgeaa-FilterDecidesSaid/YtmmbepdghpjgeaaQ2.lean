/- That a call does what the denotation of its body asks, second part: code and calls. Conditions: none. -/
import Derived.Test.YtmmbepdghpjgeaaProg
import Derived.Below
import Derived.Test.YtmmbepdghpjgeaaQ1
section
set_option linter.unusedVariables false
set_option linter.unusedSimpArgs false
namespace Go.Proofs.Ytmmbepdghpjgeaa.Den
open Go
section
variable {P : Program} {R : ER} {ops : Array Oper} {nt : Nat} {ds : List Deferred} {r : Option Nat} {m : Nat}

/-- The wide fence, in a round or not. -/
def fr (r : Option Nat) : Fence := { Fence.wide with round := r }
theorem room_fr (r : Option Nat) (n : Nat) : (fr r).room n := fun _ h => by simp [fr, Fence.wide] at h
theorem depth_fr {r : Option Nat} {n : Nat} : (fr r).depth.isSome = true → 1 ≤ n := fun h => by simp [fr, Fence.wide] at h
theorem callsIn_fr {r : Option Nat} {n : Nat} {f : FuncId} {args : Array Value} {w : World} {R : ER} : CallsIn (fr r) n P f args w R ↔ Calls P f args w R :=
  ⟨fun h cs => let ⟨e, w', f', q, s, x⟩ := h.2 cs (room_fr _ _); ⟨e, w', f', q, comesIn_wide.1 s, x⟩,
   fun h => ⟨trivial, fun cs _ => let ⟨e, w', f', q, s, x⟩ := h cs; ⟨e, w', f', q, comesIn_wide.2 s, x⟩⟩⟩
theorem rowsIn_fr {r : Option Nat} {n : Nat} {row : String} {args : Array Value} {w : World} {R : Value → World → Prop} (h : Rows P row args w R) : RowsIn (fr r) n P row args w R :=
  fun c cs _ => let ⟨v, w', q, s⟩ := h c cs; ⟨v, w', q, stepsIn_wide.2 s⟩
theorem roundIn_fr {r : Option Nat} {n l f : Nat} {tmps : Array Value} {a b : Code} {w : World} {R : ER} (h : RoundIn Fence.wide 0 P l f tmps a b w R) : RoundIn (fr r) n P l f tmps a b w R :=
  ⟨trivial, fun c cs _ => h.2 c cs (room_wide _)⟩

def envOf (a : Act) : Env := fun t => a.tmps.getD t undef
def Inv (nt : Nat) (ds : List Deferred) (a : Act) : Prop := a.tmps.size = nt ∧ a.defers = ds
theorem ev_envOf (a : Act) : ev (envOf a) = a.eval := by funext x; cases x <;> rfl
def dstOk (nt : Nat) (o : Oper) : Bool := match o.dst with | some d => decide (d < nt) | none => true
theorem envOf_put {a : Act} {o : Oper} {v : Value} (hi : Inv nt ds a) (hd : dstOk nt o = true) : envOf (a.put o.dst v) = updO (envOf a) o.dst v := by
  unfold dstOk at hd
  cases h : o.dst with
  | none => rfl
  | some d =>
    simp only [h, decide_eq_true_eq] at hd
    funext t
    simp only [envOf, Act.put, updO, upd]
    by_cases ht : t = d
    · subst ht; simp [Array.getElem?_setIfInBounds, hi.1, hd]
    · rw [beq_ne ht]; simp [Array.getElem?_setIfInBounds_ne (Ne.symm ht)]
theorem Inv_put {a : Act} {o : Oper} {v : Value} (hi : Inv nt ds a) : Inv nt ds (a.put o.dst v) := by
  obtain ⟨h1, h2⟩ := hi
  cases h : o.dst with
  | none => exact ⟨h1, h2⟩
  | some d => exact ⟨by simp [Act.put, h1], h2⟩
theorem want_eq (o : Oper) (a : Act) : want ops o (envOf a) = Region.wanted o (yielded ops a.tmps) := by
  unfold want Region.wanted
  cases o.guard with
  | none => rfl
  | some jb =>
    obtain ⟨j, b⟩ := jb
    simp only [yielded, guardTmp]
    cases ht : (ops[j]?).bind (·.dst) with
    | none => simp
    | some t =>
      simp only [envOf, Array.getD_eq_getD_getElem?, Option.bind_some]
      cases hv : a.tmps[t]? with
      | none => simp [undef, onV]
      | some v => cases v <;> simp [onV]
theorem upon_of_stepK {o : Oper} {a : Act} {K : VK} {next : Act → World → Prop} {Q : Exit → Act → World → Prop}
    (hn : ∀ v w, K v w → next (a.put o.dst v) w) (hp : ∀ ch w, R (.panicked ch) w → Q (.panic ch) a w) : ∀ x, stepK P R K x → o.uponIn (fr r) m P a next Q x := by
  intro x hr
  have hk : ∀ e w', retK R K e w' → (match (motive := Ending → World → Prop) e with | .returned v => fun w'' => next (a.put o.dst v) w'' | .panicked chain => fun w'' => Q (.panic chain) a w'' | .outgrown => fun _ => LetsOut Q) w' := by
    intro e w' he
    cases e with
    | returned v => exact hn _ _ he
    | panicked ch => exact hp _ _ he
    | outgrown => exact he.elim
  cases x with
  | ok n w =>
    cases n <;> simp only [stepK] at hr <;> simp only [Oper.uponIn]
    case value v => exact hn _ _ hr
    case skip => exact hn _ _ hr
    case enter f args => exact ⟨depth_fr, callsIn_fr.2 (Calls.mono hr fun e w' he => by have := hk e w' he; cases e <;> exact this)⟩
    case row rw args => exact ⟨depth_fr, rowsIn_fr (Rows.mono hr fun v w' q => hn _ _ q)⟩
    case round l f tmps x y => exact ⟨depth_fr, roundIn_fr (RoundIn.mono hr fun e w' he => by have := hk e w' he; cases e <;> exact this)⟩
  | halt x w => cases x <;> simp only [stepK] at hr; simp only [Oper.uponIn]; exact hp _ _ hr
theorem opK_defer {ws : List World} {o : Oper} {e : Env} {K : VK} {w : World} (h : opK P R ws o e K w) : ∀ c, o.op ≠ .defer c := by
  intro c hc
  unfold opK at h
  rw [hc] at h
  simp only [pureFn] at h
  unfold effK at h
  rw [hc] at h
  exact h
theorem wpOp_of_gOp (hng : NG P) {ws : List World} {i : Nat} {o : Oper} (hi : ops[i]? = some o) {K : VK} {a : Act} {w : World} {next : Act → World → Prop} {Q : Exit → Act → World → Prop}
    (hn : ∀ v w, K v w → next (a.put o.dst v) w) (hp : ∀ ch w, R (.panicked ch) w → Q (.panic ch) a w)
    (h : gOp P R ops ws o (envOf a) K w) : wpOpIn (fr r) m P ops Q i next a w := by
  unfold wpOpIn
  simp only [hi]
  rw [gOp_eq, want_eq] at h
  split
  · rename_i hw
    simp only [hw, if_true] at h
    refine ⟨fun _ _ => trivial, ?_⟩
    rw [Oper.semAt_eq _ _ _ (opK_defer h)]
    have := opK_sound hng h
    rw [ev_envOf] at this
    exact upon_of_stepK hn hp _ this
  · rename_i hw
    simp only [hw] at h
    exact ⟨fun _ _ => trivial, hn _ _ h⟩
theorem wpOp_of_dOp (hng : NG P) {L : List Nat} {i : Nat} {o : Oper} (hi : ops[i]? = some o) (hd : dstOk nt o = true) {K : Hist → Env → WP} {h : Hist} {a : Act} {w : World} {Q : Exit → Act → World → Prop}
    (hinv : Inv nt ds a) (hh : dOp P noR ops L i o K h (envOf a) w) : wpOpIn (fr r) m P ops Q i (fun a' w' => Inv nt ds a' ∧ ∃ h', K h' (envOf a') w') a w := by
  have key : ∀ (ws : List World) (KK : VK), (∀ v w', KK v w' → ∃ h', K h' (updO (envOf a) o.dst v) w') → gOp P noR ops ws o (envOf a) KK w → wpOpIn (fr r) m P ops Q i (fun a' w' => Inv nt ds a' ∧ ∃ h', K h' (envOf a') w') a w := by
    intro ws KK hKK q
    refine wpOp_of_gOp hng hi (fun v w' q' => ⟨Inv_put hinv, ?_⟩) (fun ch w' q' => q'.elim) q
    obtain ⟨h', q'⟩ := hKK v w' q'
    exact ⟨h', by rw [envOf_put hinv hd]; exact q'⟩
  unfold dOp at hh
  cases hf : pureFn P o.op with
  | some f => simp only [hf] at hh; exact key _ _ (fun v w' q => ⟨_, q⟩) hh
  | none =>
    simp only [hf] at hh
    by_cases hl : ∃ t x, o.op = .load t x
    · obtain ⟨t, x, ho⟩ := hl
      simp only [ho] at hh
      exact key _ _ (fun v w' q => ⟨_, q⟩) hh
    · have hh' : gOp P noR ops [] o (envOf a) (fun v => stabL P (loadsH L i h) (K ((i, .eff w) :: h) (updO (envOf a) o.dst v))) w := by
        generalize hop : o.op = op at hh hl
        cases op <;> first | exact absurd ⟨_, _, rfl⟩ hl | exact hh
      exact key _ _ (fun v w' q => ⟨_, (stabL_iff.1 q).2⟩) hh'
theorem wpAny_of_dAny (hng : NG P) (hd : ∀ (i : Nat) (o : Oper), ops[i]? = some o → dstOk nt o = true) {K : Env → WP} {Q : Exit → Act → World → Prop} (hQ : ∀ a w, Inv nt ds a → K (envOf a) w → Q .normal a w) :
    ∀ (fuel : Nat) (listed : Array Bool) (h : Hist) (a : Act) (w : World), Inv nt ds a → dAny P noR ops K fuel listed h (envOf a) w → wpAnyIn (fr r) m P .any ops Q fuel listed a w
  | 0, listed, h, a, w, hi, hh => ⟨hh.1, hQ _ _ hi hh.2⟩
  | fuel + 1, listed, h, a, w, hi, hh => by
    refine ⟨fun q => hQ _ _ hi (hh.1 q), fun i hr => ?_⟩
    obtain ⟨_, o, ho, _⟩ := mem_ready.1 hr
    have := wpOp_of_dOp (Q := Q) (r := r) (m := m) hng ho (hd i o ho) hi (hh.2 i hr o ho)
    exact wpOpIn_mono (fun a' w' ⟨hi', h', q⟩ => wpAny_of_dAny hng hd hQ fuel _ h' a' w' hi' q) this
theorem wpOps_of_den (hng : NG P) (hd : ∀ (i : Nat) (o : Oper), ops[i]? = some o → dstOk nt o = true) {K : Env → WP} {Q : Exit → Act → World → Prop} (hQ : ∀ a w, Inv nt ds a → K (envOf a) w → Q .normal a w)
    (hp : ∀ ch a w, Inv nt ds a → R (.panicked ch) w → Q (.panic ch) a w) :
    ∀ (l : List Oper) (k : Nat) (a : Act) (w : World), (∀ j, j < l.length → l[j]? = ops[k + j]?) → Inv nt ds a → denOps P R ops l (envOf a) K w → wpOpsIn (fr r) m P ops Q (List.range' k l.length) a w
  | [], k, a, w, hl, hi, hh => hQ _ _ hi hh
  | o :: l, k, a, w, hl, hi, hh => by
    have h0 : ops[k]? = some o := by simpa using (hl 0 (by simp)).symm
    rw [List.length_cons, List.range'_succ, wpOpsIn_cons]
    refine wpOp_of_gOp hng h0 (fun v w' q => ?_) (fun ch w' q => hp _ _ _ hi q) hh
    refine wpOps_of_den hng hd hQ hp l (k + 1) _ _ ?_ (Inv_put hi) ?_
    · intro j hj; have := hl (j + 1) (by simpa using hj); simpa [Nat.add_assoc, Nat.add_comm 1 j] using this
    · rw [envOf_put hi (hd k o h0)]; exact q

def postOf (R : ER) (nt : Nat) (ds : List Deferred) (k : Kont) : Exit → Act → World → Prop
  | .normal, a, w => Inv nt ds a ∧ k.n (envOf a) w
  | .exit id, a, w => Inv nt ds a ∧ k.x id (envOf a) w
  | .ret, a, w => Inv nt ds a ∧ k.r (envOf a) w
  | .goto _, _, _ => False
  | .panic ch, a, w => a.defers = ds ∧ R (.panicked ch) w
  | .outgrown, _, _ => False
/-- The code's closed facts. -/
def okC (P : Program) (nt : Nat) (inr : Bool) : Code → Bool
  | .region _ ops d => ops.toList.all (dstOk nt) && (!d || regOk ops)
  | .seq a b => okC P nt inr a && okC P nt inr b
  | .cond _ a b => okC P nt inr a && okC P nt inr b
  | .block _ b => okC P nt inr b
  | .loop b => okC P nt inr b
  | .scope b => !inr && okC P nt inr b
  | _ => true
theorem den_sound (hm : P.follows .mixedOrders = true) (hng : NG P) : ∀ (c : Code), okC P nt r.isSome c = true → ∀ (k : Kont) (a : Act) (w : World), Inv nt ds a → den P R c (envOf a) k w → c.wpIn (fr r) m P (postOf R nt ds k) a w
  | .skip, _, k, a, w, hi, h => wpIn_skip ⟨hi, h⟩
  | .label l, _, k, a, w, hi, h => wpIn_label ⟨hi, h⟩
  | .region id ops d, hok, k, a, w, hi, h => by
    simp only [okC, Bool.and_eq_true, List.all_eq_true] at hok
    have hd : ∀ (i : Nat) (o : Oper), ops[i]? = some o → dstOk nt o = true := fun i o ho => hok.1 o (by simpa using Array.mem_of_getElem? ho)
    cases d with
    | false =>
      refine wpIn_region ?_
      have := wpOps_of_den (Q := postOf R nt ds k) (R := R) (r := r) (m := m) hng hd (fun a w hi q => ⟨hi, q⟩) (fun ch a w hi q => ⟨hi.2, q⟩) ops.toList 0 a w (by simp) hi h
      simpa [List.range_eq_range'] using this
    | true =>
      refine wpIn_region_any hm ?_
      have hro : regOk ops = true := by simpa using hok.2
      have h' : (bif calm P ops then denD P noR ops (befs ops.toList []) 0 ops.toList [] (envOf a) k.n else denT P noR ops (befs ops.toList []) k.n ops.size (Array.replicate ops.size false) [] (envOf a)) w.drew := h
      cases hc : calm P ops with
      | true => rw [hc] at h'; exact wpAny_of_dAny hng hd (fun a w hi q => ⟨hi, q⟩) _ _ [] a _ hi (calm_any hro hc h')
      | false => rw [hc] at h'; exact wpAny_of_dAny hng hd (fun a w hi q => ⟨hi, q⟩) _ _ [] a _ hi (tree_any hro h')
  | .seq x y, hok, k, a, w, hi, h => by
    simp only [okC, Bool.and_eq_true] at hok
    refine wpIn_seq (wpIn_mono (den_sound hm hng x hok.1 _ a w hi h) fun e a' w' q => ?_)
    cases e with
    | normal => exact den_sound hm hng y hok.2 k a' w' q.1 q.2
    | _ => exact q
  | .cond c x y, hok, k, a, w, hi, h => by
    simp only [okC, Bool.and_eq_true] at hok
    simp only [den, cnd, ev_envOf] at h
    cases hc : a.eval c with
    | bool b =>
      simp only [hc] at h
      refine wpIn_cond hc ?_
      cases b with
      | true => exact den_sound hm hng x hok.1 k a w hi h
      | false => exact den_sound hm hng y hok.2 k a w hi h
    | _ => simp only [hc] at h
  | .block id b, hok, k, a, w, hi, h => by
    refine wpIn_block (wpIn_mono (den_sound hm hng b hok (inB id k) a w hi h) fun e a' w' q => ?_)
    cases e with
    | exit i =>
      simp only [Exit.inBlock]
      obtain ⟨q1, q2⟩ := q
      simp only [inB] at q2
      by_cases hid : i = id
      · subst hid; rw [if_pos rfl]; rw [Nat.beq_refl] at q2; exact ⟨q1, q2⟩
      · rw [if_neg hid]; rw [beq_ne hid] at q2; exact ⟨q1, q2⟩
    | normal => exact q
    | goto l => exact q
    | ret => exact q
    | panic ch => exact q
    | outgrown => exact q
  | .loop b, hok, k, a, w, hi, h => by
    obtain ⟨n, hn⟩ := h
    refine wpIn_loop_rounds n ?_
    have key : ∀ n a w, Inv nt ds a → iterL (den P R b) n (envOf a) k w → Code.roundsIn (fr r) m P b (postOf R nt ds k) n a w := by
      intro n
      induction n with
      | zero => intro a w _ q; exact q.elim
      | succ n ih =>
        intro a w hi q
        rw [roundsIn_succ]
        refine wpIn_mono (den_sound hm hng b hok _ a w hi q) fun e a' w' q => ?_
        cases e with
        | normal => exact ih a' w' q.1 q.2
        | _ => exact q
    exact key n a w hi hn
  | .scope b, hok, k, a, w, hi, h => by
    simp only [okC, Bool.and_eq_true, Bool.not_eq_true'] at hok
    have hs := den_sound hm hng b hok.2 k a w hi h
    have hr : fr r = Fence.wide := by
      cases r with
      | none => rfl
      | some l => exact absurd hok.1 (by simp)
    rw [hr] at hs ⊢
    refine wpIn_wide.2 (wp_scope_straight ((wpIn_wide (n := m)).1 (wpIn_mono hs fun e a' w' q => ?_)))
    cases e with
    | goto l => exact q.elim
    | _ => exact q
  | .exit id, _, k, a, w, hi, h => wpIn_exit ⟨hi, h⟩
  | .ret, _, k, a, w, hi, h => wpIn_ret ⟨hi, h⟩
  | .goto l, _, k, a, w, hi, h => h.elim
  | .rangeFunc .., _, k, a, w, hi, h => h.elim
  | .refuse _, _, k, a, w, hi, h => h.elim

/-! ### calls -/
def resL (P : Program) : List ResultVar → Env → (List Value → WP) → WP
  | [], _, K => K []
  | .tmp t :: rs, e, K => resL P rs e fun vs => K (e t :: vs)
  | .cell a t :: rs, e, K => ldK P [] t (e a) fun v => resL P rs e fun vs => K (v :: vs)
def retV : List Value → Value
  | [v] => v
  | vs => .tuple vs.toArray
def resV (P : Program) (R : ER) (rs : List ResultVar) (e : Env) : WP := resL P rs e fun vs => R (.returned (retV vs))
def kont (P : Program) (R : ER) (fn : Func) : Kont := { n := resV P R fn.results.toList, x := fun _ _ _ => False, r := resV P R fn.results.toList }
def argsEnv (l : List Value) : Env := fun t => l.getD t undef
theorem loadAt_addr {t : Nat} {v c : Value} {w : World} (h : (Instr.loadAt t v).run P w = .ok c w) : (do loadVar t (← asAddr v) : Sem Value).run P w = .ok c w := by
  cases v with
  | pointer a => cases a with
    | some a => exact h
    | none => cases h
  | _ => cases h
theorem resL_spec {a : Act} {g : ResultVar → Sem Value} (g1 : ∀ t, g (.tmp t) = pure (a.tmps.getD t undef)) (g2 : ∀ b t, g (.cell b t) = (do loadVar t (← asAddr (a.tmps.getD b undef)))) :
    ∀ (rs : List ResultVar) (K : List Value → WP) (w : World), resL P rs (envOf a) K w → ∃ vs, (rs.mapM g).run P w = .ok vs w ∧ K vs w
  | [], K, w, h => ⟨[], rfl, h⟩
  | .tmp t :: rs, K, w, h => by
    obtain ⟨vs, h1, h2⟩ := resL_spec g1 g2 rs _ w h
    refine ⟨_, ?_, h2⟩
    rw [List.mapM_cons, Sem.run_bind, g1]
    simp only [Sem.run_pure, Result.andThen, Sem.run_bind, h1]
    rfl
  | .cell b t :: rs, K, w, h => by
    obtain ⟨c, hc, h⟩ := ldK_spec h
    obtain ⟨vs, h1, h2⟩ := resL_spec g1 g2 rs _ w h
    refine ⟨_, ?_, h2⟩
    rw [List.mapM_cons, Sem.run_bind, g2]
    have := loadAt_addr hc
    simp only [envOf] at this
    simp only [this, Result.andThen, Sem.run_bind, h1]
    rfl
def resG (tmps : Array Value) : ResultVar → Sem Value
  | .tmp t => pure (tmps.getD t undef)
  | .cell a t => do loadVar t (← asAddr (tmps.getD a undef))
theorem results_eq (fn : Func) (tmps : Array Value) : results fn tmps = (do let vs ← fn.results.mapM (resG tmps); pure (if h : vs.size = 1 then vs[0] else .tuple vs)) := by
  unfold results
  congr 2
theorem results_spec {fn : Func} {a : Act} {w : World} (h : resV P R fn.results.toList (envOf a) w) : ∃ v, (results fn a.tmps).run P w = .ok v w ∧ R (.returned v) w := by
  obtain ⟨vs, h1, h2⟩ := resL_spec (g := resG a.tmps) (fun _ => rfl) (fun _ _ => rfl) _ _ _ h
  refine ⟨_, ?_, h2⟩
  rw [results_eq, Sem.run_bind, Array.mapM_eq_mapM_toList, Sem.run_map, h1]
  simp only [Result.andThen]
  cases vs with
  | nil => rfl
  | cons v vs => cases vs <;> rfl
theorem calls_den (hm : P.follows .mixedOrders = true) (hng : NG P) {f : FuncId} {fn : Func} {c : Code} {args : List Value} {w : World} (hf : P.funcs[f]? = some fn) (hb : fn.body = some c)
    (hok : (okC P fn.ntmps false c && decide (args.length ≤ fn.ntmps)) = true) (h : den P R c (argsEnv args) (kont P R fn) w) : Calls P f args.toArray w R := by
  simp only [Bool.and_eq_true, decide_eq_true_eq] at hok
  refine calls_of_wp hf hb ?_
  have he : envOf { tmps := args.toArray ++ Array.replicate (fn.ntmps - args.toArray.size) undef, defers := [] } = argsEnv args := by
    funext t
    simp only [envOf, argsEnv, Array.getD_eq_getD_getElem?, List.getD_eq_getElem?_getD, Array.getElem?_append]
    split
    · simp
    · rename_i ht
      have ht' : args.length ≤ t := by simpa using ht
      simp only [List.getElem?_eq_none ht', Option.getD_none]
      rw [Array.getElem?_replicate]
      split <;> rfl
  refine (wpIn_wide (n := 0)).1 (wpIn_mono (den_sound (R := R) (nt := fn.ntmps) (ds := []) (r := none) (m := 0) hm hng c hok.1 (kont P R fn) _ w ⟨by simp; omega, rfl⟩ (he ▸ h)) fun e a' w' q => ?_)
  cases e with
  | normal => exact ⟨q.1.2, results_spec q.2⟩
  | ret => exact ⟨q.1.2, results_spec q.2⟩
  | panic ch => exact q
  | exit id => exact q.2.elim
  | goto l => exact q.elim
  | outgrown => exact q.elim
end
end Go.Proofs.Ytmmbepdghpjgeaa.Den
end

section
set_option linter.unusedVariables false
namespace Go.Proofs.Ytmmbepdghpjgeaa.Den
open Go
def subC : Code → List Nat → Code
  | c, [] => c
  | .seq a b, d :: p => bif Nat.beq d 0 then subC a p else subC b p
  | .cond _ a b, d :: p => bif Nat.beq d 0 then subC a p else subC b p
  | .block _ b, _ :: p => subC b p
  | .loop b, _ :: p => subC b p
  | .scope b, _ :: p => subC b p
  | .rangeFunc _ _ a b, d :: p => bif Nat.beq d 0 then subC a p else subC b p
  | c, _ => c
def cd (f : Func) (p : List Nat) : Code := subC (f.body.getD .skip) p
def pre : Nat → Code → Code
  | 0, .seq a _ => a
  | n + 1, .seq a b => .seq a (pre n b)
  | _, c => c
def post : Nat → Code → Code
  | 0, .seq _ b => b
  | n + 1, .seq _ b => post n b
  | _, _ => .skip
def condOp : Code → Operand
  | .cond c _ _ => c
  | _ => .tmp 0
def setN (k : Kont) (N : Env → WP) : Kont := ⟨N, k.x, k.r⟩
section
variable (P : Program) (R : ER)
theorem den_split0 : ∀ (n : Nat) (c : Code) (e : Env) (k : Kont), den P R c e k = den P R (pre n c) e { k with n := fun e' => den P R (post n c) e' k }
  | 0, .seq _ _, _, _ => rfl
  | n + 1, .seq a b, e, k => by
    have ih := fun e' => den_split0 n b e' k
    show den P R a e { k with n := fun e' => den P R b e' k } = den P R a e { n := fun e' => den P R (pre n b) e' { k with n := fun e' => den P R (post n b) e' k }, x := k.x, r := k.r }
    rw [funext ih]
  | 0, .skip, _, _ => rfl
  | 0, .label _, _, _ => rfl
  | 0, .region _ _ _, _, _ => rfl
  | 0, .cond _ _ _, _, _ => rfl
  | 0, .block _ _, _, _ => rfl
  | 0, .loop _, _, _ => rfl
  | 0, .scope _, _, _ => rfl
  | 0, .exit _, _, _ => rfl
  | 0, .ret, _, _ => rfl
  | 0, .goto _, _, _ => rfl
  | 0, .refuse _, _, _ => rfl
  | 0, .rangeFunc .., _, _ => rfl
  | _ + 1, .skip, _, _ => rfl
  | _ + 1, .label _, _, _ => rfl
  | _ + 1, .region _ _ _, _, _ => rfl
  | _ + 1, .cond _ _ _, _, _ => rfl
  | _ + 1, .block _ _, _, _ => rfl
  | _ + 1, .loop _, _, _ => rfl
  | _ + 1, .scope _, _, _ => rfl
  | _ + 1, .exit _, _, _ => rfl
  | _ + 1, .ret, _, _ => rfl
  | _ + 1, .goto _, _, _ => rfl
  | _ + 1, .refuse _, _, _ => rfl
  | _ + 1, .rangeFunc .., _, _ => rfl
theorem den_join (n : Nat) (c b : Code) (e : Env) (k : Kont) (N : Env → WP) (G : WP) (hb : post n c = b) (hN : ∀ e, den P R b e k = N e)
    (hG : den P R (pre n c) e (setN k N) = G) : den P R c e k = G := by
  subst hb; subst hG
  rw [den_split0 P R n c e k]
  have : (fun e' => den P R (post n c) e' k) = N := funext hN
  rw [this]; rfl
theorem den_skip (n : Nat) (c : Code) (e : Env) (k : Kont) (G : WP) (hb : post n c = .skip) (hG : den P R (pre n c) e (setN k k.n) = G) : den P R c e k = G := by
  subst hG
  rw [den_split0 P R n c e k, hb]; rfl
theorem den_conv (c b : Code) (e : Env) (k : Kont) (G : WP) (h : c = b) (hG : den P R b e k = G) : den P R c e k = G := by subst h; exact hG
theorem den_if (c a b : Code) (e : Env) (k : Kont) (A B G : WP) (h : c = .cond (condOp c) a b) (hA : den P R a e k = A) (hB : den P R b e k = B) (hG : cnd (ev e (condOp c)) A B = G) :
    den P R c e k = G := by subst hA; subst hB; subst hG; rw [h]; rfl
theorem den_block (c : Code) (id : Nat) (b : Code) (e : Env) (k : Kont) (G : WP) (h : c = .block id b) (hb : den P R b e (inB id k) = G) : den P R c e k = G := by subst h; exact hb
theorem den_scope (c b : Code) (e : Env) (k : Kont) (G : WP) (h : c = .scope b) (hb : den P R b e k = G) : den P R c e k = G := by subst h; exact hb
theorem den_loop (c b : Code) (e : Env) (k : Kont) (L : Nat → Env → WP) (G : WP) (h : c = .loop b) (hL : ∀ n e, iterL (den P R b) n e k = L n e) (hG : (exN fun n => L n e) = G) :
    den P R c e k = G := by
  subst h; subst hG
  show (exN fun n => iterL (den P R b) n e k) = _
  congr 1; funext n; exact hL n e
theorem iterL_join (D : Env → Kont → WP) (k : Kont) (N : Nat → Env → WP) (h0 : ∀ e, N 0 e = fun _ => False) (hs : ∀ n e, D e (setN k (N n)) = N (n + 1) e) : ∀ n e, iterL D n e k = N n e
  | 0, e => (h0 e).symm
  | n + 1, e => by
    show D e { k with n := fun e' => iterL D n e' k } = _
    rw [show (fun e' => iterL D n e' k) = N n from funext (iterL_join D k N h0 hs n)]
    exact hs n e
end
noncomputable abbrev Pg : Program := Go.Proofs.Try.prog
theorem hmixed : Pg.follows .mixedOrders = true := by kernel_rfl
theorem hng_all : Pg.funcs.toList.all (fun fn => !(fn.name == "runtime.NumGoroutine")) = true := by kernel_rfl
theorem hng : NG Pg := by
  intro f fn hf
  have h := List.all_eq_true.1 hng_all fn (by simpa using Array.mem_of_getElem? hf)
  simpa using h
theorem calls_of_den {f : Nat} {fn : Func} {args : List Value} {R : ER} {w : World} {G : WP} (hf : Pg.funcs[f]? = some fn) (hb : fn.body = some (cd fn []))
    (hok : (okC Pg fn.ntmps false (cd fn []) && decide (args.length ≤ fn.ntmps)) = true) (hd : den Pg R (cd fn []) (argsEnv args) (kont Pg R fn) = G) (h : G w) : Calls Pg f ⟨args⟩ w R := by
  subst hd; exact calls_den hmixed hng hf hb hok h
end Go.Proofs.Ytmmbepdghpjgeaa.Den
end

section
set_option linter.unusedVariables false
set_option linter.unusedSimpArgs false
namespace Go.Proofs.Ytmmbepdghpjgeaa.Den
open Go Go.RowKit

/-- Block b holds the cells l. -/
def Blk (w : World) (b : Nat) (t : TypeId) (l : List Value) : Prop := w.heap[b]? = some (.cells ⟨l⟩ t (0, 0))
/-- w' is w; but the blocks of S may have changed, and there may be new blocks. -/
structure Ext (S : List Nat) (w w' : World) : Prop where
  os : w'.os = w.os
  tape : w'.tape = w.tape
  output : w'.output = w.output
  size : w.heap.size ≤ w'.heap.size
  block : ∀ k, k < w.heap.size → k ∉ S → w'.heap[k]? = w.heap[k]?
  drawn : w.drawn ≤ w'.drawn
section
variable {w w' w'' : World} {b b' : Nat} {t t' : TypeId} {l l' : List Value} {S S' : List Nat}
theorem Ext.refl (S : List Nat) (w : World) : Ext S w w := ⟨rfl, rfl, rfl, Nat.le_refl _, fun _ _ _ => rfl, Nat.le_refl _⟩
theorem Ext.mono (h : Ext S w w') (hs : ∀ k, k ∈ S → k < w.heap.size → k ∈ S') : Ext S' w w' :=
  ⟨h.os, h.tape, h.output, h.size, fun k hk hn => h.block k hk fun hm => hn (hs k hm hk), h.drawn⟩
theorem Ext.trans (h : Ext S w w') (h' : Ext S w' w'') : Ext S w w'' :=
  ⟨h'.os.trans h.os, h'.tape.trans h.tape, h'.output.trans h.output, Nat.le_trans h.size h'.size, fun k hk hn => (h'.block k (Nat.lt_of_lt_of_le hk h.size) hn).trans (h.block k hk hn), Nat.le_trans h.drawn h'.drawn⟩
/-- One part after the other, with blocks of their own. -/
theorem Ext.then (h : Ext S w w') (h' : Ext S' w' w'') {S2 : List Nat} (h1 : ∀ k, k ∈ S → k < w.heap.size → k ∈ S2) (h2 : ∀ k, k ∈ S' → k < w.heap.size → k ∈ S2) : Ext S2 w w'' :=
  ⟨h'.os.trans h.os, h'.tape.trans h.tape, h'.output.trans h.output, Nat.le_trans h.size h'.size, fun k hk hn =>
    (h'.block k (Nat.lt_of_lt_of_le hk h.size) fun hm => hn (h2 k hm hk)).trans (h.block k hk fun hm => hn (h1 k hm hk)), Nat.le_trans h.drawn h'.drawn⟩
theorem Ext.drew (S : List Nat) (w : World) : Ext S w w.drew := ⟨rfl, rfl, rfl, Nat.le_refl _, fun _ _ _ => rfl, Nat.le_succ _⟩
theorem Ext.alloc (S : List Nat) (w : World) (o : Obj) : Ext S w (w.alloc o) :=
  ⟨rfl, rfl, rfl, by simp, fun k hk _ => Below.heap_alloc _ _ _ hk, Nat.le_refl _⟩
theorem Ext.setCell (w : World) (a : Addr) (v : Value) : Ext [a.block] w (w.setCell a v) :=
  ⟨rfl, rfl, rfl, by simp, fun k _ hn => Below.heap_setCell _ _ _ _ (by simpa using hn), Nat.le_refl _⟩
theorem Ext.below {B : Nat} (h : Ext S w w') (hB : B ≤ w.heap.size) (hS : ∀ k, k ∈ S → B ≤ k) : Below B w w' :=
  ⟨h.os, h.tape, h.output, h.size, fun k hk => h.block k (by omega) fun hm => by have := hS k hm; omega⟩
theorem Blk.lt (h : Blk w b t l) : b < w.heap.size := by
  unfold Blk at h; exact (Array.getElem?_eq_some_iff.1 h).1
theorem Blk.ext (h : Blk w b t l) (he : Ext S w w') (hn : b ∉ S) : Blk w' b t l := by
  have hl := h.lt
  unfold Blk at *; rw [he.block b hl hn]; exact h
theorem Blk.inj (h : Blk w b t l) (h' : Blk w b t' l') : t = t' ∧ l = l' := by
  unfold Blk at *; rw [h] at h'; simp at h'; exact ⟨h'.2, h'.1⟩
theorem Blk.drew (h : Blk w b t l) : Blk w.drew b t l := h
theorem Blk.cell (h : Blk w b t l) (o : Nat) : w.cell? ⟨b, o, none⟩ = l[o]? := by
  unfold Blk at h; simp [World.cell?, h]
theorem Blk.frozen (h : Blk w b t l) (o : Nat) : w.frozen? ⟨b, o, none⟩ = false := by
  unfold Blk at h; simp [World.frozen?, h]
theorem Blk.setCell (h : Blk w b t l) (o : Nat) (v : Value) : Blk (w.setCell ⟨b, o, none⟩ v) b t (l.set o v) := by
  unfold Blk at *
  simp [World.setCell, Array.getElem?_modify, h]
theorem Blk.new (w : World) (t : TypeId) (l : Array Value) : Blk (w.alloc (.cells l t)) w.heap.size t l.toList := by
  show (w.heap.push _)[w.heap.size]? = _
  simp
theorem add_mk (b o n : Nat) : (⟨b, o, none⟩ : Addr).add n = ⟨b, o + n, none⟩ := by
  unfold Addr.add; split
  · rename_i h; simp [h]
  · rfl
theorem Blk.cellsAt (h : Blk w b t l) : ∀ (n o i : Nat), o + i + n ≤ l.length → cellsAt w ⟨b, o, none⟩ i n = some ((l.drop (o + i)).take n)
  | 0, o, i, _ => by simp [Den.cellsAt]
  | n + 1, o, i, hle => by
    have hlt : o + i < l.length := by omega
    have ih := Blk.cellsAt h n o (i + 1) (by omega)
    simp only [Den.cellsAt, add_mk, h.cell, List.getElem?_eq_getElem hlt, ih]
    rw [List.drop_eq_getElem_cons hlt, List.take_succ_cons]; rfl
end

/-! ### steps -/
section
variable {w : World} {b : Nat} {t : TypeId} {l : List Value} {K : VK} {R : ER}
theorem pv_some (v : Value) (K : VK) : pv (some v) K = K v := Eq.symm (Eq.symm rfl)
theorem nilO_ptr (a : Addr) : nilO (.pointer (some a)) = some (.pointer (some a)) := rfl
theorem faO_mk (n b o : Nat) : faO n (.pointer (some ⟨b, o, none⟩)) = some (.pointer (some ⟨b, o + n, none⟩)) := by simp [faO, add_mk]
theorem ixA_mk {n sz b o j : Nat} {k : IntKind} (h : j < n) : ixA n sz (.pointer (some ⟨b, o, none⟩)) (.int k (j : Int)) = some (.pointer (some ⟨b, o + j * sz, none⟩)) := by
  simp only [ixA, add_mk]; rw [if_pos (by omega)]; simp
theorem ixS_mk {n sz b o c j : Nat} {k : IntKind} (h : j < n) : ixS sz (.slice (some ⟨b, o, none⟩) n c) (.int k (j : Int)) = some (.pointer (some ⟨b, o + j * sz, none⟩)) := by
  simp only [ixS, add_mk]; rw [if_pos (by omega)]; simp
theorem gd_yes {F : VK → WP} {K : VK} : gd (.bool true) true F K = F K := Eq.symm (Eq.symm rfl)
theorem gd_no {F : VK → WP} {K : VK} : gd (.bool false) true F K = K undef := Eq.symm (Eq.symm rfl)
theorem gd_yes' {F : VK → WP} {K : VK} : gd (.bool false) false F K = F K := Eq.symm (Eq.symm rfl)
theorem gd_no' {F : VK → WP} {K : VK} : gd (.bool true) false F K = K undef := Eq.symm (Eq.symm rfl)
theorem cnd_true {A B : WP} : cnd (.bool true) A B = A := Eq.symm (Eq.symm rfl)
theorem cnd_false {A B : WP} : cnd (.bool false) A B = B := Eq.symm (Eq.symm rfl)
theorem cnd_decide {p : Prop} [Decidable p] {A B : WP} {w : World} (h1 : p → A w) (h2 : ¬p → B w) : cnd (.bool (decide p)) A B w := by
  by_cases h : p
  · simp only [h, decide_true]; exact h1 h
  · simp only [h, decide_false]; exact h2 h
theorem pick_true (a b : Value) : pickO (.bool true) a b = some a := rfl
theorem pick_false (a b : Value) : pickO (.bool false) a b = some b := rfl
theorem not_bool (b : Bool) : unO .not (.bool b) = some (.bool !b) := rfl
theorem bin_add (k : IntKind) (a b : Int) : bin .add (.int k a) (.int k b) = some (.int k (k.wrap (a + b))) := by simp [bin]
theorem bin_sub (k : IntKind) (a b : Int) : bin .sub (.int k a) (.int k b) = some (.int k (k.wrap (a - b))) := by simp [bin]
theorem bin_mul (k : IntKind) (a b : Int) : bin .mul (.int k a) (.int k b) = some (.int k (k.wrap (a * b))) := by simp [bin]
theorem bin_eql (k : IntKind) (a b : Int) : bin .eql (.int k a) (.int k b) = some (.bool (decide (a = b))) := by
  simp only [bin, if_true]; rfl
theorem bin_neq (k : IntKind) (a b : Int) : bin .neq (.int k a) (.int k b) = some (.bool (decide (a ≠ b))) := by
  simp only [bin, if_true]; congr 2; rw [Bool.eq_iff_iff]; simp
theorem bin_lss (k : IntKind) (a b : Int) : bin .lss (.int k a) (.int k b) = some (.bool (decide (a < b))) := by simp [bin]
theorem bin_leq (k : IntKind) (a b : Int) : bin .leq (.int k a) (.int k b) = some (.bool (decide (a ≤ b))) := by simp [bin]
theorem bin_gtr (k : IntKind) (a b : Int) : bin .gtr (.int k a) (.int k b) = some (.bool (decide (b < a))) := by simp [bin]
theorem bin_geq (k : IntKind) (a b : Int) : bin .geq (.int k a) (.int k b) = some (.bool (decide (b ≤ a))) := by simp [bin]
theorem bin_quo {k : IntKind} {a b : Int} (h : b ≠ 0) : bin .quo (.int k a) (.int k b) = some (.int k (k.wrap (a.tdiv b))) := by simp [bin, h]
theorem bin_rem {k : IntKind} {a b : Int} (h : b ≠ 0) : bin .rem (.int k a) (.int k b) = some (.int k (a.tmod b)) := by simp [bin, h]
theorem ext0 (a : Value) (l : List Value) : extO 0 (.tuple ⟨a :: l⟩) = some a := by simp [extO]
theorem ext1 (a b : Value) (l : List Value) : extO 1 (.tuple ⟨a :: b :: l⟩) = some b := by simp [extO]
theorem ext2 (a b c : Value) (l : List Value) : extO 2 (.tuple ⟨a :: b :: c :: l⟩) = some c := by simp [extO]
theorem lenS_mk (a : Option Addr) (n c : Nat) : lenS (.slice a n c) = some (.int .i64 n) := rfl
theorem eqNil_none : eqNilP (.pointer none) = some (.bool true) := rfl
theorem eqNil_some (a : Addr) : eqNilP (.pointer (some a)) = some (.bool false) := rfl
theorem neNil_none : neNilP (.pointer none) = some (.bool false) := rfl
theorem neNil_some (a : Addr) : neNilP (.pointer (some a)) = some (.bool true) := rfl
theorem wrap64_id {a : Int} (h1 : -9223372036854775808 ≤ a) (h2 : a ≤ 9223372036854775807) : IntKind.i64.wrap a = a := by
  have e1 : (2 ^ IntKind.i64.bits : Int) = 18446744073709551616 := by decide
  have e2 : (2 ^ (IntKind.i64.bits - 1) : Int) = 9223372036854775808 := by decide
  simp only [IntKind.wrap, e1, e2, IntKind.signed, Bool.true_and, decide_eq_true_eq]
  split <;> omega
theorem ld1_blk {o : Nat} {v : Value} (h : Blk w b t l) (hv : l[o]? = some v) (k : K v w) : ld1 (.pointer (some ⟨b, o, none⟩)) K w := by
  simp only [ld1, h.cell, hv]; exact k
theorem ldN_blk {n o : Nat} (h : Blk w b t l) (hle : o + n ≤ l.length) (k : K (.agg ((l.drop o).take n).toArray) w) : ldN n (.pointer (some ⟨b, o, none⟩)) K w := by
  simp only [ldN, h.cellsAt n o 0 (by omega)]; exact k
theorem st1_blk {o : Nat} {v : Value} (h : Blk w b t l) (ho : o < l.length) (hv : scalar v = true) (k : ∀ w', Blk w' b t (l.set o v) → Ext [b] w w' → K undef w') :
    st1 (.pointer (some ⟨b, o, none⟩)) v K w := by
  refine ⟨hv, ?_, h.frozen o, k _ (h.setCell o v) (Ext.setCell w ⟨b, o, none⟩ v)⟩
  rw [h.cell, List.getElem?_eq_getElem ho]; rfl
/-- Cells laid into a list from a place on. -/
def lay (l : List Value) (o : Nat) (cs : List Value) : List Value := l.take o ++ cs ++ l.drop (o + cs.length)
theorem lay_nil (l : List Value) (o : Nat) : lay l o [] = l := by simp [lay]
theorem lay_cons {l : List Value} {o : Nat} {c : Value} {cs : List Value} (h : o < l.length) : lay (l.set o c) (o + 1) cs = lay l o (c :: cs) := by
  unfold lay
  have e1 : (l.set o c).take (o + 1) = l.take o ++ [c] := by
    rw [List.take_add_one, List.take_set_of_le (by omega)]; simp [h]
  have e2 : (l.set o c).drop (o + 1 + cs.length) = l.drop (o + (c :: cs).length) := by
    rw [List.drop_set_of_lt (by omega)]; congr 1; simp; omega
  rw [e1, e2]; simp
theorem stCells_blk {G : WP} : ∀ (cs : List Value) (o i : Nat) (w : World) (l : List Value), Blk w b t l → o + i + cs.length ≤ l.length → (∀ c ∈ cs, scalar c = true) →
    (∀ w', Blk w' b t (lay l (o + i) cs) → Ext [b] w w' → G w') → stCells ⟨b, o, none⟩ cs i G w
  | [], o, i, w, l, h, hle, hs, k => k w (by rw [lay_nil]; exact h) (Ext.refl _ _)
  | c :: cs, o, i, w, l, h, hle, hs, k => by
    simp only [List.length_cons] at hle
    have hlt : o + i < l.length := by omega
    refine ⟨hs c (List.mem_cons_self ..), ?_, ?_, ?_⟩
    · rw [add_mk, h.cell, List.getElem?_eq_getElem hlt]; rfl
    · rw [add_mk]; exact h.frozen _
    · rw [add_mk]
      refine stCells_blk cs o (i + 1) _ _ (h.setCell (o + i) c) (by simp; omega) (fun c' hc' => hs c' (List.mem_cons_of_mem _ hc')) fun w' hb he => ?_
      refine k w' ?_ ((Ext.setCell w ⟨b, o + i, none⟩ c).trans he)
      rw [← lay_cons hlt]; exact hb
theorem stN_blk {o n : Nat} {cs : Array Value} (h : Blk w b t l) (hn : cs.size = n) (hle : o + n ≤ l.length) (hs : ∀ c ∈ cs.toList, scalar c = true)
    (k : ∀ w', Blk w' b t (lay l o cs.toList) → Ext [b] w w' → K undef w') : stN n (.pointer (some ⟨b, o, none⟩)) (.agg cs) K w := by
  refine ⟨hn, stCells_blk cs.toList o 0 w l h (by simp; omega) hs fun w' hb he => k w' (by simpa using hb) he⟩
theorem bx_blk {v : Value} (k : ∀ w', Blk w' w.heap.size t v.cells.toList → Ext [] w w' → w'.heap.size = w.heap.size + 1 → K (.pointer (some ⟨w.heap.size, 0, none⟩)) w') : bx t v K w :=
  k _ (Blk.new w t v.cells) (Ext.alloc [] w _) (by simp)
theorem al_blk {P : Program} {z : Value} (hz : (P.info? t).bind (·.zero) = some z)
    (k : ∀ w', Blk w' w.heap.size t z.cells.toList → Ext [] w w' → w'.heap.size = w.heap.size + 1 → K (.pointer (some ⟨w.heap.size, 0, none⟩)) w') : al P t K w := by
  unfold al; rw [hz]; exact k _ (Blk.new w t z.cells) (Ext.alloc [] w _) (by simp)
theorem ret_k {R : ER} {K : VK} {v : Value} {w : World} : retK R K (.returned v) w = K v w := Eq.symm (Eq.symm rfl)
theorem cal_of {P : Program} {f : FuncId} {args : Array Value} {Q : ER} (h : Calls P f args w Q) (k : ∀ e w', Q e w' → retK R K e w') : cal P R f args K w := h.mono k
theorem ret_eq {R : ER} {v v' : Value} {w : World} (h : R (.returned v) w) (e : v = v') : R (.returned v') w := e ▸ h
end
end Go.Proofs.Ytmmbepdghpjgeaa.Den
end

section
set_option linter.unusedVariables false
set_option linter.unusedSimpArgs false
set_option maxRecDepth 8000
namespace Go.Proofs.Ytmmbepdghpjgeaa.Den
open Go Go.RowKit
abbrev I (n : Int) : Value := .int .i64 n
abbrev U8 (n : Int) : Value := .int .u8 n
abbrev U64 (n : Int) : Value := .int .u64 n
abbrev ptr (b o : Nat) : Value := .pointer (some ⟨b, o, none⟩)
/-! ### reading -/
/-- s reads as m elements (of sz cells each), the cells ys. -/
def Rd (w : World) (sz : Nat) (s : Value) (m : Nat) (ys : List Value) : Prop :=
  (∃ c, s = .slice none m c ∧ m * sz = 0 ∧ ys = []) ∨ ∃ a c, s = .slice (some a) m c ∧ m ≤ c ∧ cellsAt w a 0 (m * sz) = some ys
theorem add_add (a : Addr) (m n : Nat) : (a.add m).add n = a.add (m + n) := by
  obtain ⟨b, o, x⟩ := a
  cases x with
  | none => simp [add_mk, Nat.add_assoc]
  | some y => unfold Addr.add; split <;> split <;> simp_all [Nat.add_assoc] <;> omega
theorem cellsAt_spec {w : World} {a : Addr} : ∀ (n i : Nat) (l : List Value), cellsAt w a i n = some l ↔ l.length = n ∧ ∀ j, j < n → w.cell? (a.add (i + j)) = l[j]?
  | 0, i, l => by
    simp only [cellsAt, Option.some.injEq]
    constructor
    · rintro rfl; simp
    · intro h; exact (List.length_eq_zero_iff.1 h.1).symm
  | n + 1, i, l => by
    simp only [cellsAt]
    constructor
    · intro h
      cases h1 : w.cell? (a.add i) with
      | none => simp [h1] at h
      | some c =>
        cases h2 : cellsAt w a (i + 1) n with
        | none => simp [h1, h2] at h
        | some l' =>
          simp only [h1, h2, Option.some.injEq] at h
          subst h
          obtain ⟨g1, g2⟩ := (cellsAt_spec n (i + 1) l').1 h2
          refine ⟨by simp [g1], fun j hj => ?_⟩
          cases j with
          | zero => simpa using h1
          | succ j => have := g2 j (by omega); simpa [Nat.add_assoc, Nat.add_comm 1 j] using this
    · rintro ⟨h1, h2⟩
      cases l with
      | nil => simp at h1
      | cons c l =>
        have e0 := h2 0 (by omega)
        simp only [Nat.add_zero, List.getElem?_cons_zero] at e0
        have := (cellsAt_spec n (i + 1) l).2 ⟨by simpa using h1, fun j hj => by have := h2 (j + 1) (by omega); simpa [Nat.add_assoc, Nat.add_comm 1 j] using this⟩
        simp only [e0, this]
theorem cellsAt_congr {w w' : World} {a : Addr} (h : w'.heap[a.block]? = w.heap[a.block]?) (n i : Nat) : cellsAt w' a i n = cellsAt w a i n := by
  have hb : ∀ i, (a.add i).block = a.block := by intro i; unfold Addr.add; split <;> rfl
  induction n generalizing i with
  | zero => rfl
  | succ n ih =>
    have : w'.cell? (a.add i) = w.cell? (a.add i) := by simp only [World.cell?, hb, h]
    simp only [cellsAt, this, ih]
theorem cell_lt {w : World} {a : Addr} {v : Value} (h : w.cell? a = some v) : a.block < w.heap.size := by
  unfold World.cell? at h
  cases hh : w.heap[a.block]? with
  | none => simp [hh] at h
  | some o => exact (Array.getElem?_eq_some_iff.1 hh).1
section
variable {w w' w0 : World} {T el sz bts n m : Nat} {z xs ys : List Value} {s src : Value} {K : VK} {R : ER}
theorem Rd.length (h : Rd w sz src m ys) : ys.length = m * sz := by
  rcases h with ⟨c, rfl, h0, rfl⟩ | ⟨a, c, rfl, hmc, h⟩
  · simp [h0]
  · exact ((cellsAt_spec _ _ _).1 h).1
theorem Rd.below (h : Rd w0 sz src m ys) (hb : Ext [] w0 w) : Rd w sz src m ys := by
  rcases h with h | ⟨a, c, rfl, hmc, h⟩
  · exact .inl h
  · by_cases h0 : m * sz = 0
    · refine .inr ⟨a, c, rfl, hmc, ?_⟩
      rw [h0] at h ⊢; exact h
    · refine .inr ⟨a, c, rfl, hmc, ?_⟩
      obtain ⟨g1, g2⟩ := (cellsAt_spec _ _ _).1 h
      have hl := g2 0 (by omega)
      rw [List.getElem?_eq_getElem (by omega)] at hl
      have hlt := cell_lt hl
      have hb' : (a.add (0 + 0)).block = a.block := by unfold Addr.add; split <;> rfl
      rw [hb'] at hlt
      rw [cellsAt_congr (hb.block _ hlt (by simp))]; exact h
theorem Rd.nil : Rd w sz (.slice none 0 0) 0 [] := .inl ⟨0, rfl, by simp, rfl⟩
theorem run_firstCells {P : Program} (h : Rd w sz src m ys) : (Builtin.firstCells sz m src).run P w = .ok ys.toArray w := by
  rcases h with ⟨c, rfl, _, rfl⟩ | ⟨a, c, rfl, hmc, h⟩
  · rfl
  · have := run_loadCells (P := P) (w := w) (a := a) (m * sz) 0 #[] _ h
    simpa [loadCells, Builtin.firstCells] using this
theorem run_lenOf {P : Program} (h : Rd w sz src m ys) : (Builtin.lenOf src).run P w = .ok m w := by
  rcases h with ⟨c, rfl, _, rfl⟩ | ⟨a, c, rfl, hmc, h⟩ <;> rfl
theorem lenS_rd (h : Rd w sz s m ys) : lenS s = some (I m) := by
  rcases h with ⟨c, rfl, _, rfl⟩ | ⟨a, c, rfl, hmc, h⟩ <;> rfl
/-- The address of an element, and what stands there. -/
theorem Rd.at (h : Rd w sz s m ys) {j : Nat} (hj : j < m) (hz : 0 < sz) {k : IntKind} : ∃ a, ixS sz s (.int k (j : Int)) = some (.pointer (some a)) ∧ ∀ f, f < sz → w.cell? (a.add f) = ys[j * sz + f]? := by
  rcases h with ⟨c, rfl, h0, rfl⟩ | ⟨a, c, rfl, hmc, h⟩
  · exfalso; have := Nat.mul_eq_zero.1 h0; omega
  · refine ⟨a.add (j * sz), ?_, fun f hf => ?_⟩
    · simp only [ixS]; rw [if_pos (by omega)]; simp
    · have := ((cellsAt_spec _ _ _).1 h).2 (j * sz + f) (by
        have : (j + 1) * sz ≤ m * sz := Nat.mul_le_mul_right _ hj
        rw [Nat.add_mul] at this; omega)
      rw [add_add]; simpa using this
/-- Reading an element of one cell. -/
theorem ix1_rd {k : IntKind} {j : Nat} {v : Value} (h : Rd w 1 s m ys) (hv : ys[j]? = some v) (g : K v w) : pv (ixS 1 s (.int k (j : Int))) (fun p => ld1 p K) w := by
  have hj : j < m := by have := (List.getElem?_eq_some_iff.1 hv).1; have := h.length; omega
  obtain ⟨a, h1, h2⟩ := h.at hj (by omega) (k := k)
  rw [h1, pv_some]
  have := h2 0 (by omega)
  have ha : a.add 0 = a := by simp [Addr.add]
  rw [ha] at this
  simp only [Nat.mul_one, Nat.add_zero, hv] at this
  simp only [ld1, this]; exact g
end
/-! ### chunks -/
inductive Tag where
  | t (t : TypeId)
  | o (o : Obj)
  | f (t : TypeId) (fr : Nat × Nat)
instance : Coe TypeId Tag := ⟨.t⟩
instance tagNat (n : Nat) : OfNat Tag n := ⟨.t n⟩
theorem tag_lit (n : Nat) : (@OfNat.ofNat Tag n (tagNat n)) = Tag.t n := rfl
structure Chunk where
  b : Nat
  t : Tag
  l : List Value
/-- What the block of a chunk holds: cells, or another object. -/
def Chunk.obj (c : Chunk) : Obj := match c.t with
  | .t n => .cells ⟨c.l⟩ n (0, 0)
  | .o x => x
  | .f n fr => .cells ⟨c.l⟩ n fr
def Tag.row : Tag → Bool
  | .o _ => false
  | _ => true
/-- What the run has laid itself since w0 holds the chunks L, apart from each other; all that was there stands. -/
structure Hp (w0 : World) (w : World) (L : List Chunk) : Prop where
  ext : Ext [] w0 w
  blk : ∀ c ∈ L, w0.heap.size ≤ c.b ∧ w.heap[c.b]? = some c.obj
  nd : (L.map Chunk.b).Nodup
section
variable {w w' : World} {w0 : World} {L L' F : List Chunk} {b o i : Nat} {t : TypeId} {l : List Value} {K : VK} {R : ER}
theorem heap_lt {b : Nat} {o : Obj} (h : w.heap[b]? = some o) : b < w.heap.size := (Array.getElem?_eq_some_iff.1 h).1
theorem heap_ext {b : Nat} {o : Obj} {S : List Nat} (h : w.heap[b]? = some o) (he : Ext S w w') (hn : b ∉ S) : w'.heap[b]? = some o := by
  rw [he.block b (heap_lt h) hn]; exact h
theorem Hp.refl (w : World) : Hp w w [] := ⟨Ext.refl _ _, by simp, by simp⟩
theorem count_le_of_sum {α : Type} {L L' : List α} (h : ∀ f : α → Nat, (L'.map f).sum ≤ (L.map f).sum) (p : α → Bool) : L'.countP p ≤ L.countP p := by
  have key : ∀ M : List α, (M.map fun c => if p c then 1 else 0).sum = M.countP p := by
    intro M
    induction M with
    | nil => rfl
    | cons a M ih => simp only [List.map_cons, List.sum_cons, ih, List.countP_cons]; omega
  rw [← key, ← key]; exact h _
theorem mem_of_sum {α : Type} {L L' : List α} (h : ∀ f : α → Nat, (L'.map f).sum ≤ (L.map f).sum) {c : α} (hc : c ∈ L') : c ∈ L := by
  classical
  have := count_le_of_sum h fun x => decide (x = c)
  have h1 : 0 < L'.countP fun x => decide (x = c) := List.countP_pos_iff.2 ⟨c, hc, by simp⟩
  obtain ⟨x, hx, he⟩ := List.countP_pos_iff.1 (Nat.lt_of_lt_of_le h1 this)
  simp at he; subst he; exact hx
theorem nodup_of_sum {L L' : List Chunk} (h : ∀ f : Chunk → Nat, (L'.map f).sum ≤ (L.map f).sum) (hn : (L.map Chunk.b).Nodup) : (L'.map Chunk.b).Nodup := by
  rw [List.nodup_iff_count] at *
  intro a
  have := count_le_of_sum h fun c => c.b == a
  have key : ∀ M : List Chunk, List.count a (M.map Chunk.b) = M.countP fun c => c.b == a := by
    intro M; rw [List.count, List.countP_map]; rfl
  rw [key] at *
  exact Nat.le_trans this (by have := hn a; rw [key] at this; exact this)
/-- The chunks in another order, or fewer of them. -/
theorem Hp.to (H : Hp w0 w L) (h : ∀ f : Chunk → Nat, (L'.map f).sum ≤ (L.map f).sum) : Hp w0 w L' :=
  ⟨H.ext, fun c hc => H.blk c (mem_of_sum h hc), nodup_of_sum h H.nd⟩
theorem Hp.drew (H : Hp w0 w L) : Hp w0 w.drew L := ⟨H.ext.trans (Ext.drew _ _), H.blk, H.nd⟩
theorem Hp.tail {c : Chunk} (H : Hp w0 w (c :: L)) : Hp w0 w L := ⟨H.ext, fun x hx => H.blk x (List.mem_cons_of_mem _ hx), (List.nodup_cons.1 (by simpa using H.nd)).2⟩
theorem Hp.right {A : List Chunk} (H : Hp w0 w (A ++ L)) : Hp w0 w L := H.to fun f => by simp only [List.map_append, List.sum_append]; omega
theorem Hp.same (H : Hp w0 w L) (he : Ext [] w w') : Hp w0 w' L := ⟨H.ext.trans he, fun c hc => ⟨(H.blk c hc).1, heap_ext (H.blk c hc).2 he (by simp)⟩, H.nd⟩
/-- A new block. -/
theorem Hp.newOf {t : Tag} {l : List Value} (H : Hp w0 w L) (hb : w'.heap[w.heap.size]? = some (Chunk.obj ⟨w.heap.size, t, l⟩)) (he : Ext [] w w') : Hp w0 w' (⟨w.heap.size, t, l⟩ :: L) := by
  refine ⟨H.ext.trans he, fun c hc => ?_, ?_⟩
  · rcases List.mem_cons.1 hc with rfl | hc
    · exact ⟨H.ext.size, hb⟩
    · exact ⟨(H.blk c hc).1, heap_ext (H.blk c hc).2 he (by simp)⟩
  · rw [List.map_cons, List.nodup_cons]
    refine ⟨fun hm => ?_, H.nd⟩
    obtain ⟨c, hc, he⟩ := List.mem_map.1 hm
    have := heap_lt (H.blk c hc).2
    have he2 : c.b = w.heap.size := he
    omega
theorem Hp.new (H : Hp w0 w L) (t : TypeId) (l : Array Value) : Hp w0 (w.alloc (.cells l t)) (⟨w.heap.size, t, l.toList⟩ :: L) := H.newOf (Blk.new w t l) (Ext.alloc [] w _)
theorem Hp.newExt {t : TypeId} {l : List Value} (H : Hp w0 w L) (hb : Blk w' w.heap.size t l) (he : Ext [] w w') : Hp w0 w' (⟨w.heap.size, t, l⟩ :: L) := H.newOf hb he
/-- A block changes. -/
theorem Hp.updO {c : Chunk} {l' : List Value} {t' : Tag} (H : Hp w0 w (c :: L)) (hb : w'.heap[c.b]? = some (Chunk.obj ⟨c.b, t', l'⟩)) (he : Ext [c.b] w w') : Hp w0 w' (⟨c.b, t', l'⟩ :: L) := by
  have hnd : c.b ∉ L.map Chunk.b := (List.nodup_cons.1 (by simpa using H.nd)).1
  have hc := H.blk c (List.mem_cons_self ..)
  refine ⟨H.ext.then he (fun k hk _ => by cases hk) (fun k hk hlt => ?_), fun x hx => ?_, H.nd⟩
  · simp at hk; subst hk; have := hc.1; omega
  · rcases List.mem_cons.1 hx with rfl | hx
    · exact ⟨hc.1, hb⟩
    · refine ⟨(H.blk x (List.mem_cons_of_mem _ hx)).1, heap_ext (H.blk x (List.mem_cons_of_mem _ hx)).2 he ?_⟩
      simp only [List.mem_singleton]
      intro hh
      exact hnd (hh ▸ List.mem_map_of_mem (f := Chunk.b) hx)
theorem Hp.upd {c : Chunk} {l' : List Value} {t' : TypeId} (H : Hp w0 w (c :: L)) (hb : Blk w' c.b t' l') (he : Ext [c.b] w w') : Hp w0 w' (⟨c.b, t', l'⟩ :: L) := H.updO hb he
theorem sum_set {α : Type} (f : α → Nat) {L : List α} {i : Nat} {c x : α} (h : L[i]? = some c) : ((L.set i x).map f).sum + f c = (L.map f).sum + f x := by
  induction L generalizing i with
  | nil => simp at h
  | cons a L ih =>
    cases i with
    | zero => simp at h; subst h; simp; omega
    | succ i =>
      simp only [List.getElem?_cons_succ] at h
      have := ih h
      simp only [List.set_cons_succ, List.map_cons, List.sum_cons]; omega
theorem sum_erase {α : Type} (f : α → Nat) {L : List α} {i : Nat} {c : α} (h : L[i]? = some c) : ((L.eraseIdx i).map f).sum + f c = (L.map f).sum := by
  induction L generalizing i with
  | nil => simp at h
  | cons a L ih =>
    cases i with
    | zero => simp at h; subst h; simp; omega
    | succ i =>
      simp only [List.getElem?_cons_succ] at h
      have := ih h
      simp only [List.eraseIdx_cons_succ, List.map_cons, List.sum_cons]; omega
theorem Hp.pull {c : Chunk} (H : Hp w0 w L) (hi : L[i]? = some c) : Hp w0 w (c :: L.eraseIdx i) :=
  H.to fun f => by have := sum_erase f hi; simp only [List.map_cons, List.sum_cons]; omega
theorem Hp.updi {b : Nat} {t t' : Tag} {l l' : List Value} (H : Hp w0 w L) (hi : L[i]? = some ⟨b, t, l⟩) (hb : w'.heap[b]? = some (Chunk.obj ⟨b, t', l'⟩)) (he : Ext [b] w w') : Hp w0 w' (L.set i ⟨b, t', l'⟩) :=
  ((H.pull hi).updO hb he).to fun f => by
    have h1 := sum_erase f hi
    have h2 := sum_set f (x := (⟨b, t', l'⟩ : Chunk)) hi
    simp only [List.map_cons, List.sum_cons]; omega
theorem Hp.at (H : Hp w0 w L) (hi : L[i]? = some ⟨b, t, l⟩) : Blk w b t l := (H.blk ⟨b, t, l⟩ (List.mem_of_getElem? hi)).2
theorem Hp.cell (H : Hp w0 w L) (i : Nat) (hi : L[i]? = some ⟨b, t, l⟩) {v : Value} (hv : l[o]? = some v) : w.cell? ⟨b, o, none⟩ = some v := by rw [(H.at hi).cell, hv]
theorem ld_h {v : Value} (H : Hp w0 w L) (i : Nat) (hi : L[i]? = some ⟨b, t, l⟩) (hv : l[o]? = some v) (k : K v w) : ld1 (.pointer (some ⟨b, o, none⟩)) K w := ld1_blk (H.at hi) hv k
theorem ldS_h {v : Value} {ws : List World} (H : Hp w0 w L) (i : Nat) (hi : L[i]? = some ⟨b, t, l⟩) (hv : l[o]? = some v) (hs : ∀ x ∈ ws, x.cell? ⟨b, o, none⟩ = some v) (k : K v w) : ld1S ws (.pointer (some ⟨b, o, none⟩)) K w := by
  simp only [ld1S, H.cell i hi hv]
  have key : ∀ (ws : List World) (G : Prop), (∀ x ∈ ws, x.cell? ⟨b, o, none⟩ = some v) → G → stab ws ⟨b, o, none⟩ v G := by
    intro ws
    induction ws with
    | nil => intro G _ g; exact g
    | cons x ws ih => intro G h g; exact ⟨h x (List.mem_cons_self ..), ih G (fun y hy => h y (List.mem_cons_of_mem _ hy)) g⟩
  exact key ws _ hs k
theorem ldN_h {n : Nat} (H : Hp w0 w L) (i : Nat) (hi : L[i]? = some ⟨b, t, l⟩) (hle : o + n ≤ l.length) (k : K (.agg ((l.drop o).take n).toArray) w) : ldN n (.pointer (some ⟨b, o, none⟩)) K w := ldN_blk (H.at hi) hle k
theorem Hp.cells (H : Hp w0 w L) (i : Nat) {n : Nat} (hi : L[i]? = some ⟨b, t, l⟩) (hn : l.length = n) : cellsAt w ⟨b, 0, none⟩ 0 n = some l := by
  have := (H.at hi).cellsAt n 0 0 (by omega)
  rw [this, ← hn]; simp
theorem Hp.part (H : Hp w0 w L) (i : Nat) (o n : Nat) (hi : L[i]? = some ⟨b, t, l⟩) (hn : o + n ≤ l.length) : cellsAt w ⟨b, o, none⟩ 0 n = some ((l.drop o).take n) := (H.at hi).cellsAt n o 0 (by omega)
theorem ldA_h {n : Nat} (H : Hp w0 w L) (i : Nat) (hi : L[i]? = some ⟨b, t, l⟩) (hn : l.length = n) (k : K (.agg ⟨l⟩) w) : ldN n (.pointer (some ⟨b, 0, none⟩)) K w := by
  simp only [ldN, H.cells i hi hn]; exact k
theorem stA_h {n : Nat} {cs : List Value} (H : Hp w0 w L) (i : Nat) (hi : L[i]? = some ⟨b, t, l⟩) (hn : cs.length = n) (hl : l.length = n) (hs : ∀ c ∈ cs, scalar c = true)
    (k : ∀ w', Hp w0 w' (L.set i ⟨b, t, cs⟩) → K undef w') : stN n (.pointer (some ⟨b, 0, none⟩)) (.agg ⟨cs⟩) K w :=
  stN_blk (H.at hi) hn (by omega) hs fun w' hb he => k w' (by
    have e : lay l 0 cs = cs := by unfold lay; rw [List.take_zero, Nat.zero_add, List.drop_of_length_le (by omega)]; simp
    have hb' : Blk w' b t cs := by have := hb; rw [show (Array.mk cs).toList = cs from rfl, e] at this; exact this
    exact H.updi (t := .t t) (t' := .t t) hi hb' he)
theorem st_h {v : Value} (H : Hp w0 w L) (i : Nat) (hi : L[i]? = some ⟨b, t, l⟩) (ho : o < l.length) (hv : scalar v = true) (k : ∀ w', Hp w0 w' (L.set i ⟨b, t, l.set o v⟩) → K undef w') :
    st1 (.pointer (some ⟨b, o, none⟩)) v K w := st1_blk (H.at hi) ho hv fun w' hb he => k w' (H.updi (t := .t t) (t' := .t t) hi hb he)
theorem stN_h {n : Nat} {cs : Array Value} (H : Hp w0 w L) (i : Nat) (hi : L[i]? = some ⟨b, t, l⟩) (hn : cs.size = n) (hle : o + n ≤ l.length) (hs : ∀ c ∈ cs.toList, scalar c = true)
    (k : ∀ w', Hp w0 w' (L.set i ⟨b, t, lay l o cs.toList⟩) → K undef w') : stN n (.pointer (some ⟨b, o, none⟩)) (.agg cs) K w :=
  stN_blk (H.at hi) hn hle hs fun w' hb he => k w' (H.updi (t := .t t) (t' := .t t) hi hb he)
theorem bx_h {v : Value} (H : Hp w0 w L) (k : ∀ w' b, Hp w0 w' (⟨b, t, v.cells.toList⟩ :: L) → K (.pointer (some ⟨b, 0, none⟩)) w') : bx t v K w :=
  k _ _ (H.new t v.cells)
theorem al_h {z : List Value} (H : Hp w0 w L) (hz : ((Pg.info? t).bind (·.zero)).map (fun z => z.cells.toList) = some z) (k : ∀ w' b, Hp w0 w' (⟨b, t, z⟩ :: L) → K (.pointer (some ⟨b, 0, none⟩)) w') : al Pg t K w := by
  unfold al
  cases h : (Pg.info? t).bind (·.zero) with
  | none => simp [h] at hz
  | some zv =>
    simp only [h, Option.map_some, Option.some.injEq] at hz
    subst hz
    exact k _ _ (H.new t zv.cells)
theorem cal_h {f : FuncId} {args : Array Value} {Q : ER} (h : Calls Pg f args w Q) (k : ∀ e w', Q e w' → retK R K e w') : cal Pg R f args K w := h.mono k
theorem row_cells {t : TypeId} {fr : Nat × Nat} {b : Nat} {l : List Value} (h : w.heap[b]? = some (.cells ⟨l⟩ t fr)) : ∀ (n o i : Nat), o + i + n ≤ l.length → cellsAt w ⟨b, o, none⟩ i n = some ((l.drop (o + i)).take n)
  | 0, o, i, _ => by simp [Den.cellsAt]
  | n + 1, o, i, hle => by
    have hlt : o + i < l.length := by omega
    have ih := row_cells h n o (i + 1) (by omega)
    have hc : w.cell? ⟨b, o + i, none⟩ = some l[o + i] := by simp [World.cell?, h, hlt]
    simp only [Den.cellsAt, add_mk, hc, ih]
    rw [List.drop_eq_getElem_cons hlt, List.take_succ_cons]; rfl
/-- A slice that can be read: what came in, or chunks. -/
def RdL (w0 : World) (L : List Chunk) (sz : Nat) (s : Value) (m : Nat) (ys : List Value) : Prop :=
  Rd w0 sz s m ys ∨ ∃ b o c, ∃ (el : Tag) (l : List Value), s = .slice (some ⟨b, o, none⟩) m c ∧ m ≤ c ∧ ((⟨b, el, l⟩ : Chunk) ∈ L ∧ el.row = true) ∧ o + m * sz ≤ l.length ∧ ys = (l.drop o).take (m * sz)
theorem RdL.rd {sz m : Nat} {s : Value} {ys : List Value} (h : RdL w0 L sz s m ys) (H : Hp w0 w L) : Rd w sz s m ys := by
  rcases h with h | ⟨b, o, c, el, l, rfl, hmc, hm, hle, rfl⟩
  · exact h.below H.ext
  · obtain ⟨hm, hr⟩ := hm
    have hb := (H.blk _ hm).2
    cases el with
    | o x => cases hr
    | t n => exact .inr ⟨_, c, rfl, hmc, row_cells (fr := (0, 0)) hb _ _ _ hle⟩
    | f n fr => exact .inr ⟨_, c, rfl, hmc, row_cells hb _ _ _ hle⟩
theorem RdL.mono {sz m : Nat} {s : Value} {ys : List Value} (h : RdL w0 L sz s m ys) (hs : ∀ c ∈ L, c ∈ L') : RdL w0 L' sz s m ys := by
  rcases h with h | ⟨b, o, c, el, l, rfl, hmc, hm, hle, rfl⟩
  · exact .inl h
  · exact .inr ⟨b, o, c, el, l, rfl, hmc, ⟨hs _ hm.1, hm.2⟩, hle, rfl⟩
theorem RdL.length {sz m : Nat} {s : Value} {ys : List Value} (h : RdL w0 L sz s m ys) : ys.length = m * sz := by
  rcases h with h | ⟨b, o, c, el, l, rfl, hmc, hm, hle, rfl⟩
  · exact h.length
  · simp; omega
theorem lenS_rdL {sz m : Nat} {s : Value} {ys : List Value} (h : RdL w0 L sz s m ys) : lenS s = some (I m) := by
  rcases h with h | ⟨b, o, c, el, l, rfl, hmc, hm, hle, rfl⟩
  · exact lenS_rd h
  · rfl
end
end Go.Proofs.Ytmmbepdghpjgeaa.Den
end

section
set_option linter.unusedVariables false
set_option linter.unusedSimpArgs false
set_option maxRecDepth 8000
namespace Go.Proofs.Ytmmbepdghpjgeaa.Den
open Go Go.RowKit
structure ElT (T el sz : Nat) (bts : Nat) (z : List Value) : Prop where
  under : Pg.underlying T = some (.slice el)
  info : (Pg.info? el).map (fun i => (i.size, i.bytes, i.zero.map (fun z => z.cells.toList))) = some (sz, bts, some z)
  len : z.length = sz
theorem ElT.parts {T el sz bts : Nat} {z : List Value} (h : ElT T el sz bts z) : ∃ i zv, Pg.info? el = some i ∧ i.size = sz ∧ i.bytes = bts ∧ i.zero = some zv ∧ zv.cells.toList = z := by
  have h1 := h.info
  cases hi : Pg.info? el with
  | none => simp [hi] at h1
  | some i =>
    simp only [hi, Option.map_some, Option.some.injEq, Prod.mk.injEq] at h1
    cases hz : i.zero with
    | none => simp [hz] at h1
    | some zv => simp only [hz, Option.map_some, Option.some.injEq] at h1; exact ⟨i, zv, rfl, h1.1, h1.2.1, hz, h1.2.2⟩
/-- s has n elements (of sz cells each), the cells xs; they begin the chunk cs (none where it has no room). -/
def Sl (el sz : Nat) (s : Value) (n : Nat) (xs : List Value) (cs : List Chunk) : Prop :=
  (cs = [] ∧ (∃ a, s = .slice a 0 0) ∧ n = 0 ∧ xs = []) ∨ ∃ b cap rest, cs = [⟨b, el, xs ++ rest⟩] ∧ s = .slice (some ⟨b, 0, none⟩) n cap ∧ xs.length = n * sz ∧ n ≤ cap ∧ rest.length = (cap - n) * sz
section
variable {w w' : World} {w0 : World} {T el sz bts n m : Nat} {z xs ys : List Value} {s src : Value} {cs F L : List Chunk} {K : VK} {R : ER}
theorem Sl.nil : Sl el sz (.slice none 0 0) 0 [] [] := .inl ⟨rfl, ⟨none, rfl⟩, rfl, rfl⟩
theorem Sl.length (h : Sl el sz s n xs cs) : xs.length = n * sz := by
  rcases h with ⟨_, _, rfl, rfl⟩ | ⟨b, cap, rest, rfl, rfl, h1, h2, h3⟩
  · simp
  · exact h1
theorem Sl.rdL (h : Sl el sz s n xs cs) (hL : ∀ c ∈ cs, c ∈ L) : RdL w0 L sz s n xs := by
  rcases h with ⟨_, ⟨a, rfl⟩, rfl, rfl⟩ | ⟨b, cap, rest, rfl, rfl, h1, h2, h3⟩
  · cases a with
    | none => exact .inl (.inl ⟨0, rfl, by simp, rfl⟩)
    | some a => exact .inl (.inr ⟨a, 0, rfl, Nat.le_refl _, by rw [Nat.zero_mul]; rfl⟩)
  · exact .inr ⟨b, 0, cap, el, xs ++ rest, rfl, h2, ⟨hL _ (by simp), rfl⟩, by simp; omega, by simp [← h1]⟩
theorem lenS_sl (h : Sl el sz s n xs cs) : lenS s = some (I n) := by
  rcases h with ⟨_, ⟨a, rfl⟩, rfl, rfl⟩ | ⟨b, cap, rest, rfl, rfl, h1, h2, h3⟩ <;> rfl
theorem grow_le (need : Nat) : ∀ (r c : Nat), c ≤ 2 * need + 1000 → Builtin.growBy need r c ≤ 2 * need + 1000
  | 0, c, h => h
  | r + 1, c, h => by
    unfold Builtin.growBy; split
    · exact h
    · exact grow_le need r _ (by omega)
theorem next_le {need cap : Nat} (h : cap < need) : Builtin.nextslicecap need cap ≤ 2 * need + 1000 := by
  unfold Builtin.nextslicecap; split
  · omega
  · split
    · omega
    · exact grow_le need 4 cap (by omega)
theorem run_typeInfo {P : Program} {t : Nat} {i : TypeInfo} (h : P.info? t = some i) : (typeInfo t).run P w = .ok i w := by
  simp [typeInfo, program, Sem.run, h, Sem.run_bind, Result.andThen]
theorem run_storeCells_blk {P : Program} {b : Nat} {el : Nat} : ∀ (cs : List Value) (o i : Nat) (w : World) (l : List Value), Blk w b el l → o + i + cs.length ≤ l.length → (∀ c ∈ cs, scalar c = true) →
    ∃ w', (storeCells ⟨b, o, none⟩ cs i).run P w = .ok () w' ∧ Blk w' b el (lay l (o + i) cs) ∧ Ext [b] w w' := by
  intro cs o i w l hb hle hs
  have : stCells ⟨b, o, none⟩ cs i (fun w' => Blk w' b el (lay l (o + i) cs) ∧ Ext [b] w w') w := stCells_blk cs o i w l hb hle hs fun w' h1 h2 => ⟨h1, h2⟩
  obtain ⟨w', h1, h2⟩ := run_stCells (P := P) cs i w this
  exact ⟨w', h1, h2⟩
theorem zeroCells_size (z : Array Value) (k : Nat) : (Builtin.zeroCells z k).size = k * z.size := by simp [Builtin.zeroCells]
theorem cellsAt_zero {w : World} {a : Addr} {i : Nat} : cellsAt w a i 0 = some [] := rfl
/-- append onto a slice of the run's own; a chunk stays one. -/
theorem append_h' (hT : ElT T el sz bts z) (H : Hp w0 w (cs ++ F)) (hs : Sl el sz s n xs cs) (hsrc : RdL w0 (cs ++ F) sz src m ys) (hsc : ∀ c ∈ ys, scalar c = true)
    (hsize : (2 * (n + m) + 1000) * bts ≤ 2 ^ 48) (hnm : n + m < 2 ^ 62) {ty : Nat} {cc : Array Bool}
    (k : ∀ w' s' cs', Hp w0 w' (cs' ++ F) → Sl el sz s' (n + m) (xs ++ ys) cs' → ((cs = [] ∧ m = 0) ∨ ∃ c, cs' = [c]) → K s' w') : blt Pg R .append ⟨[T, T]⟩ ty cc ⟨[s, src]⟩ K w := by
  suffices hh : ∃ s' w' cs', (Builtin.append_ #[T, T] ty #[s, src]).run Pg w = .ok s' w' ∧ Hp w0 w' (cs' ++ F) ∧ Sl el sz s' (n + m) (xs ++ ys) cs' ∧ ((cs = [] ∧ m = 0) ∨ ∃ c, cs' = [c]) by
    obtain ⟨s', w', cs', h1, h2, h3, h4⟩ := hh
    unfold blt semV
    have : (builtin .append ⟨[T, T]⟩ ty cc ⟨[s, src]⟩).run Pg w = .ok (.value s') w' := run_value h1
    rw [this]
    exact k w' s' cs' h2 h3 h4
  have hrd := hsrc.rd H
  obtain ⟨i, zv, hi, hi1, hi2, hi3, hi4⟩ := hT.parts
  have hsz : szO Pg el = some sz := by simp [szO, hi, hi1]
  have hz : (Pg.info? el).bind (·.zero) = some zv := by simp [hi, hi3]
  have hlen := hrd.length
  have hxl := hs.length
  obtain ⟨base, cap, hsv, hncap⟩ : ∃ base cap, s = .slice base n cap ∧ (n ≤ cap) := by
    rcases hs with ⟨_, ⟨a, rfl⟩, rfl, rfl⟩ | ⟨b, cap, rest, rfl, rfl, h1, h2, h3⟩
    · exact ⟨a, 0, rfl, Nat.le_refl _⟩
    · exact ⟨_, cap, rfl, h2⟩
  have hu := fun w => run_underlying' (P := Pg) (w := w) hT.under
  have hss := fun w => run_sizeOf' (P := Pg) (w := w) hsz
  have ht := fun w => run_typeInfo (w := w) (P := Pg) hi
  have hzv := fun w => run_zeroValue' (P := Pg) (w := w) hz
  have hfs := run_firstCells (P := Pg) hrd
  have hlo := run_lenOf (P := Pg) hrd
  by_cases hc : n + m ≤ cap
  · have hopen : (Builtin.append_ #[T, T] ty #[s, src]).run Pg w = (do
        if let some a := base then storeCells (a.add (n * sz)) ys
        pure (.slice base (n + m) cap) : Sem Value).run Pg w := by
      unfold Builtin.append_
      subst hsv
      simp [Sem.run_bind, hu, Result.andThen, hss, hlo, hc, hfs]
      cases base <;> rfl
    rw [hopen]
    rcases hs with ⟨rfl, ⟨a, h1⟩, rfl, rfl⟩ | ⟨b, cap', rest, rfl, h1, h3, h4, h5⟩
    · rw [hsv] at h1
      injection h1 with h1 h2 h3
      subst h1; subst h3
      obtain rfl : m = 0 := by omega
      have hy : ys = [] := by simpa using hlen
      subst hy
      refine ⟨.slice base 0 0, w, [], ?_, H, .inl ⟨rfl, ⟨base, rfl⟩, rfl, rfl⟩, .inl ⟨rfl, rfl⟩⟩
      cases base <;> rfl
    · rw [hsv] at h1
      injection h1 with h1 h6 h7
      subst h1; subst h7
      have h2 := (H.blk ⟨b, el, xs ++ rest⟩ (by simp)).2
      have hle : n * sz + 0 + ys.length ≤ (xs ++ rest).length := by
        rw [List.length_append, h3, h5, hlen, Nat.add_zero, ← Nat.add_mul, ← Nat.add_mul]
        exact Nat.mul_le_mul_right _ (by omega)
      obtain ⟨w', g1, g2, g3⟩ := run_storeCells_blk (P := Pg) ys (n * sz) 0 w (xs ++ rest) h2 hle hsc
      have hlay : lay (xs ++ rest) (n * sz + 0) ys = xs ++ ys ++ rest.drop ys.length := by
        unfold lay
        rw [Nat.add_zero, ← h3, List.take_left, List.drop_append]
        simp
      rw [hlay] at g2
      refine ⟨.slice (some ⟨b, 0, none⟩) (n + m) cap, w', [⟨b, el, xs ++ ys ++ rest.drop ys.length⟩], ?_, ?_, .inr ⟨b, cap, rest.drop ys.length, rfl, rfl, by rw [List.length_append, h3, hlen, Nat.add_mul], hc, ?_⟩, .inr ⟨_, rfl⟩⟩
      · simp only [add_mk, Nat.zero_add]
        rw [Sem.run_bind, g1]; rfl
      · exact Hp.upd (c := ⟨b, el, xs ++ rest⟩) H g2 g3
      · rw [List.length_drop, h5, hlen, ← Nat.sub_mul]; congr 1; omega
  · have hb2 : ¬ (2 ^ 48 < Builtin.nextslicecap (n + m) cap * bts) := by
      have := next_le (need := n + m) (cap := cap) (by omega)
      have h2 := Nat.mul_le_mul_right bts this
      omega
    have hbz : ¬ (9223372036854775807 < (n : Int) + (m : Int) ∧ bts = 0) := by omega
    have hold : ∀ w1 : World, w1.heap = w.heap → (Builtin.firstCells sz n (.slice base n cap)).run Pg w1 = .ok xs.toArray w1 := by
      intro w1 h1
      refine run_firstCells ?_
      rw [← hsv]
      have hr : Rd w sz s n xs := (hs.rdL (w0 := w0) (L := cs ++ F) (fun c hc => List.mem_append_left _ hc)).rd H
      rcases hr with h | ⟨a, c, h, hmc, h2⟩
      · exact .inl h
      · exact .inr ⟨a, c, h, hmc, by rw [cellsAt_congr (w := w) (by rw [h1])]; exact h2⟩
    have hnew : ∀ w1 : World, w1.heap = w.heap → (Builtin.firstCells sz m src).run Pg w1 = .ok ys.toArray w1 := by
      intro w1 h1
      refine run_firstCells ?_
      rcases hrd with h | ⟨a, c, h, hmc, h2⟩
      · exact .inl h
      · exact .inr ⟨a, c, h, hmc, by rw [cellsAt_congr (w := w) (by rw [h1])]; exact h2⟩
    obtain ⟨newCap, hcap, hch⟩ : ∃ newCap, n + m ≤ newCap ∧ (choose (.appendCap (n + m) cap el)).run Pg w = .ok newCap w.drew := by
      refine ⟨_, ?_, rfl⟩
      simp only [Question.cut]; omega
    have hask : ∀ k w1, (askRoom k).run Pg w1 = .ok () w1 := by
      intro k w1; unfold askRoom; split <;> rfl
    have hzs : zv.cells.size = sz := by have := hT.len; rw [← hi4] at this; simpa using this
    have hHn := (H.to (L' := F) (fun f => by simp only [List.map_append, List.sum_append]; omega)).drew.new el (xs.toArray ++ ys.toArray ++ Builtin.zeroCells zv.cells (newCap - (n + m)))
    refine ⟨.slice (some ⟨w.heap.size, 0, none⟩) (n + m) newCap, w.drew.alloc (.cells (xs.toArray ++ ys.toArray ++ Builtin.zeroCells zv.cells (newCap - (n + m))) el), [⟨w.heap.size, el, (xs ++ ys) ++ (Builtin.zeroCells zv.cells (newCap - (n + m))).toList⟩], ?_, by simpa using hHn, ?_, .inr ⟨_, rfl⟩⟩
    · unfold Builtin.append_
      subst hsv
      simp [Sem.run_bind, hu, Result.andThen, hss, hlo, hc, ht, hi2, hbz, hb2, hch, hask, hold w.drew rfl, hnew w.drew rfl, hzv, newRow, newObj, Sem.run, World.alloc]
      congr 2; apply Array.ext'; simp
    · exact .inr ⟨_, newCap, _, rfl, rfl, by rw [List.length_append, hxl, hlen, Nat.add_mul], hcap, by rw [Array.length_toList, zeroCells_size, hzs]⟩
theorem append_h (hT : ElT T el sz bts z) (H : Hp w0 w (cs ++ F)) (hs : Sl el sz s n xs cs) (hsrc : RdL w0 (cs ++ F) sz src m ys) (hsc : ∀ c ∈ ys, scalar c = true)
    (hsize : (2 * (n + m) + 1000) * bts ≤ 2 ^ 48) (hnm : n + m < 2 ^ 62) {ty : Nat} {cc : Array Bool}
    (k : ∀ w' s' cs', Hp w0 w' (cs' ++ F) → Sl el sz s' (n + m) (xs ++ ys) cs' → K s' w') : blt Pg R .append ⟨[T, T]⟩ ty cc ⟨[s, src]⟩ K w :=
  append_h' hT H hs hsrc hsc hsize hnm fun w' s' cs' h1 h2 _ => k w' s' cs' h1 h2
/-- A slice written out. -/
theorem build_k {parts : List (Nat × Value)} {len : Nat} {r : List Value} (hT : ElT T el sz bts z) (hle : len * sz ≤ 2 ^ 24) (h0 : len * sz ≠ 0)
    (hr : buildL ((List.range (len * sz)).map fun x => z[x % sz]!) (parts.map fun p => (p.1 * sz, sz, p.2)) = some r)
    (k : ∀ w', Blk w' w.heap.size el r → Ext [] w w' → w'.heap.size = w.heap.size + 1 → K (.slice (some ⟨w.heap.size, 0, none⟩) len len) w') :
    valV Pg R (Instr.buildSlice T len ⟨parts⟩) K w := by
  obtain ⟨i, zv, hi, hi1, hi2, hi3, hi4⟩ := hT.parts
  have hsz : szO Pg el = some sz := by simp [szO, hi, hi1]
  have hz : (Pg.info? el).bind (·.zero) = some zv := by simp [hi, hi3]
  have hu := fun w => run_underlying' (P := Pg) (w := w) hT.under
  have hss := fun w => run_sizeOf' (P := Pg) (w := w) hsz
  have hzv := fun w => run_zeroValue' (P := Pg) (w := w) hz
  have hzs : zv.cells.size = sz := by have := hT.len; rw [← hi4] at this; simpa using this
  have hrun : (Instr.buildSlice T len ⟨parts⟩).run Pg w = .ok (.slice (some ⟨w.heap.size, 0, none⟩) len len) (w.alloc (.cells ⟨r⟩ el)) := by
    unfold Instr.buildSlice
    rw [Sem.run_bind, hu]
    simp only [Result.andThen, Sem.run_bind, hss]
    rw [if_neg (by omega)]
    simp only [h0, if_false, Sem.run_bind, hzv, Sem.run_pure, Result.andThen]
    have := fill_eq (fun i => some (i * sz, sz)) parts ((Array.range (len * sz)).map (fun x => zv.cells[x % zv.cells.size]!)) (parts.map fun p => (p.1 * sz, sz, p.2)) r (by simp) (by
      rw [← hr]; congr 1
      rw [hzs, ← hi4]
      simp only [Array.toList_map, Array.toList_range]
      apply List.map_congr_left
      intro a _
      rw [getElem!_def, getElem!_def, Array.getElem?_toList])
    rw [this]
    simp only [newRow, Sem.run_bind, newObj, Sem.run, Result.andThen]
    rfl
  unfold valV
  rw [hrun]
  exact k _ (Blk.new w el ⟨r⟩) (Ext.alloc _ _ _) (by simp)
/-- A slice of one element, written out. -/
theorem build1_k {v : Value} (hT : ElT T el sz bts z) (hv : v.cells.size = sz) (hsz1 : sz ≤ 2 ^ 24)
    (k : ∀ w', Blk w' w.heap.size el v.cells.toList → Ext [] w w' → w'.heap.size = w.heap.size + 1 → K (.slice (some ⟨w.heap.size, 0, none⟩) 1 1) w') :
    valV Pg R (Instr.buildSlice T 1 ⟨[(0, v)]⟩) K w := by
  obtain ⟨i, zv, hi, hi1, hi2, hi3, hi4⟩ := hT.parts
  have hsz : szO Pg el = some sz := by simp [szO, hi, hi1]
  have hz : (Pg.info? el).bind (·.zero) = some zv := by simp [hi, hi3]
  have hu := fun w => run_underlying' (P := Pg) (w := w) hT.under
  have hss := fun w => run_sizeOf' (P := Pg) (w := w) hsz
  have hzv := fun w => run_zeroValue' (P := Pg) (w := w) hz
  have hzs : zv.cells.size = sz := by have := hT.len; rw [← hi4] at this; simpa using this
  have hrun : (Instr.buildSlice T 1 ⟨[(0, v)]⟩).run Pg w = .ok (.slice (some ⟨w.heap.size, 0, none⟩) 1 1) (w.alloc (.cells v.cells el)) := by
    have hfill : ∀ zc : Array Value, zc.size = sz → Instr.fill (fun i => some (i * sz, sz)) zc [(0, v)] = some v.cells := by
      intro zc hzc
      have := fill_eq (fun i => some (i * sz, sz)) [(0, v)] zc [(0, sz, v)] v.cells.toList (by simp) (by
        simp only [buildL]
        rw [if_neg (by simp [hv, hzc])]
        congr 1
        have : zc.toList.length = sz := by simpa using hzc
        simp [← this])
      simpa using this
    have hd : ∀ (zc : Array Value), ((Array.range (1 * sz)).map (fun x => zc[x % zc.size]!)).size = sz := by intro zc; simp
    unfold Instr.buildSlice
    rw [Sem.run_bind, hu]
    simp only [Result.andThen, Sem.run_bind, hss]
    rw [if_neg (by omega)]
    by_cases h0 : 1 * sz = 0
    · simp only [h0, if_true, Sem.run_bind, Sem.run_pure, Result.andThen]
      rw [hfill _ (by simp; omega)]
      simp only [newRow, Sem.run_bind, newObj, Sem.run, Result.andThen]
      rfl
    · simp only [h0, if_false, Sem.run_bind, hzv, Sem.run_pure, Result.andThen]
      rw [hfill _ (hd _)]
      simp only [newRow, Sem.run_bind, newObj, Sem.run, Result.andThen]
      rfl
  unfold valV
  rw [hrun]
  exact k _ (Blk.new w el v.cells) (Ext.alloc _ _ _) (by simp)
end
end Go.Proofs.Ytmmbepdghpjgeaa.Den
end

section
set_option linter.unusedVariables false
set_option linter.unusedSimpArgs false
set_option maxRecDepth 8000
namespace Go.Proofs.Ytmmbepdghpjgeaa.Den
open Go Go.RowKit
section
variable {w w' : World} {w0 : World} {T el sz bts n m : Nat} {z xs ys : List Value} {s src : Value} {cs F L : List Chunk} {K : VK} {R : ER}
theorem bxa_h {t : TypeId} {l : List Value} (H : Hp w0 w L) (k : ∀ w' b, Hp w0 w' (⟨b, t, l⟩ :: L) → K (.pointer (some ⟨b, 0, none⟩)) w') : bx t (.agg ⟨l⟩) K w := bx_h H k
theorem bxs_h {t : TypeId} {v : Value} (H : Hp w0 w L) (hv : v.cells = #[v]) (k : ∀ w' b, Hp w0 w' (⟨b, t, [v]⟩ :: L) → K (.pointer (some ⟨b, 0, none⟩)) w') : bx t v K w :=
  bx_h H fun w' b H' => k w' b (by rw [hv] at H'; exact H')
theorem rd1_t {G : WP} {b o : Nat} {v : Value} (h : w.cell? ⟨b, o, none⟩ = some v) : rd1 (.pointer (some ⟨b, o, none⟩)) v G w = G w := by
  unfold rd1; simp only [h, true_and]
theorem rdN_t {G : WP} {b o n : Nat} {l : List Value} (h : cellsAt w ⟨b, o, none⟩ 0 n = some l) : rdN n (.pointer (some ⟨b, o, none⟩)) (.agg ⟨l⟩) G w = G w := by
  unfold rdN; simp only [h, true_and]
theorem rdN_a {G : WP} {a : Addr} {n : Nat} {l : List Value} (h : cellsAt w a 0 n = some l) : rdN n (.pointer (some a)) (.agg ⟨l⟩) G w = G w := by
  unfold rdN; simp only [h, true_and]
theorem ldN_a {a : Addr} {n : Nat} {l : List Value} (h : cellsAt w a 0 n = some l) (k : K (.agg ⟨l⟩) w) : ldN n (.pointer (some a)) K w := by
  simp only [ldN, h]; exact k
theorem rdN_t' {G : WP} {b o n : Nat} {l : List Value} (h : cellsAt w ⟨b, o, none⟩ 0 n = some l) : rdN n (.pointer (some ⟨b, o, none⟩)) (.agg l.toArray) G w = G w := rdN_t h
theorem allW2 {a b : WP} (h1 : a w) (h2 : b w) : allW [a, b] w := ⟨h1, h2⟩
theorem allW3 {a b c : WP} (h1 : a w) (h2 : b w) (h3 : c w) : allW [a, b, c] w := ⟨h1, h2, h3⟩
theorem Hp.rot1 {n a : Chunk} {T : List Chunk} (H : Hp w0 w (n :: a :: T)) : Hp w0 w (a :: n :: T) := H.to (by intro f; simp only [tag_lit, I, U8, U64, ptr, List.set_cons_zero, List.set_cons_succ, List.eraseIdx_cons_zero, List.eraseIdx_cons_succ, List.map_append, List.map_cons, List.map_nil, List.sum_append, List.sum_cons, List.sum_nil]; omega)
theorem Hp.rot2 {n a b : Chunk} {T : List Chunk} (H : Hp w0 w (n :: a :: b :: T)) : Hp w0 w (a :: b :: n :: T) := H.to (by intro f; simp only [tag_lit, I, U8, U64, ptr, List.set_cons_zero, List.set_cons_succ, List.eraseIdx_cons_zero, List.eraseIdx_cons_succ, List.map_append, List.map_cons, List.map_nil, List.sum_append, List.sum_cons, List.sum_nil]; omega)
theorem Hp.rot3 {n a b c : Chunk} {T : List Chunk} (H : Hp w0 w (n :: a :: b :: c :: T)) : Hp w0 w (a :: b :: c :: n :: T) := H.to (by intro f; simp only [tag_lit, I, U8, U64, ptr, List.set_cons_zero, List.set_cons_succ, List.eraseIdx_cons_zero, List.eraseIdx_cons_succ, List.map_append, List.map_cons, List.map_nil, List.sum_append, List.sum_cons, List.sum_nil]; omega)
theorem Hp.rot4 {n a b c d : Chunk} {T : List Chunk} (H : Hp w0 w (n :: a :: b :: c :: d :: T)) : Hp w0 w (a :: b :: c :: d :: n :: T) := H.to (by intro f; simp only [tag_lit, I, U8, U64, ptr, List.set_cons_zero, List.set_cons_succ, List.eraseIdx_cons_zero, List.eraseIdx_cons_succ, List.map_append, List.map_cons, List.map_nil, List.sum_append, List.sum_cons, List.sum_nil]; omega)
/-- A slice of elements written out. -/
theorem lit_h {parts : List (Nat × Value)} {len : Nat} {r : List Value} (hT : ElT T el sz bts z) (H : Hp w0 w L) (hle : len * sz ≤ 2 ^ 24) (h0 : len * sz ≠ 0)
    (hr : buildL ((List.range (len * sz)).map fun x => z[x % sz]!) (parts.map fun p => (p.1 * sz, sz, p.2)) = some r)
    (k : ∀ w' b, Hp w0 w' (⟨b, el, r⟩ :: L) → K (.slice (some ⟨b, 0, none⟩) len len) w') : valV Pg R (Instr.buildSlice T len ⟨parts⟩) K w :=
  build_k hT hle h0 hr fun w' hb he _ => k w' _ (H.newExt hb he)
theorem lit1_h {v : Value} (hT : ElT T el sz bts z) (H : Hp w0 w L) (hv : v.cells.size = sz) (hsz1 : sz ≤ 2 ^ 24)
    (k : ∀ w' b, Hp w0 w' (⟨b, el, v.cells.toList⟩ :: L) → K (.slice (some ⟨b, 0, none⟩) 1 1) w') : valV Pg R (Instr.buildSlice T 1 ⟨[(0, v)]⟩) K w :=
  build1_k hT hv hsz1 fun w' hb he _ => k w' _ (H.newExt hb he)
theorem lit1s_h {v : Value} (hT : ElT T el 1 bts z) (H : Hp w0 w L) (hv : v.cells = #[v])
    (k : ∀ w' b, Hp w0 w' (⟨b, el, [v]⟩ :: L) → K (.slice (some ⟨b, 0, none⟩) 1 1) w') : valV Pg R (Instr.buildSlice T 1 ⟨[(0, v)]⟩) K w :=
  lit1_h hT H (by rw [hv]; rfl) (by omega) fun w' b H' => k w' b (by rw [hv] at H'; exact H')
theorem Sl.full {b : Nat} (h : xs.length = n * sz) : Sl el sz (.slice (some ⟨b, 0, none⟩) n n) n xs [⟨b, el, xs⟩] := .inr ⟨b, n, [], by simp, rfl, h, Nat.le_refl _, by simp⟩
theorem Sl.chunk (h : Sl el sz s n xs cs) (hn : 0 < n) : ∃ b cap rest, cs = [⟨b, el, xs ++ rest⟩] ∧ s = .slice (some ⟨b, 0, none⟩) n cap ∧ xs.length = n * sz ∧ n ≤ cap ∧ rest.length = (cap - n) * sz := by
  rcases h with ⟨_, _, rfl, _⟩ | h
  · omega
  · exact h
theorem lit0_h (hT : ElT T el sz bts z) (H : Hp w0 w L) (k : ∀ w' s, Hp w0 w' L → Sl el sz s 0 [] [] → K s w') : valV Pg R (Instr.buildSlice T 0 ⟨[]⟩) K w := by
  obtain ⟨i, zv, hi, hi1, hi2, hi3, hi4⟩ := hT.parts
  have hsz : szO Pg el = some sz := by simp [szO, hi, hi1]
  have hu := fun w => run_underlying' (P := Pg) (w := w) hT.under
  have hss := fun w => run_sizeOf' (P := Pg) (w := w) hsz
  have hrun : (Instr.buildSlice T 0 ⟨[]⟩).run Pg w = .ok (.slice (some ⟨w.heap.size, 0, none⟩) 0 0) (w.alloc (.cells ⟨[]⟩ el)) := by
    unfold Instr.buildSlice
    rw [Sem.run_bind, hu]
    simp only [Result.andThen, Sem.run_bind, hss, Nat.zero_mul]
    rw [if_neg (by omega)]
    simp only [if_true, Sem.run_bind, Sem.run_pure, Result.andThen]
    simp [Instr.fill, newRow, Sem.run_bind, newObj, Sem.run, Result.andThen]
    congr 2; apply Array.ext'; simp
  unfold valV
  rw [hrun]
  exact k _ _ (H.same (Ext.alloc _ _ _)) (.inl ⟨rfl, ⟨_, rfl⟩, rfl, rfl⟩)
/-- The same with its (empty) chunk. -/
theorem lit0c_h (hT : ElT T el sz bts z) (H : Hp w0 w L) (k : ∀ w' b, Hp w0 w' (⟨b, el, []⟩ :: L) → Sl el sz (.slice (some ⟨b, 0, none⟩) 0 0) 0 [] [⟨b, el, []⟩] → K (.slice (some ⟨b, 0, none⟩) 0 0) w') : valV Pg R (Instr.buildSlice T 0 ⟨[]⟩) K w := by
  obtain ⟨i, zv, hi, hi1, hi2, hi3, hi4⟩ := hT.parts
  have hsz : szO Pg el = some sz := by simp [szO, hi, hi1]
  have hu := fun w => run_underlying' (P := Pg) (w := w) hT.under
  have hss := fun w => run_sizeOf' (P := Pg) (w := w) hsz
  have hrun : (Instr.buildSlice T 0 ⟨[]⟩).run Pg w = .ok (.slice (some ⟨w.heap.size, 0, none⟩) 0 0) (w.alloc (.cells ⟨[]⟩ el)) := by
    unfold Instr.buildSlice
    rw [Sem.run_bind, hu]
    simp only [Result.andThen, Sem.run_bind, hss, Nat.zero_mul]
    rw [if_neg (by omega)]
    simp only [if_true, Sem.run_bind, Sem.run_pure, Result.andThen]
    simp [Instr.fill, newRow, Sem.run_bind, newObj, Sem.run, Result.andThen]
    congr 2; apply Array.ext'; simp
  unfold valV
  rw [hrun]
  exact k _ _ (H.new el ⟨[]⟩) (.inr ⟨_, 0, [], rfl, rfl, by simp, Nat.le_refl _, by simp⟩)
/-- make([]T, n): n zero values. -/
theorem make_h {N C : Int} (hT : ElT T el sz bts z) (H : Hp w0 w L) {n c : Nat} (hN : N = (n : Int)) (hC : C = (c : Int)) (hn : n ≤ c) (hsz : c * bts ≤ 2 ^ 48) (hc : c < 2 ^ 62)
    (k : ∀ w' b, Hp w0 w' (⟨b, el, (List.replicate c z).flatten⟩ :: L) → K (.slice (some ⟨b, 0, none⟩) n c) w') : valV Pg R (Instr.makeSlice T (I N) (I C)) K w := by
  subst hN hC
  obtain ⟨i, zv, hi, hi1, hi2, hi3, hi4⟩ := hT.parts
  have hszO : szO Pg el = some sz := by simp [szO, hi, hi1]
  have hz : (Pg.info? el).bind (·.zero) = some zv := by simp [hi, hi3]
  have hu := fun w => run_underlying' (P := Pg) (w := w) hT.under
  have hss := fun w => run_sizeOf' (P := Pg) (w := w) hszO
  have hzv := fun w => run_zeroValue' (P := Pg) (w := w) hz
  have hti := fun w => run_typeInfo (w := w) (P := Pg) hi
  have hzs : zv.cells.size = sz := by have := hT.len; rw [← hi4] at this; simpa using this
  have hask : ∀ k w1, (askRoom k).run Pg w1 = .ok () w1 := by
    intro k w1; unfold askRoom; split <;> rfl
  have w1 : IntKind.i64.wrap (n : Int) = n := wrap64_id (by omega) (by omega)
  have w2 : IntKind.i64.wrap (c : Int) = c := wrap64_id (by omega) (by omega)
  have hno : ¬ ((bts : Int) * (c : Int) > 2 ^ 48) := by
    have : (bts : Int) * (c : Int) = ((c * bts : Nat) : Int) := by rw [Int.natCast_mul, Int.mul_comm]
    rw [this]; omega
  have hai : ∀ (v : Int) (w : World), (asInt (I v)).run Pg w = .ok v w := fun _ _ => rfl
  have hcells : ∃ zc : Array Value, (Instr.makeSlice T (I n) (I c)).run Pg w = .ok (.slice (some ⟨w.heap.size, 0, none⟩) n c) (w.alloc (.cells ((Array.range (c * sz)).map (zc[· % zc.size]!)) el)) ∧ ((Array.range (c * sz)).map (zc[· % zc.size]!)).toList = (List.replicate c z).flatten := by
    by_cases h0 : c * sz = 0
    · refine ⟨#[], ?_, ?_⟩
      · unfold Instr.makeSlice
        rw [Sem.run_bind, hu]
        simp only [Result.andThen, Sem.run_bind, hai, Sem.run_pure, hti, w1, w2, hi2]
        rw [if_neg (by simp; omega)]
        simp only [Sem.run_pure, Sem.run_bind, Result.andThen, hask, hss, Int.toNat_natCast]
        rw [if_pos h0]
        simp [newRow, Sem.run_bind, newObj, Sem.run, Result.andThen]
      rw [h0]
      simp
      intro hc0
      rcases Nat.mul_eq_zero.1 h0 with h1 | h1
      · exact absurd h1 hc0
      · have := hT.len
        rw [h1] at this
        exact List.length_eq_zero_iff.1 this
    · refine ⟨zv.cells, ?_, ?_⟩
      · unfold Instr.makeSlice
        rw [Sem.run_bind, hu]
        simp only [Result.andThen, Sem.run_bind, hai, Sem.run_pure, hti, w1, w2, hi2]
        rw [if_neg (by simp; omega)]
        simp only [Sem.run_pure, Sem.run_bind, Result.andThen, hask, hss, Int.toNat_natCast]
        rw [if_neg h0]
        simp [newRow, Sem.run_bind, newObj, Sem.run, Result.andThen, hzv]
      rw [hzs]
      apply List.ext_getElem?
      intro j
      have hfl : ∀ c j, j < c * sz → (List.replicate c z).flatten[j]? = z[j % sz]? := by
        intro c
        induction c with
        | zero => intro j hj; simp at hj
        | succ c ih =>
          intro j hj
          rw [List.replicate_succ, List.flatten_cons]
          by_cases hjs : j < sz
          · rw [List.getElem?_append_left (by rw [hT.len]; exact hjs), Nat.mod_eq_of_lt hjs]
          · rw [List.getElem?_append_right (by rw [hT.len]; omega), hT.len, ih (j - sz) (by rw [Nat.add_mul] at hj; omega)]
            rw [Nat.mod_eq_sub_mod (by omega : j ≥ sz)]
      have hlen : (List.replicate c z).flatten.length = c * sz := by simp [hT.len]
      by_cases hj : j < c * sz
      · rw [hfl c j hj]
        simp only [Array.toList_map, List.getElem?_map, Array.toList_range, List.getElem?_range hj, Option.map_some]
        have hs0 : 0 < sz := Nat.pos_of_ne_zero fun h => h0 (by rw [h, Nat.mul_zero])
        have hm : j % sz < sz := Nat.mod_lt _ hs0
        rw [← hi4]
        have : j % sz < zv.cells.size := by rw [hzs]; exact hm
        simp [this]
      · rw [List.getElem?_eq_none (by simp; omega), List.getElem?_eq_none (by rw [hlen]; omega)]
  obtain ⟨zc, hrun, hz2⟩ := hcells
  unfold valV
  rw [hrun]
  have := H.new el ((Array.range (c * sz)).map (zc[· % zc.size]!))
  rw [hz2] at this
  exact k _ _ this
/-- copy into a slice of the run's own. -/
theorem copy_h' {b o n1 c1 : Nat} {l : List Value} (hT : ElT T el sz bts z) (H : Hp w0 w L) (i : Nat) (hi : L[i]? = some ⟨b, el, l⟩) (hle : o + n1 * sz ≤ l.length) (hsrc : RdL w0 L sz src m ys) (hsc : ∀ c ∈ ys.take (min m n1 * sz), scalar c = true) {ty : Nat} {cc : Array Bool}
    (k : ∀ w', Hp w0 w' (L.set i ⟨b, el, lay l o (ys.take (min m n1 * sz))⟩) → K (I ((min m n1 : Nat) : Int)) w') : blt Pg R .copy ⟨[T, T]⟩ ty cc ⟨[.slice (some ⟨b, o, none⟩) n1 c1, src]⟩ K w := by
  have hrd := hsrc.rd H
  obtain ⟨ti, zv, hti, hi1, hi2, hi3, hi4⟩ := hT.parts
  have hsz : szO Pg el = some sz := by simp [szO, hti, hi1]
  have hu := fun w => run_underlying' (P := Pg) (w := w) hT.under
  have hss := fun w => run_sizeOf' (P := Pg) (w := w) hsz
  have hlen := hrd.length
  have hlo := run_lenOf (P := Pg) hrd
  have hmn : min m n1 * sz ≤ m * sz := Nat.mul_le_mul_right _ (Nat.min_le_left _ _)
  have hmn2 : min m n1 * sz ≤ n1 * sz := Nat.mul_le_mul_right _ (Nat.min_le_right _ _)
  have hfs : (Builtin.firstCells sz (min m n1) src).run Pg w = .ok (ys.take (min m n1 * sz)).toArray w := by
    rcases hrd with ⟨c, rfl, h0, rfl⟩ | ⟨a, c, rfl, hmc, h⟩
    · have : min m n1 * sz = 0 := by omega
      simp only [Builtin.firstCells, List.take_nil]; rfl
    · obtain ⟨g1, g2⟩ := (cellsAt_spec _ _ _).1 h
      have h' : cellsAt w a 0 (min m n1 * sz) = some (ys.take (min m n1 * sz)) := (cellsAt_spec _ _ _).2 ⟨by simp; omega, fun j hj => by rw [g2 j (by omega)]; simp [hj]⟩
      have := run_loadCells (P := Pg) (w := w) (a := a) (min m n1 * sz) 0 #[] _ h'
      simpa [loadCells, Builtin.firstCells] using this
  obtain ⟨w', g1, g2, g3⟩ := run_storeCells_blk (P := Pg) (ys.take (min m n1 * sz)) o 0 w l (H.at hi) (by simp; omega) hsc
  have hrun : (Builtin.copy_ ⟨[T, T]⟩ ty ⟨[.slice (some ⟨b, o, none⟩) n1 c1, src]⟩).run Pg w = .ok (I ((min m n1 : Nat) : Int)) w' := by
    unfold Builtin.copy_
    simp [Sem.run_bind, hu, Result.andThen, hss, hlo, Nat.min_def]
    have hfs' := hfs
    simp only [Nat.min_def] at hfs' g1
    rw [hfs']
    simp only
    rw [g1]
    rfl
  unfold blt semV
  have : (builtin .copy ⟨[T, T]⟩ ty cc ⟨[.slice (some ⟨b, o, none⟩) n1 c1, src]⟩).run Pg w = .ok (.value (I ((min m n1 : Nat) : Int))) w' := run_value hrun
  rw [this]
  exact k w' (H.updi (t := .t el) (t' := .t el) hi (show Blk _ _ _ _ from by simpa using g2) g3)
theorem copy_h {b o n1 c1 : Nat} {l : List Value} (hT : ElT T el sz bts z) (H : Hp w0 w L) (i : Nat) (hi : L[i]? = some ⟨b, el, l⟩) (hle : o + n1 * sz ≤ l.length) (hsrc : RdL w0 L sz src m ys) (hsc : ∀ c ∈ ys, scalar c = true) {ty : Nat} {cc : Array Bool}
    (k : ∀ w', Hp w0 w' (L.set i ⟨b, el, lay l o (ys.take (min m n1 * sz))⟩) → K (I ((min m n1 : Nat) : Int)) w') : blt Pg R .copy ⟨[T, T]⟩ ty cc ⟨[.slice (some ⟨b, o, none⟩) n1 c1, src]⟩ K w :=
  copy_h' hT H i hi hle hsrc (fun c hc => hsc c (List.mem_of_mem_take hc)) k
end
end Go.Proofs.Ytmmbepdghpjgeaa.Den
end
