/- What a range over a function means, and that a function that holds one at its outermost level does that. Conditions: none. -/
import Derived.Test.YthcekppbbanfeaaGreatDenCode
import Derived.RangeFuncRecord
import Derived.RangeFuncLeaves
set_option linter.unusedVariables false
set_option linter.unusedSimpArgs false
namespace Go.Proofs.YthcekppbbanfeaaGreat.Den
open Go
/-- The value 'yield' of the loop l. -/
def yv (l : Nat) : Value := .func (.yield l) ⟨[]⟩ ⟨[]⟩
/-- A round's continuation: off its end; by an exit of the block i that holds the loop; by 'ret'. -/
def kontN (i : Nat) (N Bk Rt : WP) : Kont := ⟨fun _ => N, fun j _ => bif Nat.beq j i then Bk else fun _ => False, fun _ => Rt⟩
def kontB (G : Env → WP) : Kont := ⟨G, fun _ _ _ => False, fun _ _ => False⟩
/-- A round: the parameters are set, the assignments made, the record is busy (B), the body is done. -/
def denR (P : Program) (assign body : Code) (B : WP → WP) (k : Kont) : Env → List Nat → List Value → WP
  | e, [], [] => den P noR assign e (kontB fun e' => B (den P noR body e' k))
  | e, p :: ps, a :: ys => denR P assign body B k (upd e p a) ps ys
  | _, _, _ => fun _ => False
def busyRec (rc : Loop) : Obj := .loop { rc with state := .busy }
def doneRec (rc : Loop) (j : Code) : Obj := .loop { rc with state := .done, pending := some j }
def overRec (rc : Loop) : Obj := .loop { rc with state := .exhausted }
def overJ (rc : Loop) (j : Code) : Obj := .loop { rc with state := .exhausted, pending := some j }
def begR (l : Nat) (rc : Loop) (G : WP) : WP := fun w => w.heap[l]? = some (.loop rc) ∧ G (w.putObj l (busyRec rc))
def endR (l : Nat) (rc : Loop) (K : VK) : WP := fun w => w.heap[l]? = some (busyRec rc) ∧ K (.bool true) (w.putObj l (.loop rc))
def endJ (l : Nat) (rc : Loop) (j : Code) (K : VK) : WP := fun w => w.heap[l]? = some (busyRec rc) ∧ K (.bool false) (w.putObj l (doneRec rc j))
abbrev RBT := (WP → WP) → WP → WP → WP → List Value → WP
/-- A call of yield at a ready record: RB B N Bk Rt is what the round asks. -/
def YieldIs (P : Program) (l : Nat) (rc : Loop) (i : Nat) (RB : RBT) : Prop :=
  ∀ (R : ER) (args : List Value) (K : VK) (w : World), w.heap[l]? = some (.loop rc) →
    RB (begR l rc) (endR l rc K) (endJ l rc (.exit i) K) (endJ l rc .ret K) args w → calD P R (yv l) ⟨args⟩ K w
/-- The function's end behind a mark: the block D is shut. -/
def markR (D : Nat) (R : ER) : ER := fun e w => w.heap[D]? = some (.deferred (some [])) ∧ R e (w.putObj D (.deferred none))
/-- A call of a function value that is known. -/
def calF (P : Program) (g : Value) (args : Array Value) (K : VK) : WP := fun w => match g with
  | .func (.func f) first captured => enterOk P f = true ∧ Calls P f (first ++ args ++ captured) w (retK noR K)
  | _ => False
def rngP (P : Program) (R : ER) (i : Nat) (g : Value) (RB : RBT) (AF RT : ER → WP) : WP := fun w =>
  ∀ (rc : Loop) (w1 : World), w1 = (w.alloc (.deferred (some []))).alloc (.loop rc) → YieldIs P (w.heap.size + 1) rc i RB →
    calF P g ⟨[yv (w.heap.size + 1)]⟩ (fun _ w3 =>
      (w3.heap[w.heap.size + 1]? = some (.loop rc) ∧ AF (markR w.heap.size R) (w3.putObj (w.heap.size + 1) (overRec rc))) ∨
      (w3.heap[w.heap.size + 1]? = some (doneRec rc (.exit i)) ∧ AF (markR w.heap.size R) (w3.putObj (w.heap.size + 1) (overJ rc (.exit i)))) ∨
      (w3.heap[w.heap.size + 1]? = some (doneRec rc .ret) ∧ RT (markR w.heap.size R) (w3.putObj (w.heap.size + 1) (overJ rc .ret)))) w1
theorem rngP_congr {P : Program} {R : ER} {i : Nat} {g : Value} {RB RB' : RBT} {AF AF' RT RT' : ER → WP} (h1 : ∀ B N Bk Rt ys, RB B N Bk Rt ys = RB' B N Bk Rt ys) (h2 : ∀ R, AF R = AF' R) (h3 : ∀ R, RT R = RT' R) :
    rngP P R i g RB AF RT = rngP P R i g RB' AF' RT' := by
  obtain rfl : RB = RB' := by funext B N Bk Rt ys; exact h1 B N Bk Rt ys
  obtain rfl : AF = AF' := funext h2
  obtain rfl : RT = RT' := funext h3
  rfl
theorem den_begin {P : Program} {assign body : Code} {B : WP → WP} {k : Kont} {e : Env} {G : WP} (F : Env → WP) (h1 : ∀ e', den P noR body e' k = F e') (h2 : den P noR assign e (kontB fun e' => B (F e')) = G) :
    den P noR assign e (kontB fun e' => B (den P noR body e' k)) = G := by
  obtain rfl : (fun e' => den P noR body e' k) = F := funext h1
  exact h2
def rfOp : Code → Operand
  | .rangeFunc g _ _ _ => g
  | _ => .tmp 0
def rbm1 (f : Value → WP) : List Value → WP
  | [a] => f a
  | _ => fun _ => False
def rbm2 (f : Value → Value → WP) : List Value → WP
  | [a, b] => f a b
  | _ => fun _ => False
theorem denR_1 {P : Program} {assign body : Code} {B : WP → WP} {k : Kont} {e : Env} {p : Nat} {f : Value → WP} (h : ∀ a, den P noR assign (upd e p a) (kontB fun e' => B (den P noR body e' k)) = f a) : ∀ ys, denR P assign body B k e [p] ys = rbm1 f ys
  | [] => rfl
  | [a] => h a
  | _ :: _ :: _ => rfl
theorem denR_2 {P : Program} {assign body : Code} {B : WP → WP} {k : Kont} {e : Env} {p q : Nat} {f : Value → Value → WP} (h : ∀ a b, den P noR assign (upd (upd e p a) q b) (kontB fun e' => B (den P noR body e' k)) = f a b) : ∀ ys, denR P assign body B k e [p, q] ys = rbm2 f ys
  | [] => rfl
  | [_] => rfl
  | [a, b] => h a b
  | _ :: _ :: _ :: _ => rfl
section
variable {P : Program} {R : ER}
theorem envOf_setIf {nt : Nat} (d : List Deferred) : ∀ (ps : List Nat) (ys : List Value) (tm : Array Value), tm.size = nt → (∀ p ∈ ps, p < nt) →
    ∀ (k : Kont) (assign body : Code) (B : WP → WP) (w : World), denR P assign body B k (envOf { tmps := tm, defers := d }) ps ys w → ys.length = ps.length ∧
      den P noR assign (envOf { tmps := (ps.zip ys).foldl (fun tmps (t, a) => tmps.setIfInBounds t a) tm, defers := d }) (kontB fun e' => B (den P noR body e' k)) w ∧ ((ps.zip ys).foldl (fun tmps (t, a) => tmps.setIfInBounds t a) tm).size = nt
  | [], [], tm, hn, hp, k, assign, body, B, w, h => ⟨rfl, h, hn⟩
  | [], _ :: _, tm, hn, hp, k, assign, body, B, w, h => h.elim
  | _ :: _, [], tm, hn, hp, k, assign, body, B, w, h => h.elim
  | p :: ps, a :: ys, tm, hn, hp, k, assign, body, B, w, h => by
    have hpn := hp p (List.mem_cons_self ..)
    have he : upd (envOf { tmps := tm, defers := d }) p a = envOf { tmps := tm.setIfInBounds p a, defers := d } := by
      funext t
      simp only [envOf, upd]
      by_cases ht : t = p
      · subst ht; simp [Array.getElem?_setIfInBounds, hn, hpn]
      · rw [beq_ne ht]; simp [Array.getElem?_setIfInBounds_ne (Ne.symm ht)]
    simp only [denR, he] at h
    obtain ⟨h1, h2⟩ := envOf_setIf d ps ys _ (by simp [hn]) (fun q hq => hp q (List.mem_cons_of_mem _ hq)) k assign body B w h
    exact ⟨by simp [h1], h2⟩
/-- A call of yield means a round. -/
theorem yieldIs_of (hm : P.follows .mixedOrders = true) (hng : NG P) {nt l i : Nat} {rc : Loop} {e : Env} (hst : rc.state = .ready) (hpe : rc.pending = none)
    (hok : (okC P nt true rc.assign && okC P nt true rc.body) = true) (hps : ∀ p ∈ rc.params.toList, p < nt) (hsz : rc.tmps.size = nt) (he : envOf { tmps := rc.tmps, defers := [] } = e) :
    YieldIs P l rc i fun B N Bk Rt ys => denR P rc.assign rc.body B (kontN i N Bk Rt) e rc.params.toList ys := by
  intro R args K w hl h
  subst he
  simp only [Bool.and_eq_true] at hok
  obtain ⟨h1, h2, h3⟩ := envOf_setIf [] _ _ _ hsz hps _ _ _ _ _ h
  unfold calD yv
  simp only
  show stepK P R K ((do let d ← Deferred.ofValue (.func (.yield l) ⟨[]⟩ ⟨[]⟩) ⟨args⟩; invoke d.target d.args : Sem Next).run P w)
  have hinv : (do let d ← Deferred.ofValue (.func (.yield l) ⟨[]⟩ ⟨[]⟩) ⟨args⟩; invoke d.target d.args : Sem Next).run P w = (Instr.yield l ⟨args⟩).run P w := by
    rw [Sem.run_bind]
    simp only [Deferred.ofValue, Sem.run_pure, Result.andThen]
    unfold invoke
    congr 2
    simp
  rw [hinv, run_yield hl (by simpa using h1)]
  simp only [stepK]
  have hzip : (rc.params.zip ⟨args⟩).foldl (fun tmps (x : Tmp × Value) => tmps.setIfInBounds x.1 x.2) rc.tmps = (rc.params.toList.zip args).foldl (fun tmps (x : Tmp × Value) => tmps.setIfInBounds x.1 x.2) rc.tmps := by
    rw [← Array.foldl_toList, Array.toList_zip]
  refine roundIn_of_wpIn (F := Fence.wide) trivial ?_
  show rc.assign.wpIn (fr (some l)) 0 P _ _ _
  refine wpIn_mono (den_sound (R := noR) (r := some l) (nt := nt) (ds := []) hm hng rc.assign hok.1 (kontB fun e' => begR l rc (den P noR rc.body e' (kontN i (endR l rc K) (endJ l rc (.exit i) K) (endJ l rc .ret K)))) _ _ ⟨?_, rfl⟩ ?_) fun e a' w' q => ?_
  · rw [hzip]; exact h3
  · rw [hzip]; exact h2
  · cases e with
    | exit id => exact q.2.elim
    | goto t => exact q.elim
    | panic ch => exact q.2.elim
    | outgrown => exact q.elim
    | ret => exact q.2.elim
    | normal =>
      obtain ⟨qi, q1, q2⟩ := q
      refine ⟨_, run_beginRound q1 hst, ?_⟩
      show rc.body.wpIn (fr (some l)) 0 P _ _ _
      refine wpIn_mono (den_sound (R := noR) (r := some l) (nt := nt) (ds := []) hm hng rc.body hok.2 _ _ _ qi q2) fun e a' w' q => ?_
      cases e with
      | normal =>
        obtain ⟨_, q1, q2⟩ := q
        refine ⟨_, _, run_endRound none q1, ?_⟩
        have : ({ ({ rc with state := .busy } : Loop) with state := if (none : Option Code).isNone then .ready else .done, pending := none } : Loop) = rc := by
          cases rc; simp_all
        rw [this]; exact q2
      | ret =>
        obtain ⟨_, q1, q2⟩ := q
        exact ⟨_, _, run_endRound (some .ret) q1, q2⟩
      | exit id =>
        obtain ⟨_, q⟩ := q
        by_cases hid : id = i
        · subst hid
          simp only [kontN, Nat.beq_refl, cond_true] at q
          obtain ⟨q1, q2⟩ := q
          exact ⟨_, _, run_endRound (some (.exit id)) q1, q2⟩
        · simp only [kontN, beq_ne hid, cond_false] at q
      | goto t => exact q.elim
      | panic ch => exact q.2.elim
      | outgrown => exact q.elim
/-- The code ahead of a place in a sequence; at the place; behind it. -/
def preP : List Nat → Code → Code
  | 0 :: p, .seq a _ => preP p a
  | _ :: p, .seq a b => .seq a (preP p b)
  | _, _ => .skip
def tgtP : List Nat → Code → Code
  | 0 :: p, .seq a _ => tgtP p a
  | _ :: p, .seq _ b => tgtP p b
  | _, c => c
def restP : List Nat → Code → Code
  | 0 :: p, .seq a b => .seq (restP p a) b
  | _ :: p, .seq _ b => restP p b
  | _, _ => .skip
def okPath : List Nat → Code → Bool
  | [], _ => true
  | 0 :: p, .seq a _ => okPath p a
  | _ :: p, .seq _ b => okPath p b
  | _, _ => false
def postQ (P : Program) : List Nat → Code → (Exit → Act → World → Prop) → Exit → Act → World → Prop
  | 0 :: p, .seq a b, Q => postQ P p a (Exit.then (b.wpIn (fr none) 0 P Q) Q)
  | _ :: p, .seq _ b, Q => postQ P p b Q
  | _, _, Q => Q
theorem wp_path (hm : P.follows .mixedOrders = true) (hng : NG P) {nt : Nat} : ∀ (p : List Nat) (c : Code) (k : Kont) (Q : Exit → Act → World → Prop), (∀ e a w, e ≠ .normal → postOf R nt [] k e a w → Q e a w) →
    okPath p c = true → okC P nt false (preP p c) = true → (∀ a w, Inv nt [] a → k.n (envOf a) w → (tgtP p c).wpIn (fr none) 0 P (postQ P p c Q) a w) →
      ∀ (a : Act) (w : World), Inv nt [] a → den P R (preP p c) (envOf a) k w → c.wpIn (fr none) 0 P Q a w
  | [], c, k, Q, hx, hs, hok, hn, a, w, hi, h => by
    have := hn a w hi h
    cases c <;> exact this
  | 0 :: p, .seq x y, k, Q, hx, hs, hok, hn, a, w, hi, h => by
    refine wpIn_seq (wp_path hm hng p x k _ (fun e a w hne q => ?_) hs hok hn a w hi h)
    have := hx e a w hne q
    cases e <;> first | exact absurd rfl hne | exact this
  | (d + 1) :: p, .seq x y, k, Q, hx, hs, hok, hn, a, w, hi, h => by
    simp only [preP, okC, Bool.and_eq_true] at hok
    refine wpIn_seq (wpIn_mono (den_sound (r := none) hm hng x hok.1 { k with n := fun e' => den P R (preP p y) e' k } a w hi h) fun e a' w' q => ?_)
    cases e with
    | normal => exact wp_path hm hng p y k Q hx hs hok.2 hn a' w' q.1 q.2
    | exit id => exact hx _ _ _ (by simp) q
    | goto l => exact hx _ _ _ (by simp) q
    | ret => exact hx _ _ _ (by simp) q
    | panic ch => exact hx _ _ _ (by simp) q
    | outgrown => exact hx _ _ _ (by simp) q
theorem rest_path (hm : P.follows .mixedOrders = true) (hng : NG P) {nt : Nat} {ds : List Deferred} : ∀ (p : List Nat) (c : Code) (k : Kont) (Q : Exit → Act → World → Prop), (∀ e a w, postOf R nt ds k e a w → Q e a w) →
    okPath p c = true → okC P nt false (restP p c) = true → ∀ (a : Act) (w : World), Inv nt ds a → den P R (restP p c) (envOf a) k w → postQ P p c Q .normal a w
  | [], c, k, Q, hx, hs, hok, a, w, hi, h => by
    have := hx .normal a w ⟨hi, h⟩
    cases c <;> exact this
  | 0 :: p, .seq x y, k, Q, hx, hs, hok, a, w, hi, h => by
    simp only [restP, okC, Bool.and_eq_true] at hok
    refine rest_path hm hng p x { k with n := fun e' => den P R y e' k } _ (fun e a w q => ?_) hs hok.1 a w hi h
    cases e with
    | normal => exact wpIn_mono (den_sound (r := none) hm hng y hok.2 k a w q.1 q.2) hx
    | exit id => exact hx _ _ _ q
    | goto l => exact hx _ _ _ q
    | ret => exact hx _ _ _ q
    | panic ch => exact hx _ _ _ q
    | outgrown => exact hx _ _ _ q
  | (d + 1) :: p, .seq x y, k, Q, hx, hs, hok, a, w, hi, h => rest_path hm hng p y k Q hx hs hok a w hi h
theorem postQ_ne : ∀ (p : List Nat) (c : Code) (Q : Exit → Act → World → Prop) (e : Exit) (a : Act) (w : World), e ≠ .normal → Q e a w → postQ P p c Q e a w
  | [], c, Q, e, a, w, _, h => by cases c <;> exact h
  | 0 :: p, c, Q, e, a, w, hne, h => by
    cases c <;> try exact h
    rename_i x y
    refine postQ_ne p x _ e a w hne ?_
    cases e <;> first | exact absurd rfl hne | exact h
  | (d + 1) :: p, c, Q, e, a, w, hne, h => by
    cases c <;> try exact h
    rename_i x y
    exact postQ_ne p y Q e a w hne h
end
def tmpRes : ResultVar → Bool
  | .tmp _ => true
  | _ => false
theorem resL_tmp {P : Program} {a : Act} {e : Env} (he : envOf a = e) : ∀ (rs : List ResultVar), rs.all tmpRes = true → ∀ (K : List Value → WP) (w w' : World), resL P rs e K w → ∃ vs, (rs.mapM (resG a.tmps)).run P w' = .ok vs w' ∧ K vs w
  | [], _, K, w, w', h => ⟨[], rfl, h⟩
  | .cell _ _ :: _, hr, _, _, _, _ => by simp [tmpRes] at hr
  | .tmp t :: rs, hr, K, w, w', h => by
    simp only [List.all_cons, Bool.and_eq_true] at hr
    obtain ⟨vs, h1, h2⟩ := resL_tmp he rs hr.2 _ w w' h
    refine ⟨_, ?_, h2⟩
    subst he
    rw [List.mapM_cons, Sem.run_bind]
    simp only [resG, Sem.run_pure, Result.andThen, Sem.run_bind, h1]
    rfl
theorem results_mark {P : Program} {R : ER} {fn : Func} {a : Act} {w : World} {D : Nat} (hr : fn.results.toList.all tmpRes = true) (h : resV P (markR D R) fn.results.toList (envOf a) w) :
    (Instr.takeDeferred D).run P w = .ok [] (w.putObj D (.deferred none)) ∧ ∃ v, (results fn a.tmps).run P (w.putObj D (.deferred none)) = .ok v (w.putObj D (.deferred none)) ∧ R (.returned v) (w.putObj D (.deferred none)) := by
  obtain ⟨vs, h1, h2, h3⟩ := resL_tmp (P := P) rfl fn.results.toList hr _ w (w.putObj D (.deferred none)) h
  refine ⟨run_takeDeferred h2, _, ?_, h3⟩
  rw [results_eq, Sem.run_bind, Array.mapM_eq_mapM_toList, Sem.run_map, h1]
  simp only [Result.andThen]
  cases vs with
  | nil => rfl
  | cons v vs => cases vs <;> rfl
/-- The function's body behind the loop. -/
theorem leaves_mark {P : Program} {R : ER} {fn : Func} {a : Act} {w : World} {D : Nat} (ha : a.defers = [{ target := .collected D, args := #[] }]) (hr : fn.results.toList.all tmpRes = true) (h : resV P (markR D R) fn.results.toList (envOf a) w) :
    LeavesInM (fr none) 0 P fn a.tmps R a.defers .returning w := by
  obtain ⟨h1, v, h2, h3⟩ := results_mark hr h
  rw [ha]
  refine ⟨by simp, .inl ⟨D, _, rfl, h1, ?_⟩⟩
  exact ⟨v, h2, h3⟩
theorem calls_rf {P : Program} {R : ER} (hm : P.follows .mixedOrders = true) (hng : NG P) {f : FuncId} {fn : Func} {c : Code} {args : List Value} {w : World} {bi : Nat} {p : List Nat} {g : Operand} {ps : List Nat} {assign body : Code}
    (hf : P.funcs[f]? = some fn) (hb : fn.body = some c) (hp : tgtP p c = .block bi (.rangeFunc g ⟨ps⟩ assign body))
    (hok : (okPath p c && okC P fn.ntmps false (preP p c) && okC P fn.ntmps false (restP p c) && (okC P fn.ntmps true assign && okC P fn.ntmps true body) && decide (args.length ≤ fn.ntmps) && ps.all (fun q => decide (q < fn.ntmps)) && fn.results.toList.all tmpRes) = true)
    (h : den P R (preP p c) (argsEnv args) { n := fun e => rngP P R bi (ev e g) (fun B N Bk Rt ys => denR P assign body B (kontN bi N Bk Rt) e ps ys) (fun R' => den P R' (restP p c) e (kont P R' fn)) (fun R' => resV P R' fn.results.toList e), x := fun _ _ _ => False, r := resV P R fn.results.toList } w) :
    Calls P f args.toArray w R := by
  simp only [Bool.and_eq_true, decide_eq_true_eq] at hok
  obtain ⟨⟨⟨⟨⟨⟨ok0, ok1⟩, ok2⟩, ok3⟩, ok4⟩, ok5⟩, ok6⟩ := hok
  have ok5' : ∀ p ∈ ps, p < fn.ntmps := by simpa [List.all_eq_true] using ok5
  refine callsIn_fr.1 (callsIn_of_wp_marks (F := fr none) (n := 0) hf hb trivial ?_)
  have he : envOf { tmps := args.toArray ++ Array.replicate (fn.ntmps - args.toArray.size) undef, defers := [] } = argsEnv args := by
    funext t
    simp only [envOf, argsEnv, Array.getD_eq_getD_getElem?, List.getD_eq_getElem?_getD, Array.getElem?_append]
    split
    · simp
    · rename_i ht
      have ht' : args.length ≤ t := by simpa using ht
      simp only [List.getElem?_eq_none ht', Option.getD_none]
      rw [Array.getElem?_replicate]
      split <;> rfl
  refine wp_path (R := R) (nt := fn.ntmps) hm hng p c _ _ ?_ ok0 ok1 ?_ _ w ⟨by simp; omega, rfl⟩ (he ▸ h)
  · intro e a w hne q
    cases e with
    | normal => exact absurd rfl hne
    | exit id => exact q.2.elim
    | goto l => exact q.elim
    | outgrown => exact q.elim
    | panic ch => obtain ⟨q1, q2⟩ := q; show LeavesInM _ _ _ _ _ _ _ _ _; rw [q1]; exact q2
    | ret =>
      obtain ⟨⟨_, q1⟩, q2⟩ := q
      show LeavesInM _ _ _ _ _ _ _ _ _
      rw [q1]
      exact results_spec q2
  · intro a w1 hinv q2
    obtain ⟨q0, q1⟩ := hinv
    rw [hp]
    refine wpIn_block ?_
    refine wpIn_rangeFunc fun fid _ => ?_
    obtain ⟨rc, hrc⟩ : ∃ rc : Loop, rc = { state := .ready, pending := none, fn := fid, tmps := a.tmps, params := ⟨ps⟩, assign := assign, body := body, defers := w1.heap.size } := ⟨_, rfl⟩
    have hy : YieldIs P (w1.heap.size + 1) rc bi fun B N Bk Rt ys => denR P assign body B (kontN bi N Bk Rt) (envOf a) ps ys := by
      have := yieldIs_of (P := P) (l := w1.heap.size + 1) (rc := rc) (i := bi) (nt := fn.ntmps) (e := envOf a) hm hng (by rw [hrc]) (by rw [hrc]) (by rw [hrc]; simpa using ok3) (by rw [hrc]; simpa using ok5') (by rw [hrc]; exact q0) (by rw [hrc]; rfl)
      rw [hrc] at this ⊢; exact this
    have hq := q2 rc _ rfl hy
    have hev : ev (envOf a) g = a.eval g := by rw [ev_envOf]
    rw [hev] at hq
    have hent : (Instr.enterLoop fid a.tmps ⟨ps⟩ assign body (fr none).round).run P w1 = .ok (w1.heap.size + 1, [{ target := .collected w1.heap.size, args := #[] }]) ((w1.alloc (.deferred (some []))).alloc (.loop rc)) := by
      rw [hrc]; exact run_enterLoop_outer fid a.tmps ⟨ps⟩ assign body
    unfold calF at hq
    split at hq
    · rename_i f' first captured hg
      obtain ⟨hent2, hs⟩ := hq
      have hinv2 : (invoke (.fn (.func f') captured) (first ++ ⟨[yv (w1.heap.size + 1)]⟩)).run P ((w1.alloc (.deferred (some []))).alloc (.loop rc)) = .ok (.enter f' (first ++ ⟨[yv (w1.heap.size + 1)]⟩ ++ captured)) ((w1.alloc (.deferred (some []))).alloc (.loop rc)) := by
        exact run_enter hng hent2
      refine ⟨_, _, _, { target := .fn (.func f') captured, args := first ++ ⟨[yv (w1.heap.size + 1)]⟩ }, _, f', _, _, hent, ?_, fun _ _ => trivial, hinv2, depth_fr, callsIn_fr.2 (Calls.mono hs fun e w3 q3 => ?_)⟩
      · unfold resolve rangeCall
        have hc : ∀ v, a.eval (.const v) = v := fun _ => rfl
        simp [Deferred.ofValue, hg, hc, Sem.run_bind, Result.andThen, yv]
      cases e with
      | outgrown => exact q3.elim
      | panicked ch => exact q3.elim
      | returned v =>
        simp only [retK] at q3
        have hrest : ∀ w4, den P (markR w1.heap.size R) (restP p c) (envOf a) (kont P (markR w1.heap.size R) fn) w4 → postQ P p c (bodyPostM (fr none) 0 P fn R) .normal { tmps := a.tmps, defers := [{ target := .collected w1.heap.size, args := #[] }] ++ a.defers } w4 := by
          intro w4 g2
          refine rest_path (R := markR w1.heap.size R) (nt := fn.ntmps) (ds := [{ target := .collected w1.heap.size, args := #[] }]) hm hng p c (kont P (markR w1.heap.size R) fn) _ (fun e a' w' q => ?_) ok0 ok2 _ _ ⟨q0, by simp [q1]⟩ g2
          cases e with
          | normal => exact leaves_mark q.1.2 ok6 q.2
          | ret => exact leaves_mark q.1.2 ok6 q.2
          | exit id => exact q.2.elim
          | goto l => exact q.elim
          | outgrown => exact q.elim
          | panic ch =>
            obtain ⟨k1, k2, k3⟩ := q
            show LeavesInM _ _ _ _ _ _ _ _ _
            rw [k1]
            exact ⟨by simp, .inl ⟨_, _, rfl, run_takeDeferred k2, k3⟩⟩
        rcases q3 with ⟨g1, g2⟩ | ⟨g1, g2⟩ | ⟨g1, g2⟩
        · refine ⟨none, w3.putObj (w1.heap.size + 1) (overRec rc), ?_, hrest _ g2⟩
          have := run_endLoop (P := P) g1 (by rw [hrc]; simp)
          rw [this]; unfold overRec; congr 1; rw [hrc]
        · refine ⟨some (.exit bi), w3.putObj (w1.heap.size + 1) (overJ rc (.exit bi)), ?_, ?_⟩
          · have := run_endLoop (P := P) g1 (by simp)
            rw [this]; rfl
          · refine wpIn_exit ?_
            show Exit.inBlock bi _ (.exit bi) _ _
            simp only [Exit.inBlock, if_true]
            exact hrest _ g2
        · refine ⟨some .ret, w3.putObj (w1.heap.size + 1) (overJ rc .ret), ?_, ?_⟩
          · have := run_endLoop (P := P) g1 (by simp)
            rw [this]; rfl
          · refine wpIn_ret ?_
            show Exit.inBlock bi _ .ret _ _
            simp only [Exit.inBlock]
            exact postQ_ne p c _ _ _ _ (by simp) (leaves_mark (by simp [q1]) ok6 g2)
    · exact hq.elim
theorem calls_of_rf {f : Nat} {fn : Func} {args : List Value} {R : ER} {w : World} {G : WP} {bi : Nat} {p : List Nat} {g : Operand} {ps : List Nat} {assign body : Code} {RF : Env → WP}
    (hf : Pg.funcs[f]? = some fn) (hb : fn.body = some (cd fn [])) (hp : tgtP p (cd fn []) = .block bi (.rangeFunc g ⟨ps⟩ assign body))
    (hok : (okPath p (cd fn []) && okC Pg fn.ntmps false (preP p (cd fn [])) && okC Pg fn.ntmps false (restP p (cd fn [])) && (okC Pg fn.ntmps true assign && okC Pg fn.ntmps true body) && decide (args.length ≤ fn.ntmps) && ps.all (fun q => decide (q < fn.ntmps)) && fn.results.toList.all tmpRes) = true)
    (hRF : ∀ e, rngP Pg R bi (ev e g) (fun B N Bk Rt ys => denR Pg assign body B (kontN bi N Bk Rt) e ps ys) (fun R' => den Pg R' (restP p (cd fn [])) e (kont Pg R' fn)) (fun R' => resV Pg R' fn.results.toList e) = RF e)
    (hd : den Pg R (preP p (cd fn [])) (argsEnv args) { n := RF, x := fun _ _ _ => False, r := resV Pg R fn.results.toList } = G) (h : G w) : Calls Pg f ⟨args⟩ w R := by
  obtain rfl : (fun e => rngP Pg R bi (ev e g) (fun B N Bk Rt ys => denR Pg assign body B (kontN bi N Bk Rt) e ps ys) (fun R' => den Pg R' (restP p (cd fn [])) e (kont Pg R' fn)) (fun R' => resV Pg R' fn.results.toList e)) = RF := funext hRF
  subst hd
  exact calls_rf hmixed hng hf hb hp hok h
end Go.Proofs.YthcekppbbanfeaaGreat.Den
