/- Packet filter: Parse of a rule's text, past its deferred recover. Conditions: none. -/
import Derived.Test.YtmmbepdghpjgeaaFlJ
import Derived.Test.YtmmbepdghpjgeaaFlL
import Derived.Tactics
import Derived.Tactics2
import Derived.Defers
import Derived.Recover
import Derived.Laws.Pointers
set_option linter.unusedVariables false
set_option linter.unusedSimpArgs false
set_option maxRecDepth 8000
set_option maxHeartbeats 1000000
namespace Go.Proofs.Ytmmbepdghpjgeaa.Den
open Go Go.RowKit
theorem den_wp {R : ER} {nt : Nat} {ds : List Deferred} {c : Code} (hok : okC Pg nt false c = true) (k : Kont) (a : Act) (w : World) (hi : Inv nt ds a) (h : den Pg R c (envOf a) k w) : c.wp Pg (postOf R nt ds k) a w :=
  (wpIn_wide (n := 0)).1 (den_sound (r := none) (m := 0) hmixed hng c hok k a w hi h)
noncomputable abbrev fnP : Func := Try.f11
theorem codeP : fnP.body = some (.seq (cd fnP [0]) (.seq (cd fnP [1, 0]) (.seq (cd fnP [1, 1, 0]) (cd fnP [1, 1, 1])))) := by kernel_rfl
theorem dP0 (R : ER) (N : Env → WP) (x : Nat → Env → WP) (r : Env → WP) (e : Env) : den Pg R (cd fnP [0]) e ⟨N, x, r⟩ = (al Pg 29 fun v2 => al Pg 32 fun v3 => N (upd (upd e 2 v2) 3 v3)) := by kernel_rfl
theorem dP1 (R : ER) (N : Env → WP) (x : Nat → Env → WP) (r : Env → WP) (e : Env) : den Pg R (cd fnP [1, 0]) e ⟨N, x, r⟩ = (pv (lenStr (e 0)) fun v6 => pv (bin .gtr v6 (.int .i64 200)) fun v7 =>
    cnd v7 (pv (bldO rul0.enc []) fun v8 => pv (bldO [.int .i64 0, .int .i64 0] [(1, 1, .int .i64 18)]) fun v9 => stN 16 (e 2) v8 fun _ => stN 2 (e 3) v9 fun _ => r (upd (upd (upd (upd (upd e 5 (e 0)) 6 v6) 7 v7) 8 v8) 9 v9))
      (N (upd (upd (upd e 5 (e 0)) 6 v6) 7 v7))) := by kernel_rfl
theorem dP2 (R : ER) (K : V2) (x : Nat → Env → WP) (e : Env) : den Pg R (cd fnP [1, 1, 1]) e ⟨fun e => K (e 2) (e 3), x, fun e => K (e 2) (e 3)⟩ =
    (pv (bldO [.string ⟨⟨[]⟩⟩, .int .i64 0] [(0, 1, e 0)]) fun v12 => bx 102 v12 fun v13 => cal Pg R 37 ⟨[v13]⟩ fun v15 => stN 16 (e 2) v15 fun _ =>
      ldN 16 (e 2) fun v16 => cal Pg R 15 ⟨[v16]⟩ fun v17 => pv (bin .neq v17 (.int .i64 0)) fun v18 =>
      cnd v18 (pv (bldO rul0.enc []) fun v19 => pv (bldO [.int .i64 0, .int .i64 0] [(1, 1, .int .i64 36)]) fun v20 => stN 16 (e 2) v19 fun _ => stN 2 (e 3) v20 fun _ => K (e 2) (e 3))
        (ldN 16 (e 2) fun v21 => pv (bldO [.int .i64 0, .int .i64 0] []) fun v22 => stN 16 (e 2) v21 fun _ => stN 2 (e 3) v22 fun _ => K (e 2) (e 3))) := by kernel_rfl
theorem resP (R : ER) (e : Env) : resV Pg R fnP.results.toList e = (ldN 16 (e 2) fun v => ldN 2 (e 3) fun v' => R (.returned (.tuple ⟨[v, v']⟩))) := by kernel_rfl
theorem okP0 : okC Pg fnP.ntmps false (cd fnP [0]) = true := by kernel_rfl
theorem okP1 : okC Pg fnP.ntmps false (cd fnP [1, 0]) = true := by kernel_rfl
theorem okP2 : okC Pg fnP.ntmps false (cd fnP [1, 1, 1]) = true := by kernel_rfl
theorem codeD : cd fnP [1, 1, 0] = .region 3 #[{ dst := some 10, op := .makeFunc (.func 36) #[] #[.tmp 2, .tmp 3], type := 1, pos := "text.go:242", after := #[], guard := none },
    { dst := none, op := .defer { callee := .value (.tmp 10), args := #[], argTypes := #[] }, type := 0, pos := "text.go:242", after := #[{ on := 0, ground := .data }], guard := none }] false := by kernel_rfl
theorem seq_den {nt : Nat} {ds : List Deferred} {c1 c2 : Code} {Q : Exit → Act → World → Prop} {a : Act} {w : World} (hok : okC Pg nt false c1 = true) (hi : Inv nt ds a)
    (h : den Pg noR c1 (envOf a) ⟨fun e w => ∀ a', Inv nt ds a' → envOf a' = e → c2.wp Pg Q a' w, fun _ _ _ => False, fun e w => ∀ a', Inv nt ds a' → envOf a' = e → Q .ret a' w⟩ w) : (Code.seq c1 c2).wp Pg Q a w := by
  refine wp_seq (wp_mono (den_wp hok _ a w hi h) fun e a' w' q => ?_)
  cases e with
  | normal => exact q.2 a' q.1 rfl
  | ret => exact q.2 a' q.1 rfl
  | exit id => exact q.2.elim
  | goto l => exact q.elim
  | panic ch => exact q.2.elim
  | outgrown => exact q.elim
theorem end_den {nt : Nat} {ds : List Deferred} {c : Code} {Q : Exit → Act → World → Prop} {a : Act} {w : World} {K : V2} (hok : okC Pg nt false c = true) (hi : Inv nt ds a) (hn : ∀ a w, Q .ret a w → Q .normal a w)
    (hK : ∀ a' w', Inv nt ds a' → K (envOf a' 2) (envOf a' 3) w' → Q .ret a' w')
    (h : den Pg noR c (envOf a) ⟨fun e => K (e 2) (e 3), fun _ _ _ => False, fun e => K (e 2) (e 3)⟩ w) : c.wp Pg Q a w := by
  refine wp_mono (den_wp hok _ a w hi h) fun e a' w' q => ?_
  cases e with
  | normal => exact hn _ _ (hK a' w' q.1 q.2)
  | ret => exact hK a' w' q.1 q.2
  | exit id => exact q.2.elim
  | goto l => exact q.elim
  | panic ch => exact q.2.elim
  | outgrown => exact q.elim
noncomputable def dfP (v2 v3 : Value) : Deferred := { target := .fn (.func 36) #[v2, v3], args := #[] }
theorem defer_wp {Q : Exit → Act → World → Prop} {a : Act} {w : World} (hi : Inv fnP.ntmps [] a) (k : ∀ a', Inv fnP.ntmps [dfP (envOf a 2) (envOf a 3)] a' → envOf a' 0 = envOf a 0 → envOf a' 2 = envOf a 2 → envOf a' 3 = envOf a 3 → Q .normal a' w) : (cd fnP [1, 1, 0]).wp Pg Q a w := by
  have hmf : ∀ (fn : Fn) (first cap : Array Value) (w : World), (Instr.makeFunc fn first cap).run Pg w = .ok (.func fn first cap) w := fun _ _ _ _ => rfl
  rw [codeD]
  refine wp_region ?_
  obtain ⟨h1, h2⟩ := hi
  have hn : fnP.ntmps = 23 := by kernel_rfl
  rw [hn] at h1 k
  simp [wpOps, go_sem, hmf, h1]
  have e2 : envOf a 2 = a.tmps[2] := by simp [envOf, Array.getD_eq_getD_getElem?, h1]
  have e3 : envOf a 3 = a.tmps[3] := by simp [envOf, Array.getD_eq_getD_getElem?, h1]
  refine .inl (.inl (k _ ⟨by simp [h1], ?_⟩ ?_ ?_ ?_))
  · simp only [dfP, e2, e3, h2]
  · simp [envOf, Array.getD_eq_getD_getElem?, Array.getElem?_setIfInBounds]
  · simp [envOf, Array.getD_eq_getD_getElem?, Array.getElem?_setIfInBounds]
  · simp [envOf, Array.getD_eq_getD_getElem?, Array.getElem?_setIfInBounds]
theorem idle_calls (v2 v3 : Value) (w : World) : CallsD Pg 36 #[v2, v3] .returning w fun e u' w' => e = .returned (.tuple #[]) ∧ u' = .returning ∧ w' = w := by
  refine callsD_of_wpS Try.func36 rfl fun c₀ cs hu => ?_
  apply wpS_seq
  apply wpS_region
  simp [wpOpsS, go_sem, recoverD, hu, Try.ntmps36, Exit.thenS]
  apply wpS_seq
  apply wpS_region
  simp [wpOpsS, go_sem, recoverD, hu, Try.ntmps36, Exit.thenS]
  refine wpS_cond (t := false) (by simp [Act.eval, Array.replicate]) ?_
  simp only [Bool.false_eq_true, if_false]
  refine wpS_of_wp (wp_skip ?_)
  cases c₀
  simp_all [bodyPostS, results, Try.results36]
theorem env_start (args : List Value) (nt : Nat) (h : args.length ≤ nt) : Inv nt [] { tmps := (⟨args⟩ : Array Value) ++ Array.replicate (nt - (⟨args⟩ : Array Value).size) undef, defers := [] } ∧ envOf { tmps := (⟨args⟩ : Array Value) ++ Array.replicate (nt - (⟨args⟩ : Array Value).size) undef, defers := [] } = argsEnv args := by
  refine ⟨⟨by simp; omega, rfl⟩, ?_⟩
  funext t
  simp only [envOf, argsEnv, Array.getD_eq_getD_getElem?, List.getD_eq_getElem?_getD, Array.getElem?_append]
  split
  · simp
  · rename_i ht
    have ht' : args.length ≤ t := by simpa using ht
    simp only [List.getElem?_eq_none ht', Option.getD_none]
    rw [Array.getElem?_replicate]
    split <;> rfl
theorem retk_no {K : VK} {e : Ending} {w : World} {v : Value} (h : K v w) (he : e = .returned v) : retK noR K e w := by subst he; exact h
theorem leaves_idle {R : ER} {a : Act} {w : World} {v2 v3 : Value} (hi : Inv fnP.ntmps [dfP v2 v3] a) (h : (ldN 16 (envOf a 2) fun v => ldN 2 (envOf a 3) fun v' => R (.returned (.tuple ⟨[v, v']⟩))) w) : Leaves Pg fnP a.tmps R a.defers .returning w := by
  obtain ⟨h1, h2⟩ := hi
  rw [h2]
  refine leaves_cons (f := 36) (args := #[v2, v3]) (by simp) (by simp [go_sem]) ?_
  refine (idle_calls v2 v3 w).mono ?_
  rintro e u' w' ⟨rfl, rfl, rfl⟩
  show ∃ v, (results fnP a.tmps).run Pg w' = .ok v w' ∧ R (.returned v) w'
  exact results_spec (a := a) (by rw [resP]; exact h)
section
variable {w w' w0 : World} {L L' F cs A X Y : List Chunk} {s : Value} {K : VK} {R : ER} {b i j : Nat} {S : ByteArray}
theorem parse_calls {r : Rul} (hp : parseP S = some r) (hS : S.size ≤ 200) (hr : r.Ok) (H : Hp w0 w L) :
    Calls Pg 11 ⟨[.string S]⟩ w fun e w' => e = .returned (.tuple ⟨[.agg ⟨r.enc⟩, .agg ⟨[I 0, I 0]⟩]⟩) ∧ Hp w0 w' L := by
  unfold parseP at hp
  simp only [Option.bind_eq_bind, Option.bind_eq_some_iff] at hp
  obtain ⟨r', hrp, hc⟩ := hp
  split at hc
  · rename_i hck
    injection hc with hc
    subst hc
    obtain ⟨i0, e0⟩ := env_start [.string S] fnP.ntmps (by rw [show fnP.ntmps = 23 from by kernel_rfl]; simp)
    refine calls_of_wp_defers Try.func11 codeP ?_
    generalize ({ tmps := (⟨[.string S]⟩ : Array Value) ++ Array.replicate (fnP.ntmps - (⟨[.string S]⟩ : Array Value).size) undef, defers := [] } : Act) = a0 at *
    refine seq_den okP0 i0 ?_
    rw [dP0]
    refine al_m (ys := rul0.enc) H (by kernel_rfl) fun w x2 H => ?_
    refine al_m (ys := [I 0, I 0]) H (by kernel_rfl) fun w x3 H => ?_
    intro a1 i1 e1
    rw [e0] at e1
    refine seq_den okP1 i1 ?_
    rw [dP1, e1]
    refine pv_of (lenStr_mk S) ?_
    refine gtr_n (by omega) ?_
    simp only [W0]
    intro a2 i2 e2
    refine wp_seq (defer_wp i2 fun a3 i3 g0 g2 g3 => ?_)
    have q0 : envOf a3 0 = .string S := by rw [g0, e2]; rfl
    have q2 : envOf a3 2 = ptr x2 0 := by rw [g2, e2]; rfl
    have q3 : envOf a3 3 = ptr x3 0 := by rw [g3, e2]; rfl
    obtain ⟨Kf, hKf⟩ : ∃ Kf : V2, Kf = fun v2 v3 w => v2 = ptr x2 0 ∧ v3 = ptr x3 0 ∧ Hp w0 w (⟨x3, .t 32, [I 0, I 0]⟩ :: ⟨x2, .t 29, r'.enc⟩ :: L) := ⟨_, rfl⟩
    refine end_den (K := Kf) okP2 i3 (fun a w h => h) ?_ ?_
    · subst hKf
      rintro a' w' hi' ⟨k2, k3, H⟩
      refine leaves_idle hi' ?_
      rw [k2, k3]
      refine ldA_m (l := r'.enc) H has rfl ?_
      refine ldA_m (l := [I 0, I 0]) H has rfl ?_
      exact ⟨rfl, H.tail.tail⟩
    · rw [dP2 noR Kf, q0, q2, q3]
      refine bld_a ?_
      refine bx_m H fun w b H => ?_
      refine cal_h (frule_spec (L' := ⟨b, .t 102, [.string S, I (S.size : Int)]⟩ :: ⟨x3, .t 32, [I 0, I 0]⟩ :: ⟨x2, .t 29, rul0.enc⟩ :: L) H ⟨[], _, rfl, rfl⟩ hrp (by omega)) ?_
      rintro _ w ⟨rfl, H⟩
      simp only [W0]
      refine stA_m H updd r'.enc_len rfl r'.enc_sc fun w H => ?_
      refine ldA_m (l := r'.enc) H has rfl ?_
      refine cal_h (rcheck_spec hr H) ?_
      rintro _ w ⟨rfl, H⟩
      simp only [W0]
      refine neq_n (by omega) ?_
      simp only [W0]
      refine ldA_m (l := r'.enc) H has rfl ?_
      refine bld_a ?_
      refine stA_m H updd r'.enc_len rfl r'.enc_sc fun w H => ?_
      refine stA_a fun w H => ?_
      subst hKf
      exact ⟨rfl, rfl, H.tail⟩
  · cases hc
end
end Go.Proofs.Ytmmbepdghpjgeaa.Den
