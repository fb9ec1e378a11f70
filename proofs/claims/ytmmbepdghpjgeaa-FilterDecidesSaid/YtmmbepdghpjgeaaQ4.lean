/- Printed by a program of this session: what the functions mean, and that the model means just that. Conditions: none. -/
import Derived.Test.YtmmbepdghpjgeaaQ3
section
set_option linter.unusedVariables false
set_option maxRecDepth 100000
namespace Go.Proofs.Ytmmbepdghpjgeaa.Den
open Go
/-! ### 3: orpimentlaw39_FilterParses -/
def F3_j1 (R : ER) (x0 : Value) : WP :=
  cal Pg R 11 ⟨[x0]⟩ fun v1 =>
  pv (extO 0 v1) fun v2 =>
  pv (extO 1 v1) fun v3 =>
  al Pg 29 fun v4 =>
  al Pg 32 fun v5 =>
  stN 16 v4 v2 fun _ =>
  stN 2 v5 v3 fun _ =>
  cal Pg R 12 ⟨[x0]⟩ fun v6 =>
  pv (extO 0 v6) fun v7 =>
  pv (extO 1 v6) fun v8 =>
  al Pg 38 fun v9 =>
  al Pg 32 fun v10 =>
  stN 16 v9 v7 fun _ =>
  stN 2 v10 v8 fun _ =>
  drewV (
  ldN 2 v5 fun v11 =>
  ldN 2 v10 fun v12 =>
  pv (eqAgg [0,0] v11 v12) fun v13 =>
  gd v13 true (ldN 16 v4) fun v14 =>
  mem fun w16 => gd v13 true (cal Pg noR 13 ⟨[v14]⟩) fun v15 =>
  gd v13 true (ldNS [w16] 16 v9) fun v17 =>
  gd v13 true (pv (eqAgg [0,1,1,0,0,0,0,0,1,0,0,1,0,0,0,0] v15 v17)) fun v18 =>
  pv (pickO v13 v18 (.bool false)) fun v19 =>
  mem fun w21 => gd v19 true (cal Pg noR 10 ⟨[]⟩) fun v20 =>
  pv (pickO v19 v20 (.bool false)) fun v22 =>
  R (.returned v22))
theorem F3_j1_ok (R : ER) (e : Env) : den Pg R (cd Try.f3 [1,1]) e (kont Pg R Try.f3) = (F3_j1 R (e 0)) := by kernel_rfl
def F3 (R : ER) (x0 : Value) : WP :=
  pv (lenStr x0) fun v23 =>
  pv (bin .gtr v23 (.int .i64 400)) fun v24 =>
  cnd v24 (
   cal Pg R 10 ⟨[]⟩ fun v25 =>
   R (.returned v25)) (
   F3_j1 R x0)
theorem F3_den (R : ER) (x0 : Value) : den Pg R (cd Try.f3 []) (argsEnv [x0]) (kont Pg R Try.f3) = F3 R x0 :=
  have h : ∀ e, den Pg R (cd Try.f3 []) e (kont Pg R Try.f3) = F3 R (e 0) := fun e => (den_join Pg R 1 (cd Try.f3 []) (cd Try.f3 [1,1]) e (kont Pg R Try.f3) (fun e => F3_j1 R (e 0)) _ (by kernel_rfl) (fun e => F3_j1_ok R e) (by kernel_rfl))
  h _
theorem F3_calls {R : ER} {x0 : Value} {w : World} (h : F3 R x0 w) : Calls Pg 3 ⟨[x0]⟩ w R :=
  calls_of_den Try.func3 (by kernel_rfl) (by kernel_rfl) (F3_den R x0) h
/-! ### 4: orpimentlaw39_FilterQuick -/
def F4_j3 (R : ER) : WP :=
  cal Pg R 10 ⟨[]⟩ fun v1 =>
  R (.returned v1)
theorem F4_j3_ok (R : ER) (e : Env) : den Pg R (cd Try.f4 [1,1,1,1,1,1,1]) e (kont Pg R Try.f4) = (F4_j3 R) := by kernel_rfl
def F4_j6 (R : ER) (k1 : V5) (x1 x5 x69 x70 x71 : Value) : WP :=
  pv (ixS 1 x69 x71) fun v2 =>
  ld1 v2 fun v3 =>
  cal Pg R 17 ⟨[v3]⟩ fun v4 =>
  al Pg 29 fun v5 =>
  stN 16 v5 v4 fun _ =>
  pv (faO 1 v5) fun v6 =>
  st1 v6 (.bool true) fun _ =>
  drewV (
  ldN 16 v5 fun v7 =>
  mem fun w9 => valV Pg noR (Instr.buildSlice 43 1 ⟨[(0, v7)]⟩) fun v8 =>
  mem fun w11 => blt Pg noR .append ⟨[43,43]⟩ 43 ⟨[false, false]⟩ ⟨[v8, x1]⟩ fun v10 =>
  ldNS [w11, w9] 8 x5 fun v12 =>
  mem fun w14 => cal Pg noR 14 ⟨[v10, v12]⟩ fun v13 =>
  pv (extO 0 v13) fun v15 =>
  pv (extO 1 v13) fun v16 =>
  pv (unO .not v16) fun v17 =>
  gd v17 false (pv (some v15)) fun v18 =>
  gd v17 false (pv (some v3)) fun v19 =>
  gd v17 false (pv (bin .neq v18 v19)) fun v20 =>
  pv (pickO v17 (.bool true) v20) fun v21 =>
  cnd v21 (
   R (.returned (.bool false))) (
   pv (bin .add x71 (.int .i64 1)) fun v22 =>
  k1 x1 x5 x69 x70 v22))
theorem F4_j6_ok (R : ER) (k1 : V5) (e : Env) : den Pg R (cd Try.f4 [1,1,1,1,1,1,0,1,0,0,1,1]) e (setN (inB 0 (setN (kont Pg R Try.f4) (fun e => F4_j3 R))) (fun e => k1 (e 1) (e 5) (e 69) (e 70) (e 71))) = (F4_j6 R k1 (e 1) (e 5) (e 69) (e 70) (e 71)) := (by kernel_rfl)
def F4_b1 (R : ER) (k1 : V5) (x1 x5 x69 x70 x71 : Value) : WP :=
  pv (bin .lss x71 x70) fun v23 =>
  cnd v23 (
   F4_j6 R k1 x1 x5 x69 x70 x71) (
   F4_j3 R)
theorem F4_b1_ok (R : ER) (k1 : V5) (e : Env) : den Pg R (cd Try.f4 [1,1,1,1,1,1,0,1,0,0]) e (setN (inB 0 (setN (kont Pg R Try.f4) (fun e => F4_j3 R))) (fun e => k1 (e 1) (e 5) (e 69) (e 70) (e 71))) = (F4_b1 R k1 (e 1) (e 5) (e 69) (e 70) (e 71)) := (den_join Pg R 1 (cd Try.f4 [1,1,1,1,1,1,0,1,0,0]) (cd Try.f4 [1,1,1,1,1,1,0,1,0,0,1,1]) e (setN (inB 0 (setN (kont Pg R Try.f4) (fun e => F4_j3 R))) (fun e => k1 (e 1) (e 5) (e 69) (e 70) (e 71))) (fun e => F4_j6 R k1 (e 1) (e 5) (e 69) (e 70) (e 71)) _ (by kernel_rfl) (fun e => F4_j6_ok R k1 e) (by kernel_rfl))
noncomputable def F4_l1 (R : ER) (n : Nat) : V5 := Nat.rec (motive := fun _ => V5) (fun _ _ _ _ _ => fun _ => False) (fun _ ih => fun x1 x5 x69 x70 x71 => F4_b1 R ih x1 x5 x69 x70 x71) n
theorem F4_l1_succ (R : ER) (n : Nat) (x1 x5 x69 x70 x71 : Value) : F4_l1 R (n + 1) x1 x5 x69 x70 x71 = F4_b1 R (F4_l1 R n) x1 x5 x69 x70 x71 := rfl
theorem F4_l1_ok (R : ER) : ∀ (n : Nat) (e : Env), iterL (den Pg R (cd Try.f4 [1,1,1,1,1,1,0,1,0,0])) n e (inB 0 (setN (kont Pg R Try.f4) (fun e => F4_j3 R))) = F4_l1 R n (e 1) (e 5) (e 69) (e 70) (e 71) :=
  iterL_join (den Pg R (cd Try.f4 [1,1,1,1,1,1,0,1,0,0])) (inB 0 (setN (kont Pg R Try.f4) (fun e => F4_j3 R))) (fun n e => F4_l1 R n (e 1) (e 5) (e 69) (e 70) (e 71)) (fun _ => rfl) (fun n e => (F4_b1_ok R (F4_l1 R n) e).trans (F4_l1_succ R n (e 1) (e 5) (e 69) (e 70) (e 71)).symm)
def F4_j5 (R : ER) (x1 x5 x69 x70 x71 : Value) : WP :=
  exN fun n => F4_l1 R n x1 x5 x69 x70 x71
theorem F4_j5_ok (R : ER) (e : Env) : den Pg R (cd Try.f4 [1,1,1,1,1,1,0,1]) e (setN (kont Pg R Try.f4) (fun e => F4_j3 R)) = (F4_j5 R (e 1) (e 5) (e 69) (e 70) (e 71)) := (den_block Pg R (cd Try.f4 [1,1,1,1,1,1,0,1]) 0 (cd Try.f4 [1,1,1,1,1,1,0,1,0]) e (setN (kont Pg R Try.f4) (fun e => F4_j3 R)) _ (by kernel_rfl) (den_loop Pg R (cd Try.f4 [1,1,1,1,1,1,0,1,0]) (cd Try.f4 [1,1,1,1,1,1,0,1,0,0]) e (inB 0 (setN (kont Pg R Try.f4) (fun e => F4_j3 R))) (fun n e => F4_l1 R n (e 1) (e 5) (e 69) (e 70) (e 71)) _ (by kernel_rfl) (F4_l1_ok R) (by kernel_rfl)))
def F4_j4 (R : ER) (x1 x5 : Value) : WP :=
  valV Pg R (Instr.buildSlice 50 2 ⟨[(0, (.int .i64 1)), (1, (.int .i64 2))]⟩) fun v24 =>
  pv (lenS v24) fun v25 =>
  F4_j5 R x1 x5 v24 v25 (.int .i64 0)
theorem F4_j4_ok (R : ER) (e : Env) : den Pg R (cd Try.f4 [1,1,1,1,1,1,0]) e (setN (kont Pg R Try.f4) (fun e => F4_j3 R)) = (F4_j4 R (e 1) (e 5)) := (den_join Pg R 0 (cd Try.f4 [1,1,1,1,1,1,0]) (cd Try.f4 [1,1,1,1,1,1,0,1]) e (setN (kont Pg R Try.f4) (fun e => F4_j3 R)) (fun e => F4_j5 R (e 1) (e 5) (e 69) (e 70) (e 71)) _ (by kernel_rfl) (fun e => F4_j5_ok R e) (by kernel_rfl))
def F4_j2 (R : ER) (x1 x5 : Value) : WP :=
  F4_j4 R x1 x5
theorem F4_j2_ok (R : ER) (e : Env) : den Pg R (cd Try.f4 [1,1,1,1,1,1]) e (kont Pg R Try.f4) = (F4_j2 R (e 1) (e 5)) := (den_join Pg R 0 (cd Try.f4 [1,1,1,1,1,1]) (cd Try.f4 [1,1,1,1,1,1,1]) e (kont Pg R Try.f4) (fun e => F4_j3 R) _ (by kernel_rfl) (fun e => F4_j3_ok R e) (den_conv Pg R (pre 0 (cd Try.f4 [1,1,1,1,1,1])) (cd Try.f4 [1,1,1,1,1,1,0]) e (setN (kont Pg R Try.f4) (fun e => F4_j3 R)) _ (by kernel_rfl) (F4_j4_ok R e)))
def F4_j7 (R : ER) (x1 x3 x5 x7 x9 x10 : Value) : WP :=
  pv (unO .not x10) fun v26 =>
  gd v26 false (ldN 16 x3) fun v27 =>
  gd v26 false (ldN 8 x5) fun v28 =>
  gd v26 false (cal Pg R 16 ⟨[v27, v28]⟩) fun v29 =>
  gd v26 false (pv (unO .not v29)) fun v30 =>
  gd v26 false (pv (some v30)) fun v31 =>
  gd v31 true (pv (some x7)) fun v32 =>
  gd v31 true (pv (some x9)) fun v33 =>
  gd v31 true (pv (bin .neq v32 v33)) fun v34 =>
  gd v26 false (pv (pickO v31 v34 (.bool false))) fun v35 =>
  pv (pickO v26 (.bool true) v35) fun v36 =>
  gd v36 false (ldN 16 x3) fun v37 =>
  gd v36 false (ldN 8 x5) fun v38 =>
  gd v36 false (cal Pg R 16 ⟨[v37, v38]⟩) fun v39 =>
  gd v36 false (pv (some v39)) fun v40 =>
  gd v40 true (pv (some x9)) fun v41 =>
  gd v40 true (pv (faO 0 x3)) fun v42 =>
  gd v40 true (ld1 v42) fun v43 =>
  gd v40 true (pv (bin .neq v41 v43)) fun v44 =>
  gd v36 false (pv (pickO v40 v44 (.bool false))) fun v45 =>
  pv (pickO v36 (.bool true) v45) fun v46 =>
  cnd v46 (
   R (.returned (.bool false))) (
   F4_j2 R x1 x5)
theorem F4_j7_ok (R : ER) (e : Env) : den Pg R (cd Try.f4 [1,1,1,1,1,0]) e (setN (kont Pg R Try.f4) (fun e => F4_j2 R (e 1) (e 5))) = (F4_j7 R (e 1) (e 3) (e 5) (e 7) (e 9) (e 10)) := (by kernel_rfl)
def F4_j1 (R : ER) (x1 x3 x5 x7 : Value) : WP :=
  pv (faO 1 x3) fun v47 =>
  st1 v47 (.bool true) fun _ =>
  drewV (
  ldN 16 x3 fun v48 =>
  mem fun w50 => valV Pg noR (Instr.buildSlice 43 1 ⟨[(0, v48)]⟩) fun v49 =>
  mem fun w52 => blt Pg noR .append ⟨[43,43]⟩ 43 ⟨[false, false]⟩ ⟨[v49, x1]⟩ fun v51 =>
  ldNS [w52, w50] 8 x5 fun v53 =>
  mem fun w55 => cal Pg noR 14 ⟨[v51, v53]⟩ fun v54 =>
  pv (extO 0 v54) fun v56 =>
  pv (extO 1 v54) fun v57 =>
  F4_j7 R x1 x3 x5 x7 v56 v57)
theorem F4_j1_ok (R : ER) (e : Env) : den Pg R (cd Try.f4 [1,1,1]) e (kont Pg R Try.f4) = (F4_j1 R (e 1) (e 3) (e 5) (e 7)) := (den_join Pg R 2 (cd Try.f4 [1,1,1]) (cd Try.f4 [1,1,1,1,1,1]) e (kont Pg R Try.f4) (fun e => F4_j2 R (e 1) (e 5)) _ (by kernel_rfl) (fun e => F4_j2_ok R e) (den_join Pg R 1 (pre 2 (cd Try.f4 [1,1,1])) (cd Try.f4 [1,1,1,1,1,0]) e (setN (kont Pg R Try.f4) (fun e => F4_j2 R (e 1) (e 5))) (fun e => F4_j7 R (e 1) (e 3) (e 5) (e 7) (e 9) (e 10)) _ (by kernel_rfl) (fun e => F4_j7_ok R e) (by kernel_rfl)))
def F4_j8 (R : ER) (x1 x3 x5 x7 x8 : Value) : WP :=
  pv (lenS x1) fun v58 =>
  pv (bin .gtr v58 (.int .i64 20)) fun v59 =>
  gd v59 false (pv (some x8)) fun v60 =>
  gd v59 false (pv (unO .not v60)) fun v61 =>
  pv (pickO v59 (.bool true) v61) fun v62 =>
  gd v62 false (ldN 16 x3) fun v63 =>
  gd v62 false (cal Pg R 15 ⟨[v63]⟩) fun v64 =>
  gd v62 false (pv (bin .neq v64 (.int .i64 0))) fun v65 =>
  pv (pickO v62 (.bool true) v65) fun v66 =>
  cnd v66 (
   cal Pg R 10 ⟨[]⟩ fun v67 =>
   R (.returned v67)) (
   F4_j1 R x1 x3 x5 x7)
theorem F4_j8_ok (R : ER) (e : Env) : den Pg R (cd Try.f4 [1,1,0]) e (setN (kont Pg R Try.f4) (fun e => F4_j1 R (e 1) (e 3) (e 5) (e 7))) = (F4_j8 R (e 1) (e 3) (e 5) (e 7) (e 8)) := (by kernel_rfl)
def F4 (R : ER) (x0 x1 x2 : Value) : WP :=
  bx 29 x0 fun v68 =>
  bx 45 x2 fun v69 =>
  ldN 8 v69 fun v70 =>
  cal Pg R 14 ⟨[x1, v70]⟩ fun v71 =>
  pv (extO 0 v71) fun v72 =>
  pv (extO 1 v71) fun v73 =>
  F4_j8 R x1 v68 v69 v72 v73
theorem F4_den (R : ER) (x0 x1 x2 : Value) : den Pg R (cd Try.f4 []) (argsEnv [x0, x1, x2]) (kont Pg R Try.f4) = F4 R x0 x1 x2 :=
  have h : ∀ e, den Pg R (cd Try.f4 []) e (kont Pg R Try.f4) = F4 R (e 0) (e 1) (e 2) := fun e => (den_join Pg R 2 (cd Try.f4 []) (cd Try.f4 [1,1,1]) e (kont Pg R Try.f4) (fun e => F4_j1 R (e 1) (e 3) (e 5) (e 7)) _ (by kernel_rfl) (fun e => F4_j1_ok R e) (den_join Pg R 1 (pre 2 (cd Try.f4 [])) (cd Try.f4 [1,1,0]) e (setN (kont Pg R Try.f4) (fun e => F4_j1 R (e 1) (e 3) (e 5) (e 7))) (fun e => F4_j8 R (e 1) (e 3) (e 5) (e 7) (e 8)) _ (by kernel_rfl) (fun e => F4_j8_ok R e) (by kernel_rfl)))
  h _
theorem F4_calls {R : ER} {x0 x1 x2 : Value} {w : World} (h : F4 R x0 x1 x2 w) : Calls Pg 4 ⟨[x0, x1, x2]⟩ w R :=
  calls_of_den Try.func4 (by kernel_rfl) (by kernel_rfl) (F4_den R x0 x1 x2) h
/-! ### 5: orpimentlaw39_FilterOrder -/
def F5_j4 (R : ER) : WP :=
  cal Pg R 10 ⟨[]⟩ fun v1 =>
  R (.returned v1)
theorem F5_j4_ok (R : ER) (e : Env) : den Pg R (cd Try.f5 [1,1,1,1,1,1,1]) e (kont Pg R Try.f5) = (F5_j4 R) := by kernel_rfl
def F5_j7 (R : ER) (k1 : V5) (x0 x6 x44 x45 x46 : Value) : WP :=
  pv (ixS 8 x44 x46) fun v2 =>
  ldN 8 v2 fun v3 =>
  al Pg 45 fun v4 =>
  stN 8 v4 v3 fun _ =>
  ldN 8 v4 fun v5 =>
  cal Pg R 20 ⟨[x6, v5, (.int .i64 5)]⟩ fun v6 =>
  pv (extO 0 v6) fun v7 =>
  pv (extO 1 v6) fun v8 =>
  pv (extO 2 v6) fun v9 =>
  ldN 8 v4 fun v10 =>
  cal Pg R 14 ⟨[x0, v10]⟩ fun v11 =>
  pv (extO 0 v11) fun v12 =>
  pv (extO 1 v11) fun v13 =>
  pv (bin .eql v9 (.int .i64 0)) fun v14 =>
  pv (binB .neq v13 v14) fun v15 =>
  gd v15 false (pv (some v7)) fun v16 =>
  gd v15 false (pv (some v12)) fun v17 =>
  gd v15 false (pv (bin .neq v16 v17)) fun v18 =>
  pv (pickO v15 (.bool true) v18) fun v19 =>
  cnd v19 (
   R (.returned (.bool false))) (
   pv (bin .add x46 (.int .i64 1)) fun v20 =>
  k1 x0 x6 x44 x45 v20)
theorem F5_j7_ok (R : ER) (k1 : V5) (e : Env) : den Pg R (cd Try.f5 [1,1,1,1,1,1,0,1,0,0,1,1]) e (setN (inB 2 (setN (kont Pg R Try.f5) (fun e => F5_j4 R))) (fun e => k1 (e 0) (e 6) (e 44) (e 45) (e 46))) = (F5_j7 R k1 (e 0) (e 6) (e 44) (e 45) (e 46)) := (by kernel_rfl)
def F5_b1 (R : ER) (k1 : V5) (x0 x6 x44 x45 x46 : Value) : WP :=
  pv (bin .lss x46 x45) fun v21 =>
  cnd v21 (
   F5_j7 R k1 x0 x6 x44 x45 x46) (
   F5_j4 R)
theorem F5_b1_ok (R : ER) (k1 : V5) (e : Env) : den Pg R (cd Try.f5 [1,1,1,1,1,1,0,1,0,0]) e (setN (inB 2 (setN (kont Pg R Try.f5) (fun e => F5_j4 R))) (fun e => k1 (e 0) (e 6) (e 44) (e 45) (e 46))) = (F5_b1 R k1 (e 0) (e 6) (e 44) (e 45) (e 46)) := (den_join Pg R 1 (cd Try.f5 [1,1,1,1,1,1,0,1,0,0]) (cd Try.f5 [1,1,1,1,1,1,0,1,0,0,1,1]) e (setN (inB 2 (setN (kont Pg R Try.f5) (fun e => F5_j4 R))) (fun e => k1 (e 0) (e 6) (e 44) (e 45) (e 46))) (fun e => F5_j7 R k1 (e 0) (e 6) (e 44) (e 45) (e 46)) _ (by kernel_rfl) (fun e => F5_j7_ok R k1 e) (by kernel_rfl))
noncomputable def F5_l1 (R : ER) (n : Nat) : V5 := Nat.rec (motive := fun _ => V5) (fun _ _ _ _ _ => fun _ => False) (fun _ ih => fun x0 x6 x44 x45 x46 => F5_b1 R ih x0 x6 x44 x45 x46) n
theorem F5_l1_succ (R : ER) (n : Nat) (x0 x6 x44 x45 x46 : Value) : F5_l1 R (n + 1) x0 x6 x44 x45 x46 = F5_b1 R (F5_l1 R n) x0 x6 x44 x45 x46 := rfl
theorem F5_l1_ok (R : ER) : ∀ (n : Nat) (e : Env), iterL (den Pg R (cd Try.f5 [1,1,1,1,1,1,0,1,0,0])) n e (inB 2 (setN (kont Pg R Try.f5) (fun e => F5_j4 R))) = F5_l1 R n (e 0) (e 6) (e 44) (e 45) (e 46) :=
  iterL_join (den Pg R (cd Try.f5 [1,1,1,1,1,1,0,1,0,0])) (inB 2 (setN (kont Pg R Try.f5) (fun e => F5_j4 R))) (fun n e => F5_l1 R n (e 0) (e 6) (e 44) (e 45) (e 46)) (fun _ => rfl) (fun n e => (F5_b1_ok R (F5_l1 R n) e).trans (F5_l1_succ R n (e 0) (e 6) (e 44) (e 45) (e 46)).symm)
def F5_j6 (R : ER) (x0 x6 x44 x45 x46 : Value) : WP :=
  exN fun n => F5_l1 R n x0 x6 x44 x45 x46
theorem F5_j6_ok (R : ER) (e : Env) : den Pg R (cd Try.f5 [1,1,1,1,1,1,0,1]) e (setN (kont Pg R Try.f5) (fun e => F5_j4 R)) = (F5_j6 R (e 0) (e 6) (e 44) (e 45) (e 46)) := (den_block Pg R (cd Try.f5 [1,1,1,1,1,1,0,1]) 2 (cd Try.f5 [1,1,1,1,1,1,0,1,0]) e (setN (kont Pg R Try.f5) (fun e => F5_j4 R)) _ (by kernel_rfl) (den_loop Pg R (cd Try.f5 [1,1,1,1,1,1,0,1,0]) (cd Try.f5 [1,1,1,1,1,1,0,1,0,0]) e (inB 2 (setN (kont Pg R Try.f5) (fun e => F5_j4 R))) (fun n e => F5_l1 R n (e 0) (e 6) (e 44) (e 45) (e 46)) _ (by kernel_rfl) (F5_l1_ok R) (by kernel_rfl)))
def F5_j5 (R : ER) (x0 x1 x6 : Value) : WP :=
  pv (lenS x1) fun v22 =>
  F5_j6 R x0 x6 x1 v22 (.int .i64 0)
theorem F5_j5_ok (R : ER) (e : Env) : den Pg R (cd Try.f5 [1,1,1,1,1,1,0]) e (setN (kont Pg R Try.f5) (fun e => F5_j4 R)) = (F5_j5 R (e 0) (e 1) (e 6)) := (den_join Pg R 0 (cd Try.f5 [1,1,1,1,1,1,0]) (cd Try.f5 [1,1,1,1,1,1,0,1]) e (setN (kont Pg R Try.f5) (fun e => F5_j4 R)) (fun e => F5_j6 R (e 0) (e 6) (e 44) (e 45) (e 46)) _ (by kernel_rfl) (fun e => F5_j6_ok R e) (by kernel_rfl))
def F5_j3 (R : ER) (x0 x1 x6 : Value) : WP :=
  F5_j5 R x0 x1 x6
theorem F5_j3_ok (R : ER) (e : Env) : den Pg R (cd Try.f5 [1,1,1,1,1,1]) e (kont Pg R Try.f5) = (F5_j3 R (e 0) (e 1) (e 6)) := (den_join Pg R 0 (cd Try.f5 [1,1,1,1,1,1]) (cd Try.f5 [1,1,1,1,1,1,1]) e (kont Pg R Try.f5) (fun e => F5_j4 R) _ (by kernel_rfl) (fun e => F5_j4_ok R e) (den_conv Pg R (pre 0 (cd Try.f5 [1,1,1,1,1,1])) (cd Try.f5 [1,1,1,1,1,1,0]) e (setN (kont Pg R Try.f5) (fun e => F5_j4 R)) _ (by kernel_rfl) (F5_j5_ok R e)))
def F5_j2 (R : ER) (x0 x1 : Value) : WP :=
  cal Pg R 19 ⟨[x0, (.int .i64 1), (.int .i64 1)]⟩ fun v23 =>
  pv (extO 0 v23) fun v24 =>
  pv (extO 1 v23) fun v25 =>
  pv (bin .neq v25 (.int .i64 0)) fun v26 =>
  cnd v26 (
   cal Pg R 10 ⟨[]⟩ fun v27 =>
   R (.returned v27)) (
   F5_j3 R x0 x1 v24)
theorem F5_j2_ok (R : ER) (e : Env) : den Pg R (cd Try.f5 [1,1,1,1]) e (kont Pg R Try.f5) = (F5_j2 R (e 0) (e 1)) := (den_join Pg R 1 (cd Try.f5 [1,1,1,1]) (cd Try.f5 [1,1,1,1,1,1]) e (kont Pg R Try.f5) (fun e => F5_j3 R (e 0) (e 1) (e 6)) _ (by kernel_rfl) (fun e => F5_j3_ok R e) (by kernel_rfl))
def F5_b2 (R : ER) (k1 : V4) (x0 x1 x27 x28 : Value) : WP :=
  pv (bin .lss x28 x27) fun v28 =>
  cnd v28 (
   pv (ixS 16 x0 x28) fun v29 =>
  pv (faO 2 v29) fun v30 =>
  st1 v30 (.bool false) fun _ =>
  pv (bin .add x28 (.int .i64 1)) fun v31 =>
  k1 x0 x1 x27 v31) (
   F5_j2 R x0 x1)
theorem F5_b2_ok (R : ER) (k1 : V4) (e : Env) : den Pg R (cd Try.f5 [1,1,1,0,1,0,0]) e (setN (inB 0 (setN (kont Pg R Try.f5) (fun e => F5_j2 R (e 0) (e 1)))) (fun e => k1 (e 0) (e 1) (e 27) (e 28))) = (F5_b2 R k1 (e 0) (e 1) (e 27) (e 28)) := by kernel_rfl
noncomputable def F5_l2 (R : ER) (n : Nat) : V4 := Nat.rec (motive := fun _ => V4) (fun _ _ _ _ => fun _ => False) (fun _ ih => fun x0 x1 x27 x28 => F5_b2 R ih x0 x1 x27 x28) n
theorem F5_l2_succ (R : ER) (n : Nat) (x0 x1 x27 x28 : Value) : F5_l2 R (n + 1) x0 x1 x27 x28 = F5_b2 R (F5_l2 R n) x0 x1 x27 x28 := rfl
theorem F5_l2_ok (R : ER) : ∀ (n : Nat) (e : Env), iterL (den Pg R (cd Try.f5 [1,1,1,0,1,0,0])) n e (inB 0 (setN (kont Pg R Try.f5) (fun e => F5_j2 R (e 0) (e 1)))) = F5_l2 R n (e 0) (e 1) (e 27) (e 28) :=
  iterL_join (den Pg R (cd Try.f5 [1,1,1,0,1,0,0])) (inB 0 (setN (kont Pg R Try.f5) (fun e => F5_j2 R (e 0) (e 1)))) (fun n e => F5_l2 R n (e 0) (e 1) (e 27) (e 28)) (fun _ => rfl) (fun n e => (F5_b2_ok R (F5_l2 R n) e).trans (F5_l2_succ R n (e 0) (e 1) (e 27) (e 28)).symm)
def F5_j9 (R : ER) (x0 x1 x27 x28 : Value) : WP :=
  exN fun n => F5_l2 R n x0 x1 x27 x28
theorem F5_j9_ok (R : ER) (e : Env) : den Pg R (cd Try.f5 [1,1,1,0,1]) e (setN (kont Pg R Try.f5) (fun e => F5_j2 R (e 0) (e 1))) = (F5_j9 R (e 0) (e 1) (e 27) (e 28)) := (den_block Pg R (cd Try.f5 [1,1,1,0,1]) 0 (cd Try.f5 [1,1,1,0,1,0]) e (setN (kont Pg R Try.f5) (fun e => F5_j2 R (e 0) (e 1))) _ (by kernel_rfl) (den_loop Pg R (cd Try.f5 [1,1,1,0,1,0]) (cd Try.f5 [1,1,1,0,1,0,0]) e (inB 0 (setN (kont Pg R Try.f5) (fun e => F5_j2 R (e 0) (e 1)))) (fun n e => F5_l2 R n (e 0) (e 1) (e 27) (e 28)) _ (by kernel_rfl) (F5_l2_ok R) (by kernel_rfl)))
def F5_j8 (R : ER) (x0 x1 : Value) : WP :=
  pv (lenS x0) fun v32 =>
  F5_j9 R x0 x1 v32 (.int .i64 0)
theorem F5_j8_ok (R : ER) (e : Env) : den Pg R (cd Try.f5 [1,1,1,0]) e (setN (kont Pg R Try.f5) (fun e => F5_j2 R (e 0) (e 1))) = (F5_j8 R (e 0) (e 1)) := (den_join Pg R 0 (cd Try.f5 [1,1,1,0]) (cd Try.f5 [1,1,1,0,1]) e (setN (kont Pg R Try.f5) (fun e => F5_j2 R (e 0) (e 1))) (fun e => F5_j9 R (e 0) (e 1) (e 27) (e 28)) _ (by kernel_rfl) (fun e => F5_j9_ok R e) (by kernel_rfl))
def F5_j1 (R : ER) (x0 x1 : Value) : WP :=
  cal Pg R 18 ⟨[x0]⟩ fun v33 =>
  F5_j8 R v33 x1
theorem F5_j1_ok (R : ER) (e : Env) : den Pg R (cd Try.f5 [1,1]) e (kont Pg R Try.f5) = (F5_j1 R (e 0) (e 1)) := (den_join Pg R 1 (cd Try.f5 [1,1]) (cd Try.f5 [1,1,1,1]) e (kont Pg R Try.f5) (fun e => F5_j2 R (e 0) (e 1)) _ (by kernel_rfl) (fun e => F5_j2_ok R e) (den_join Pg R 0 (pre 1 (cd Try.f5 [1,1])) (cd Try.f5 [1,1,1,0]) e (setN (kont Pg R Try.f5) (fun e => F5_j2 R (e 0) (e 1))) (fun e => F5_j8 R (e 0) (e 1)) _ (by kernel_rfl) (fun e => F5_j8_ok R e) (by kernel_rfl)))
def F5 (R : ER) (x0 x1 : Value) : WP :=
  pv (lenS x0) fun v34 =>
  pv (bin .gtr v34 (.int .i64 20)) fun v35 =>
  gd v35 false (pv (some x1)) fun v36 =>
  gd v35 false (pv (lenS v36)) fun v37 =>
  gd v35 false (pv (bin .gtr v37 (.int .i64 30))) fun v38 =>
  pv (pickO v35 (.bool true) v38) fun v39 =>
  cnd v39 (
   cal Pg R 10 ⟨[]⟩ fun v40 =>
   R (.returned v40)) (
   F5_j1 R x0 x1)
theorem F5_den (R : ER) (x0 x1 : Value) : den Pg R (cd Try.f5 []) (argsEnv [x0, x1]) (kont Pg R Try.f5) = F5 R x0 x1 :=
  have h : ∀ e, den Pg R (cd Try.f5 []) e (kont Pg R Try.f5) = F5 R (e 0) (e 1) := fun e => (den_join Pg R 1 (cd Try.f5 []) (cd Try.f5 [1,1]) e (kont Pg R Try.f5) (fun e => F5_j1 R (e 0) (e 1)) _ (by kernel_rfl) (fun e => F5_j1_ok R e) (by kernel_rfl))
  h _
theorem F5_calls {R : ER} {x0 x1 : Value} {w : World} (h : F5 R x0 x1 w) : Calls Pg 5 ⟨[x0, x1]⟩ w R :=
  calls_of_den Try.func5 (by kernel_rfl) (by kernel_rfl) (F5_den R x0 x1) h
/-! ### 6: orpimentlaw39_FilterReversed -/
def F6_j2 (R : ER) (x3 x5 x6 : Value) : WP :=
  cal Pg R 21 ⟨[x6]⟩ fun v1 =>
  ldN 8 x3 fun v2 =>
  cal Pg R 14 ⟨[x5, v2]⟩ fun v3 =>
  pv (extO 0 v3) fun v4 =>
  pv (extO 1 v3) fun v5 =>
  ldN 8 x3 fun v6 =>
  cal Pg R 14 ⟨[x6, v6]⟩ fun v7 =>
  pv (extO 0 v7) fun v8 =>
  pv (extO 1 v7) fun v9 =>
  pv (binB .eql v5 v9) fun v10 =>
  gd v10 true (pv (some v4)) fun v11 =>
  gd v10 true (pv (some v8)) fun v12 =>
  gd v10 true (pv (bin .eql v11 v12)) fun v13 =>
  pv (pickO v10 v13 (.bool false)) fun v14 =>
  gd v14 true (cal Pg R 10 ⟨[]⟩) fun v15 =>
  pv (pickO v14 v15 (.bool false)) fun v16 =>
  R (.returned v16)
theorem F6_j2_ok (R : ER) (e : Env) : den Pg R (cd Try.f6 [1,1,1,1]) e (kont Pg R Try.f6) = (F6_j2 R (e 3) (e 5) (e 6)) := by kernel_rfl
def F6_j5 (R : ER) (k1 : V6) (x3 x5 x6 x17 x18 x19 : Value) : WP :=
  pv (ixS 16 x17 x19) fun v17 =>
  ldN 16 v17 fun v18 =>
  al Pg 29 fun v19 =>
  stN 16 v19 v18 fun _ =>
  pv (faO 1 v19) fun v20 =>
  st1 v20 (.bool false) fun _ =>
  ldN 16 v19 fun v21 =>
  valV Pg R (Instr.buildSlice 43 1 ⟨[(0, v21)]⟩) fun v22 =>
  blt Pg R .append ⟨[43,43]⟩ 43 ⟨[false, false]⟩ ⟨[x5, v22]⟩ fun v23 =>
  pv (faO 1 v19) fun v24 =>
  st1 v24 (.bool true) fun _ =>
  ldN 16 v19 fun v25 =>
  valV Pg R (Instr.buildSlice 43 1 ⟨[(0, v25)]⟩) fun v26 =>
  blt Pg R .append ⟨[43,43]⟩ 43 ⟨[false, false]⟩ ⟨[x6, v26]⟩ fun v27 =>
  pv (bin .add x19 (.int .i64 1)) fun v28 =>
  k1 x3 v23 v27 x17 x18 v28
theorem F6_j5_ok (R : ER) (k1 : V6) (e : Env) : den Pg R (cd Try.f6 [1,1,1,0,1,0,0,1,1]) e (setN (inB 0 (setN (kont Pg R Try.f6) (fun e => F6_j2 R (e 3) (e 5) (e 6)))) (fun e => k1 (e 3) (e 5) (e 6) (e 17) (e 18) (e 19))) = (F6_j5 R k1 (e 3) (e 5) (e 6) (e 17) (e 18) (e 19)) := by kernel_rfl
def F6_b1 (R : ER) (k1 : V6) (x3 x5 x6 x17 x18 x19 : Value) : WP :=
  pv (bin .lss x19 x18) fun v29 =>
  cnd v29 (
   F6_j5 R k1 x3 x5 x6 x17 x18 x19) (
   F6_j2 R x3 x5 x6)
theorem F6_b1_ok (R : ER) (k1 : V6) (e : Env) : den Pg R (cd Try.f6 [1,1,1,0,1,0,0]) e (setN (inB 0 (setN (kont Pg R Try.f6) (fun e => F6_j2 R (e 3) (e 5) (e 6)))) (fun e => k1 (e 3) (e 5) (e 6) (e 17) (e 18) (e 19))) = (F6_b1 R k1 (e 3) (e 5) (e 6) (e 17) (e 18) (e 19)) := (den_join Pg R 1 (cd Try.f6 [1,1,1,0,1,0,0]) (cd Try.f6 [1,1,1,0,1,0,0,1,1]) e (setN (inB 0 (setN (kont Pg R Try.f6) (fun e => F6_j2 R (e 3) (e 5) (e 6)))) (fun e => k1 (e 3) (e 5) (e 6) (e 17) (e 18) (e 19))) (fun e => F6_j5 R k1 (e 3) (e 5) (e 6) (e 17) (e 18) (e 19)) _ (by kernel_rfl) (fun e => F6_j5_ok R k1 e) (by kernel_rfl))
noncomputable def F6_l1 (R : ER) (n : Nat) : V6 := Nat.rec (motive := fun _ => V6) (fun _ _ _ _ _ _ => fun _ => False) (fun _ ih => fun x3 x5 x6 x17 x18 x19 => F6_b1 R ih x3 x5 x6 x17 x18 x19) n
theorem F6_l1_succ (R : ER) (n : Nat) (x3 x5 x6 x17 x18 x19 : Value) : F6_l1 R (n + 1) x3 x5 x6 x17 x18 x19 = F6_b1 R (F6_l1 R n) x3 x5 x6 x17 x18 x19 := rfl
theorem F6_l1_ok (R : ER) : ∀ (n : Nat) (e : Env), iterL (den Pg R (cd Try.f6 [1,1,1,0,1,0,0])) n e (inB 0 (setN (kont Pg R Try.f6) (fun e => F6_j2 R (e 3) (e 5) (e 6)))) = F6_l1 R n (e 3) (e 5) (e 6) (e 17) (e 18) (e 19) :=
  iterL_join (den Pg R (cd Try.f6 [1,1,1,0,1,0,0])) (inB 0 (setN (kont Pg R Try.f6) (fun e => F6_j2 R (e 3) (e 5) (e 6)))) (fun n e => F6_l1 R n (e 3) (e 5) (e 6) (e 17) (e 18) (e 19)) (fun _ => rfl) (fun n e => (F6_b1_ok R (F6_l1 R n) e).trans (F6_l1_succ R n (e 3) (e 5) (e 6) (e 17) (e 18) (e 19)).symm)
def F6_j4 (R : ER) (x3 x5 x6 x17 x18 x19 : Value) : WP :=
  exN fun n => F6_l1 R n x3 x5 x6 x17 x18 x19
theorem F6_j4_ok (R : ER) (e : Env) : den Pg R (cd Try.f6 [1,1,1,0,1]) e (setN (kont Pg R Try.f6) (fun e => F6_j2 R (e 3) (e 5) (e 6))) = (F6_j4 R (e 3) (e 5) (e 6) (e 17) (e 18) (e 19)) := (den_block Pg R (cd Try.f6 [1,1,1,0,1]) 0 (cd Try.f6 [1,1,1,0,1,0]) e (setN (kont Pg R Try.f6) (fun e => F6_j2 R (e 3) (e 5) (e 6))) _ (by kernel_rfl) (den_loop Pg R (cd Try.f6 [1,1,1,0,1,0]) (cd Try.f6 [1,1,1,0,1,0,0]) e (inB 0 (setN (kont Pg R Try.f6) (fun e => F6_j2 R (e 3) (e 5) (e 6)))) (fun n e => F6_l1 R n (e 3) (e 5) (e 6) (e 17) (e 18) (e 19)) _ (by kernel_rfl) (F6_l1_ok R) (by kernel_rfl)))
def F6_j3 (R : ER) (x0 x3 x5 x6 : Value) : WP :=
  pv (lenS x0) fun v30 =>
  F6_j4 R x3 x5 x6 x0 v30 (.int .i64 0)
theorem F6_j3_ok (R : ER) (e : Env) : den Pg R (cd Try.f6 [1,1,1,0]) e (setN (kont Pg R Try.f6) (fun e => F6_j2 R (e 3) (e 5) (e 6))) = (F6_j3 R (e 0) (e 3) (e 5) (e 6)) := (den_join Pg R 0 (cd Try.f6 [1,1,1,0]) (cd Try.f6 [1,1,1,0,1]) e (setN (kont Pg R Try.f6) (fun e => F6_j2 R (e 3) (e 5) (e 6))) (fun e => F6_j4 R (e 3) (e 5) (e 6) (e 17) (e 18) (e 19)) _ (by kernel_rfl) (fun e => F6_j4_ok R e) (by kernel_rfl))
def F6_j1 (R : ER) (x0 x3 : Value) : WP :=
  F6_j3 R x0 x3 (.slice none 0 0) (.slice none 0 0)
theorem F6_j1_ok (R : ER) (e : Env) : den Pg R (cd Try.f6 [1,1]) e (kont Pg R Try.f6) = (F6_j1 R (e 0) (e 3)) := (den_join Pg R 1 (cd Try.f6 [1,1]) (cd Try.f6 [1,1,1,1]) e (kont Pg R Try.f6) (fun e => F6_j2 R (e 3) (e 5) (e 6)) _ (by kernel_rfl) (fun e => F6_j2_ok R e) (den_join Pg R 0 (pre 1 (cd Try.f6 [1,1])) (cd Try.f6 [1,1,1,0]) e (setN (kont Pg R Try.f6) (fun e => F6_j2 R (e 3) (e 5) (e 6))) (fun e => F6_j3 R (e 0) (e 3) (e 5) (e 6)) _ (by kernel_rfl) (fun e => F6_j3_ok R e) (by kernel_rfl)))
def F6 (R : ER) (x0 x1 : Value) : WP :=
  bx 45 x1 fun v31 =>
  pv (lenS x0) fun v32 =>
  pv (bin .gtr v32 (.int .i64 20)) fun v33 =>
  cnd v33 (
   cal Pg R 10 ⟨[]⟩ fun v34 =>
   R (.returned v34)) (
   F6_j1 R x0 v31)
theorem F6_den (R : ER) (x0 x1 : Value) : den Pg R (cd Try.f6 []) (argsEnv [x0, x1]) (kont Pg R Try.f6) = F6 R x0 x1 :=
  have h : ∀ e, den Pg R (cd Try.f6 []) e (kont Pg R Try.f6) = F6 R (e 0) (e 1) := fun e => (den_join Pg R 1 (cd Try.f6 []) (cd Try.f6 [1,1]) e (kont Pg R Try.f6) (fun e => F6_j1 R (e 0) (e 3)) _ (by kernel_rfl) (fun e => F6_j1_ok R e) (by kernel_rfl))
  h _
theorem F6_calls {R : ER} {x0 x1 : Value} {w : World} (h : F6 R x0 x1 w) : Calls Pg 6 ⟨[x0, x1]⟩ w R :=
  calls_of_den Try.func6 (by kernel_rfl) (by kernel_rfl) (F6_den R x0 x1) h
/-! ### 7: orpimentlaw39_FilterAnswers -/
def F7_j3 (R : ER) (x2 x8 x13 : Value) : WP :=
  ldN 8 x13 fun v1 =>
  pv (cvI .i64 x2) fun v2 =>
  pv (bin .mul (.int .i64 2) v2) fun v3 =>
  pv (bin .add (.int .i64 11) v3) fun v4 =>
  cal Pg R 20 ⟨[x8, v1, v4]⟩ fun v5 =>
  pv (extO 0 v5) fun v6 =>
  pv (extO 1 v5) fun v7 =>
  pv (extO 2 v5) fun v8 =>
  pv (bin .eql v6 (.int .i64 2)) fun v9 =>
  gd v9 true (pv (some v7)) fun v10 =>
  gd v9 true (pv (bin .eql v10 (.int .i64 1))) fun v11 =>
  pv (pickO v9 v11 (.bool false)) fun v12 =>
  gd v12 true (pv (some v8)) fun v13 =>
  gd v12 true (pv (bin .eql v13 (.int .i64 0))) fun v14 =>
  pv (pickO v12 v14 (.bool false)) fun v15 =>
  gd v15 true (pv (some x8)) fun v16 =>
  gd v15 true (cal Pg R 22 ⟨[v16]⟩) fun v17 =>
  gd v15 true (pv (lenS v17)) fun v18 =>
  gd v15 true (pv (bin .eql v18 (.int .i64 0))) fun v19 =>
  pv (pickO v15 v19 (.bool false)) fun v20 =>
  gd v20 true (cal Pg R 10 ⟨[]⟩) fun v21 =>
  pv (pickO v20 v21 (.bool false)) fun v22 =>
  R (.returned v22)
theorem F7_j3_ok (R : ER) (e : Env) : den Pg R (cd Try.f7 [1,1,1,1,1,1,1,1,1,1,1,1]) e (kont Pg R Try.f7) = (F7_j3 R (e 2) (e 8) (e 13)) := by kernel_rfl
def F7_j2 (R : ER) (x1 x2 x3 x8 : Value) : WP :=
  ldN 8 x3 fun v23 =>
  al Pg 45 fun v24 =>
  stN 8 v24 v23 fun _ =>
  pv (cvI .i64 x1) fun v25 =>
  pv (faO 0 v24) fun v26 =>
  st1 v26 (.int .i64 1) fun _ =>
  pv (faO 7 v24) fun v27 =>
  st1 v27 (.bool false) fun _ =>
  pv (faO 1 v24) fun v28 =>
  st1 v28 v25 fun _ =>
  drewV (
  pv (faO 3 x3) fun v29 =>
  ld1 v29 fun v30 =>
  pv (faO 2 x3) fun v31 =>
  ld1 v31 fun v32 =>
  pv (faO 6 x3) fun v33 =>
  ld1 v33 fun v34 =>
  pv (faO 5 x3) fun v35 =>
  ld1 v35 fun v36 =>
  pv (faO 2 v24) fun v37 =>
  mem fun w39 => st1 v37 v30 fun v38 =>
  rd1 v35 v36 <|
  rd1 v33 v34 <|
  rd1 v31 v32 <|
  pv (faO 3 v24) fun v40 =>
  mem fun w42 => st1 v40 v32 fun v41 =>
  rd1 v35 v36 <|
  rd1 v33 v34 <|
  pv (faO 5 v24) fun v43 =>
  mem fun w45 => st1 v43 v34 fun v44 =>
  rd1 v35 v36 <|
  pv (faO 6 v24) fun v46 =>
  mem fun w48 => st1 v46 v36 fun v47 =>
  ldN 8 v24 fun v49 =>
  pv (cvI .i64 x2) fun v50 =>
  pv (bin .add (.int .i64 10) v50) fun v51 =>
  cal Pg R 20 ⟨[x8, v49, v51]⟩ fun v52 =>
  pv (extO 0 v52) fun v53 =>
  pv (extO 1 v52) fun v54 =>
  pv (extO 2 v52) fun v55 =>
  pv (bin .neq v53 (.int .i64 1)) fun v56 =>
  gd v56 false (pv (some v54)) fun v57 =>
  gd v56 false (pv (bin .neq v57 (.int .i64 (-1)))) fun v58 =>
  pv (pickO v56 (.bool true) v58) fun v59 =>
  gd v59 false (pv (some v55)) fun v60 =>
  gd v59 false (pv (bin .neq v60 (.int .i64 0))) fun v61 =>
  pv (pickO v59 (.bool true) v61) fun v62 =>
  cnd v62 (
   R (.returned (.bool false))) (
   F7_j3 R x2 x8 v24))
theorem F7_j2_ok (R : ER) (e : Env) : den Pg R (cd Try.f7 [1,1,1,1,1,1,1]) e (kont Pg R Try.f7) = (F7_j2 R (e 1) (e 2) (e 3) (e 8)) := (den_join Pg R 4 (cd Try.f7 [1,1,1,1,1,1,1]) (cd Try.f7 [1,1,1,1,1,1,1,1,1,1,1,1]) e (kont Pg R Try.f7) (fun e => F7_j3 R (e 2) (e 8) (e 13)) _ (by kernel_rfl) (fun e => F7_j3_ok R e) (by kernel_rfl))
def F7_j6 (R : ER) (x1 x2 x3 x8 x10 x11 : Value) : WP :=
  pv (bin .neq x10 (.int .i64 1)) fun v63 =>
  gd v63 false (pv (some x11)) fun v64 =>
  gd v63 false (pv (bin .neq v64 (.int .i64 0))) fun v65 =>
  pv (pickO v63 (.bool true) v65) fun v66 =>
  gd v66 false (pv (some x8)) fun v67 =>
  gd v66 false (cal Pg R 22 ⟨[v67]⟩) fun v68 =>
  gd v66 false (pv (lenS v68)) fun v69 =>
  gd v66 false (pv (bin .neq v69 (.int .i64 1))) fun v70 =>
  pv (pickO v66 (.bool true) v70) fun v71 =>
  cnd v71 (
   R (.returned (.bool false))) (
   F7_j2 R x1 x2 x3 x8)
theorem F7_j6_ok (R : ER) (e : Env) : den Pg R (cd Try.f7 [1,1,1,1,1,1,0,1,1,1]) e (setN (kont Pg R Try.f7) (fun e => F7_j2 R (e 1) (e 2) (e 3) (e 8))) = (F7_j6 R (e 1) (e 2) (e 3) (e 8) (e 10) (e 11)) := (by kernel_rfl)
def F7_j5 (R : ER) (x1 x2 x3 x8 x10 x11 x46 : Value) : WP :=
  cnd x46 (cal Pg R 10 ⟨[]⟩ fun v72 =>
  R (.returned v72)) (F7_j6 R x1 x2 x3 x8 x10 x11)
theorem F7_j5_ok (R : ER) (e : Env) : den Pg R (cd Try.f7 [1,1,1,1,1,1,0,1,1]) e (setN (kont Pg R Try.f7) (fun e => F7_j2 R (e 1) (e 2) (e 3) (e 8))) = (F7_j5 R (e 1) (e 2) (e 3) (e 8) (e 10) (e 11) (e 46)) := (den_if Pg R (cd Try.f7 [1,1,1,1,1,1,0,1,1]) (cd Try.f7 [1,1,1,1,1,1,0,1,1,0]) (cd Try.f7 [1,1,1,1,1,1,0,1,1,1]) e (setN (kont Pg R Try.f7) (fun e => F7_j2 R (e 1) (e 2) (e 3) (e 8))) _ (F7_j6 R (e 1) (e 2) (e 3) (e 8) (e 10) (e 11)) _ (by kernel_rfl) rfl (F7_j6_ok R e) (by kernel_rfl))
def F7_j4 (R : ER) (x1 x2 x3 x8 : Value) : WP :=
  ldN 8 x3 fun v73 =>
  cal Pg R 20 ⟨[x8, v73, (.int .i64 10)]⟩ fun v74 =>
  pv (extO 0 v74) fun v75 =>
  pv (extO 1 v74) fun v76 =>
  pv (extO 2 v74) fun v77 =>
  pv (bin .neq v77 (.int .i64 0)) fun v78 =>
  F7_j5 R x1 x2 x3 x8 v75 v76 v78
theorem F7_j4_ok (R : ER) (e : Env) : den Pg R (cd Try.f7 [1,1,1,1,1,1,0]) e (setN (kont Pg R Try.f7) (fun e => F7_j2 R (e 1) (e 2) (e 3) (e 8))) = (F7_j4 R (e 1) (e 2) (e 3) (e 8)) := (den_join Pg R 1 (cd Try.f7 [1,1,1,1,1,1,0]) (cd Try.f7 [1,1,1,1,1,1,0,1,1]) e (setN (kont Pg R Try.f7) (fun e => F7_j2 R (e 1) (e 2) (e 3) (e 8))) (fun e => F7_j5 R (e 1) (e 2) (e 3) (e 8) (e 10) (e 11) (e 46)) _ (by kernel_rfl) (fun e => F7_j5_ok R e) (by kernel_rfl))
def F7_j1 (R : ER) (x1 x2 x3 x8 : Value) : WP :=
  pv (faO 0 x3) fun v79 =>
  st1 v79 (.int .i64 2) fun _ =>
  pv (faO 7 x3) fun v80 =>
  st1 v80 (.bool true) fun _ =>
  F7_j4 R x1 x2 x3 x8
theorem F7_j1_ok (R : ER) (e : Env) : den Pg R (cd Try.f7 [1,1,1,1,1]) e (kont Pg R Try.f7) = (F7_j1 R (e 1) (e 2) (e 3) (e 8)) := (den_join Pg R 1 (cd Try.f7 [1,1,1,1,1]) (cd Try.f7 [1,1,1,1,1,1,1]) e (kont Pg R Try.f7) (fun e => F7_j2 R (e 1) (e 2) (e 3) (e 8)) _ (by kernel_rfl) (fun e => F7_j2_ok R e) (den_join Pg R 0 (pre 1 (cd Try.f7 [1,1,1,1,1])) (cd Try.f7 [1,1,1,1,1,1,0]) e (setN (kont Pg R Try.f7) (fun e => F7_j2 R (e 1) (e 2) (e 3) (e 8))) (fun e => F7_j4 R (e 1) (e 2) (e 3) (e 8)) _ (by kernel_rfl) (fun e => F7_j4_ok R e) (by kernel_rfl)))
def F7 (R : ER) (x0 x1 x2 : Value) : WP :=
  bx 45 x0 fun v81 =>
  cal Pg R 17 ⟨[(.int .i64 1)]⟩ fun v82 =>
  al Pg 29 fun v83 =>
  stN 16 v83 v82 fun _ =>
  pv (faO 2 v83) fun v84 =>
  st1 v84 (.bool true) fun _ =>
  pv (faO 1 v83) fun v85 =>
  st1 v85 (.bool true) fun _ =>
  pv (faO 3 v83) fun v86 =>
  st1 v86 (.int .i64 2) fun _ =>
  drewV (
  ldN 16 v83 fun v87 =>
  mem fun w89 => cal Pg noR 17 ⟨[(.int .i64 2)]⟩ fun v88 =>
  rdN 16 v83 v87 <|
  mem fun w91 => valV Pg noR (Instr.buildSlice 43 2 ⟨[(0, v87), (1, v88)]⟩) fun v90 =>
  pv (cvI .i64 x2) fun v92 =>
  pv (bin .add (.int .i64 1) v92) fun v93 =>
  mem fun w95 => cal Pg noR 19 ⟨[v90, (.int .i64 5), v93]⟩ fun v94 =>
  pv (extO 0 v94) fun v96 =>
  pv (extO 1 v94) fun v97 =>
  pv (bin .neq v97 (.int .i64 0)) fun v98 =>
  gd v98 false (pv (some v96)) fun v99 =>
  gd v98 false (pv (eqNilP v99)) fun v100 =>
  pv (pickO v98 (.bool true) v100) fun v101 =>
  cnd v101 (
   R (.returned (.bool false))) (
   F7_j1 R x1 x2 v81 v96))
theorem F7_den (R : ER) (x0 x1 x2 : Value) : den Pg R (cd Try.f7 []) (argsEnv [x0, x1, x2]) (kont Pg R Try.f7) = F7 R x0 x1 x2 :=
  have h : ∀ e, den Pg R (cd Try.f7 []) e (kont Pg R Try.f7) = F7 R (e 0) (e 1) (e 2) := fun e => (den_join Pg R 4 (cd Try.f7 []) (cd Try.f7 [1,1,1,1,1]) e (kont Pg R Try.f7) (fun e => F7_j1 R (e 1) (e 2) (e 3) (e 8)) _ (by kernel_rfl) (fun e => F7_j1_ok R e) (by kernel_rfl))
  h _
theorem F7_calls {R : ER} {x0 x1 x2 : Value} {w : World} (h : F7 R x0 x1 x2 w) : Calls Pg 7 ⟨[x0, x1, x2]⟩ w R :=
  calls_of_den Try.func7 (by kernel_rfl) (by kernel_rfl) (F7_den R x0 x1 x2) h
/-! ### 8: orpimentlaw39_FilterEquivalent -/
def F8_j2 (R : ER) (x0 x1 x2 x7 : Value) : WP :=
  cal Pg R 24 ⟨[x0, x1, x2]⟩ fun v1 =>
  pv (extO 0 v1) fun v2 =>
  pv (extO 1 v1) fun v3 =>
  cal Pg R 26 ⟨[x0]⟩ fun v4 =>
  cal Pg R 26 ⟨[x1]⟩ fun v5 =>
  cal Pg R 25 ⟨[v4, v5, x7]⟩ fun v6 =>
  pv (extO 0 v6) fun v7 =>
  pv (extO 1 v6) fun v8 =>
  pv (bin .eql v2 v7) fun v9 =>
  gd v9 true (pv (some v3)) fun v10 =>
  gd v9 true (pv (some v8)) fun v11 =>
  gd v9 true (pv (bin .eql v10 v11)) fun v12 =>
  pv (pickO v9 v12 (.bool false)) fun v13 =>
  gd v13 true (cal Pg R 10 ⟨[]⟩) fun v14 =>
  pv (pickO v13 v14 (.bool false)) fun v15 =>
  R (.returned v15)
theorem F8_j2_ok (R : ER) (e : Env) : den Pg R (cd Try.f8 [1,1,1,1]) e (kont Pg R Try.f8) = (F8_j2 R (e 0) (e 1) (e 2) (e 7)) := by kernel_rfl
def F8_j5 (R : ER) (k1 : V7) (x0 x1 x2 x7 x29 x30 x31 : Value) : WP :=
  pv (ixS 8 x29 x31) fun v16 =>
  ldN 8 v16 fun v17 =>
  al Pg 45 fun v18 =>
  stN 8 v18 v17 fun _ =>
  ldN 8 v18 fun v19 =>
  cal Pg R 23 ⟨[v19]⟩ fun v20 =>
  valV Pg R (Instr.buildSlice 66 1 ⟨[(0, v20)]⟩) fun v21 =>
  blt Pg R .append ⟨[66,66]⟩ 66 ⟨[false, false]⟩ ⟨[x7, v21]⟩ fun v22 =>
  pv (bin .add x31 (.int .i64 1)) fun v23 =>
  k1 x0 x1 x2 v22 x29 x30 v23
theorem F8_j5_ok (R : ER) (k1 : V7) (e : Env) : den Pg R (cd Try.f8 [1,1,1,0,1,0,0,1,1]) e (setN (inB 0 (setN (kont Pg R Try.f8) (fun e => F8_j2 R (e 0) (e 1) (e 2) (e 7)))) (fun e => k1 (e 0) (e 1) (e 2) (e 7) (e 29) (e 30) (e 31))) = (F8_j5 R k1 (e 0) (e 1) (e 2) (e 7) (e 29) (e 30) (e 31)) := by kernel_rfl
def F8_b1 (R : ER) (k1 : V7) (x0 x1 x2 x7 x29 x30 x31 : Value) : WP :=
  pv (bin .lss x31 x30) fun v24 =>
  cnd v24 (
   F8_j5 R k1 x0 x1 x2 x7 x29 x30 x31) (
   F8_j2 R x0 x1 x2 x7)
theorem F8_b1_ok (R : ER) (k1 : V7) (e : Env) : den Pg R (cd Try.f8 [1,1,1,0,1,0,0]) e (setN (inB 0 (setN (kont Pg R Try.f8) (fun e => F8_j2 R (e 0) (e 1) (e 2) (e 7)))) (fun e => k1 (e 0) (e 1) (e 2) (e 7) (e 29) (e 30) (e 31))) = (F8_b1 R k1 (e 0) (e 1) (e 2) (e 7) (e 29) (e 30) (e 31)) := (den_join Pg R 1 (cd Try.f8 [1,1,1,0,1,0,0]) (cd Try.f8 [1,1,1,0,1,0,0,1,1]) e (setN (inB 0 (setN (kont Pg R Try.f8) (fun e => F8_j2 R (e 0) (e 1) (e 2) (e 7)))) (fun e => k1 (e 0) (e 1) (e 2) (e 7) (e 29) (e 30) (e 31))) (fun e => F8_j5 R k1 (e 0) (e 1) (e 2) (e 7) (e 29) (e 30) (e 31)) _ (by kernel_rfl) (fun e => F8_j5_ok R k1 e) (by kernel_rfl))
noncomputable def F8_l1 (R : ER) (n : Nat) : V7 := Nat.rec (motive := fun _ => V7) (fun _ _ _ _ _ _ _ => fun _ => False) (fun _ ih => fun x0 x1 x2 x7 x29 x30 x31 => F8_b1 R ih x0 x1 x2 x7 x29 x30 x31) n
theorem F8_l1_succ (R : ER) (n : Nat) (x0 x1 x2 x7 x29 x30 x31 : Value) : F8_l1 R (n + 1) x0 x1 x2 x7 x29 x30 x31 = F8_b1 R (F8_l1 R n) x0 x1 x2 x7 x29 x30 x31 := rfl
theorem F8_l1_ok (R : ER) : ∀ (n : Nat) (e : Env), iterL (den Pg R (cd Try.f8 [1,1,1,0,1,0,0])) n e (inB 0 (setN (kont Pg R Try.f8) (fun e => F8_j2 R (e 0) (e 1) (e 2) (e 7)))) = F8_l1 R n (e 0) (e 1) (e 2) (e 7) (e 29) (e 30) (e 31) :=
  iterL_join (den Pg R (cd Try.f8 [1,1,1,0,1,0,0])) (inB 0 (setN (kont Pg R Try.f8) (fun e => F8_j2 R (e 0) (e 1) (e 2) (e 7)))) (fun n e => F8_l1 R n (e 0) (e 1) (e 2) (e 7) (e 29) (e 30) (e 31)) (fun _ => rfl) (fun n e => (F8_b1_ok R (F8_l1 R n) e).trans (F8_l1_succ R n (e 0) (e 1) (e 2) (e 7) (e 29) (e 30) (e 31)).symm)
def F8_j4 (R : ER) (x0 x1 x2 x7 x29 x30 x31 : Value) : WP :=
  exN fun n => F8_l1 R n x0 x1 x2 x7 x29 x30 x31
theorem F8_j4_ok (R : ER) (e : Env) : den Pg R (cd Try.f8 [1,1,1,0,1]) e (setN (kont Pg R Try.f8) (fun e => F8_j2 R (e 0) (e 1) (e 2) (e 7))) = (F8_j4 R (e 0) (e 1) (e 2) (e 7) (e 29) (e 30) (e 31)) := (den_block Pg R (cd Try.f8 [1,1,1,0,1]) 0 (cd Try.f8 [1,1,1,0,1,0]) e (setN (kont Pg R Try.f8) (fun e => F8_j2 R (e 0) (e 1) (e 2) (e 7))) _ (by kernel_rfl) (den_loop Pg R (cd Try.f8 [1,1,1,0,1,0]) (cd Try.f8 [1,1,1,0,1,0,0]) e (inB 0 (setN (kont Pg R Try.f8) (fun e => F8_j2 R (e 0) (e 1) (e 2) (e 7)))) (fun n e => F8_l1 R n (e 0) (e 1) (e 2) (e 7) (e 29) (e 30) (e 31)) _ (by kernel_rfl) (F8_l1_ok R) (by kernel_rfl)))
def F8_j3 (R : ER) (x0 x1 x2 x7 : Value) : WP :=
  pv (lenS x2) fun v25 =>
  F8_j4 R x0 x1 x2 x7 x2 v25 (.int .i64 0)
theorem F8_j3_ok (R : ER) (e : Env) : den Pg R (cd Try.f8 [1,1,1,0]) e (setN (kont Pg R Try.f8) (fun e => F8_j2 R (e 0) (e 1) (e 2) (e 7))) = (F8_j3 R (e 0) (e 1) (e 2) (e 7)) := (den_join Pg R 0 (cd Try.f8 [1,1,1,0]) (cd Try.f8 [1,1,1,0,1]) e (setN (kont Pg R Try.f8) (fun e => F8_j2 R (e 0) (e 1) (e 2) (e 7))) (fun e => F8_j4 R (e 0) (e 1) (e 2) (e 7) (e 29) (e 30) (e 31)) _ (by kernel_rfl) (fun e => F8_j4_ok R e) (by kernel_rfl))
def F8_j1 (R : ER) (x0 x1 x2 : Value) : WP :=
  valV Pg R (Instr.buildSlice 66 0 ⟨[]⟩) fun v26 =>
  F8_j3 R x0 x1 x2 v26
theorem F8_j1_ok (R : ER) (e : Env) : den Pg R (cd Try.f8 [1,1]) e (kont Pg R Try.f8) = (F8_j1 R (e 0) (e 1) (e 2)) := (den_join Pg R 1 (cd Try.f8 [1,1]) (cd Try.f8 [1,1,1,1]) e (kont Pg R Try.f8) (fun e => F8_j2 R (e 0) (e 1) (e 2) (e 7)) _ (by kernel_rfl) (fun e => F8_j2_ok R e) (den_join Pg R 0 (pre 1 (cd Try.f8 [1,1])) (cd Try.f8 [1,1,1,0]) e (setN (kont Pg R Try.f8) (fun e => F8_j2 R (e 0) (e 1) (e 2) (e 7))) (fun e => F8_j3 R (e 0) (e 1) (e 2) (e 7)) _ (by kernel_rfl) (fun e => F8_j3_ok R e) (by kernel_rfl)))
def F8_j6 (R : ER) (x0 x1 x2 : Value) : WP :=
  pv (lenS x0) fun v27 =>
  pv (bin .gtr v27 (.int .i64 20)) fun v28 =>
  gd v28 false (pv (some x1)) fun v29 =>
  gd v28 false (pv (lenS v29)) fun v30 =>
  gd v28 false (pv (bin .gtr v30 (.int .i64 20))) fun v31 =>
  pv (pickO v28 (.bool true) v31) fun v32 =>
  gd v32 false (pv (some x2)) fun v33 =>
  gd v32 false (pv (lenS v33)) fun v34 =>
  gd v32 false (pv (bin .gtr v34 (.int .i64 40))) fun v35 =>
  pv (pickO v32 (.bool true) v35) fun v36 =>
  cnd v36 (
   cal Pg R 10 ⟨[]⟩ fun v37 =>
   R (.returned v37)) (
   F8_j1 R x0 x1 x2)
theorem F8_j6_ok (R : ER) (e : Env) : den Pg R (cd Try.f8 [1,0]) e (setN (kont Pg R Try.f8) (fun e => F8_j1 R (e 0) (e 1) (e 2))) = (F8_j6 R (e 0) (e 1) (e 2)) := (by kernel_rfl)
def F8 (R : ER) (x0 x1 x2 : Value) : WP :=
  F8_j6 R x0 x1 x2
theorem F8_den (R : ER) (x0 x1 x2 : Value) : den Pg R (cd Try.f8 []) (argsEnv [x0, x1, x2]) (kont Pg R Try.f8) = F8 R x0 x1 x2 :=
  have h : ∀ e, den Pg R (cd Try.f8 []) e (kont Pg R Try.f8) = F8 R (e 0) (e 1) (e 2) := fun e => (den_join Pg R 1 (cd Try.f8 []) (cd Try.f8 [1,1]) e (kont Pg R Try.f8) (fun e => F8_j1 R (e 0) (e 1) (e 2)) _ (by kernel_rfl) (fun e => F8_j1_ok R e) (den_join Pg R 0 (pre 1 (cd Try.f8 [])) (cd Try.f8 [1,0]) e (setN (kont Pg R Try.f8) (fun e => F8_j1 R (e 0) (e 1) (e 2))) (fun e => F8_j6 R (e 0) (e 1) (e 2)) _ (by kernel_rfl) (fun e => F8_j6_ok R e) (by kernel_rfl)))
  h _
theorem F8_calls {R : ER} {x0 x1 x2 : Value} {w : World} (h : F8 R x0 x1 x2 w) : Calls Pg 8 ⟨[x0, x1, x2]⟩ w R :=
  calls_of_den Try.func8 (by kernel_rfl) (by kernel_rfl) (F8_den R x0 x1 x2) h
/-! ### 9: orpimentlaw39_FilterDecides -/
def F9_j4 (R : ER) : WP :=
  cal Pg R 10 ⟨[]⟩ fun v1 =>
  R (.returned v1)
theorem F9_j4_ok (R : ER) (e : Env) : den Pg R (cd Try.f9 [1,1,1,1,1,1,1]) e (kont Pg R Try.f9) = (F9_j4 R) := by kernel_rfl
def F9_j8 (R : ER) (k1 : V6) (x4 x7 x9 x63 x64 x65 : Value) : WP :=
  pv (bin .add x65 (.int .i64 1)) fun v2 =>
  k1 x4 x7 x9 x63 x64 v2
theorem F9_j8_ok (R : ER) (k1 : V6) (e : Env) : den Pg R (cd Try.f9 [1,1,1,1,1,1,0,1,0,0,1,1,1]) e (setN (inB 0 (setN (kont Pg R Try.f9) (fun e => F9_j4 R))) (fun e => k1 (e 4) (e 7) (e 9) (e 63) (e 64) (e 65))) = (F9_j8 R k1 (e 4) (e 7) (e 9) (e 63) (e 64) (e 65)) := by kernel_rfl
def F9_j10 (R : ER) (k1 : V6) (x4 x7 x9 x63 x64 x65 : Value) : WP :=
  drewV (
  mem fun w4 => cal Pg noR 33 ⟨[x7]⟩ fun v3 =>
  pv (nilO x9) fun v5 =>
  pv (faO 4 v5) fun v6 =>
  ld1S [w4] v6 fun v7 =>
  mem fun w9 => cal Pg noR 32 ⟨[v3, v7]⟩ fun v8 =>
  pv (unO .not v8) fun v10 =>
  gd v10 false (pv (some x7)) fun v11 =>
  mem fun w13 => gd v10 false (cal Pg noR 22 ⟨[v11]⟩) fun v12 =>
  gd v10 false (pv (some x9)) fun v14 =>
  gd v10 false (pv (nilO v14)) fun v15 =>
  gd v10 false (pv (faO 3 v15)) fun v16 =>
  gd v10 false (ld1S [w13] v16) fun v17 =>
  mem fun w19 => gd v10 false (cal Pg noR 34 ⟨[v12, v17, (.func (.func 35) ⟨[]⟩ ⟨[]⟩)]⟩) fun v18 =>
  gd v10 false (pv (unO .not v18)) fun v20 =>
  pv (pickO v10 (.bool true) v20) fun v21 =>
  gd v21 false (pv (some x7)) fun v22 =>
  mem fun w24 => gd v21 false (cal Pg noR 22 ⟨[v22]⟩) fun v23 =>
  gd v21 false (pv (lenS v23)) fun v25 =>
  gd v21 false (pv (faO 0 x4)) fun v26 =>
  gd v21 false (ld1S [w24] v26) fun v27 =>
  gd v21 false (pv (bin .gtr v25 v27)) fun v28 =>
  pv (pickO v21 (.bool true) v28) fun v29 =>
  cnd v29 (
   R (.returned (.bool false))) (
   F9_j8 R k1 x4 x7 x9 x63 x64 x65))
theorem F9_j10_ok (R : ER) (k1 : V6) (e : Env) : den Pg R (cd Try.f9 [1,1,1,1,1,1,0,1,0,0,1,1,0,0,1,1,1]) e (inB 1 (setN (setN (inB 0 (setN (kont Pg R Try.f9) (fun e => F9_j4 R))) (fun e => k1 (e 4) (e 7) (e 9) (e 63) (e 64) (e 65))) (fun e => F9_j8 R k1 (e 4) (e 7) (e 9) (e 63) (e 64) (e 65)))) = (F9_j10 R k1 (e 4) (e 7) (e 9) (e 63) (e 64) (e 65)) := (by kernel_rfl)
def F9_j13 (R : ER) (k1 : V6) (x4 x7 x9 x12 x13 x63 x64 x65 : Value) : WP :=
  pv (faO 4 x13) fun v30 =>
  ld1 v30 fun v31 =>
  pv (faO 2 x13) fun v32 =>
  ld1 v32 fun v33 =>
  pv (faO 3 x13) fun v34 =>
  ld1 v34 fun v35 =>
  pv (faO 5 x13) fun v36 =>
  ld1 v36 fun v37 =>
  pv (faO 6 x13) fun v38 =>
  ld1 v38 fun v39 =>
  pv (faO 8 x12) fun v40 =>
  ld1 v40 fun v41 =>
  pv (bldO [.int .i64 0, .int .u32 0, .int .u32 0, .int .i64 0, .int .i64 0, .int .i64 0] [(0,1, v31), (1,1, v33), (2,1, v35), (3,1, v37), (4,1, v39), (5,1, v41)]) fun v42 =>
  al Pg 84 fun v43 =>
  stN 6 v43 v42 fun _ =>
  drewV (
  ldN 6 v43 fun v44 =>
  mem fun w46 => cal Pg noR 28 ⟨[x7, v44]⟩ fun v45 =>
  ldNS [w46] 6 v43 fun v47 =>
  mem fun w49 => cal Pg noR 30 ⟨[v47]⟩ fun v48 =>
  mem fun w51 => cal Pg noR 29 ⟨[x9, v48]⟩ fun v50 =>
  pv (binB .neq v45 v50) fun v52 =>
  cnd v52 (
   R (.returned (.bool false))) (
   F9_j10 R k1 x4 x7 x9 x63 x64 x65))
theorem F9_j13_ok (R : ER) (k1 : V6) (e : Env) : den Pg R (cd Try.f9 [1,1,1,1,1,1,0,1,0,0,1,1,0,0,1,1,0,1,0]) e (setN (inB 1 (setN (setN (inB 0 (setN (kont Pg R Try.f9) (fun e => F9_j4 R))) (fun e => k1 (e 4) (e 7) (e 9) (e 63) (e 64) (e 65))) (fun e => F9_j8 R k1 (e 4) (e 7) (e 9) (e 63) (e 64) (e 65)))) (fun e => F9_j10 R k1 (e 4) (e 7) (e 9) (e 63) (e 64) (e 65))) = (F9_j13 R k1 (e 4) (e 7) (e 9) (e 12) (e 13) (e 63) (e 64) (e 65)) := (by kernel_rfl)
def F9_j14 (R : ER) (k1 : V6) (x4 x7 x9 x12 x13 x63 x64 x65 : Value) : WP :=
  ldN 8 x13 fun v53 =>
  pv (faO 8 x12) fun v54 =>
  ld1 v54 fun v55 =>
  cal Pg R 20 ⟨[x7, v53, v55]⟩ fun v56 =>
  pv (extO 0 v56) fun v57 =>
  pv (extO 1 v56) fun v58 =>
  pv (extO 2 v56) fun v59 =>
  drewV (
  ldN 8 x13 fun v60 =>
  mem fun w62 => cal Pg noR 23 ⟨[v60]⟩ fun v61 =>
  pv (faO 8 x12) fun v63 =>
  ld1S [w62] v63 fun v64 =>
  mem fun w66 => cal Pg noR 31 ⟨[x9, v61, v64]⟩ fun v65 =>
  pv (extO 0 v65) fun v67 =>
  pv (extO 1 v65) fun v68 =>
  pv (extO 2 v65) fun v69 =>
  pv (bin .neq v57 v67) fun v70 =>
  gd v70 false (pv (some v58)) fun v71 =>
  gd v70 false (pv (some v68)) fun v72 =>
  gd v70 false (pv (bin .neq v71 v72)) fun v73 =>
  pv (pickO v70 (.bool true) v73) fun v74 =>
  gd v74 false (pv (some v59)) fun v75 =>
  gd v74 false (pv (some v69)) fun v76 =>
  gd v74 false (pv (bin .neq v75 v76)) fun v77 =>
  pv (pickO v74 (.bool true) v77) fun v78 =>
  cnd v78 (
   R (.returned (.bool false))) (
   F9_j10 R k1 x4 x7 x9 x63 x64 x65))
theorem F9_j14_ok (R : ER) (k1 : V6) (e : Env) : den Pg R (cd Try.f9 [1,1,1,1,1,1,0,1,0,0,1,1,0,0,1,1,0,1,1]) e (setN (inB 1 (setN (setN (inB 0 (setN (kont Pg R Try.f9) (fun e => F9_j4 R))) (fun e => k1 (e 4) (e 7) (e 9) (e 63) (e 64) (e 65))) (fun e => F9_j8 R k1 (e 4) (e 7) (e 9) (e 63) (e 64) (e 65)))) (fun e => F9_j10 R k1 (e 4) (e 7) (e 9) (e 63) (e 64) (e 65))) = (F9_j14 R k1 (e 4) (e 7) (e 9) (e 12) (e 13) (e 63) (e 64) (e 65)) := (by kernel_rfl)
def F9_j12 (R : ER) (k1 : V6) (x4 x7 x9 x12 x13 x63 x64 x65 x72 : Value) : WP :=
  cnd x72 (F9_j13 R k1 x4 x7 x9 x12 x13 x63 x64 x65) (F9_j14 R k1 x4 x7 x9 x12 x13 x63 x64 x65)
theorem F9_j12_ok (R : ER) (k1 : V6) (e : Env) : den Pg R (cd Try.f9 [1,1,1,1,1,1,0,1,0,0,1,1,0,0,1,1,0,1]) e (setN (inB 1 (setN (setN (inB 0 (setN (kont Pg R Try.f9) (fun e => F9_j4 R))) (fun e => k1 (e 4) (e 7) (e 9) (e 63) (e 64) (e 65))) (fun e => F9_j8 R k1 (e 4) (e 7) (e 9) (e 63) (e 64) (e 65)))) (fun e => F9_j10 R k1 (e 4) (e 7) (e 9) (e 63) (e 64) (e 65))) = (F9_j12 R k1 (e 4) (e 7) (e 9) (e 12) (e 13) (e 63) (e 64) (e 65) (e 72)) := (den_if Pg R (cd Try.f9 [1,1,1,1,1,1,0,1,0,0,1,1,0,0,1,1,0,1]) (cd Try.f9 [1,1,1,1,1,1,0,1,0,0,1,1,0,0,1,1,0,1,0]) (cd Try.f9 [1,1,1,1,1,1,0,1,0,0,1,1,0,0,1,1,0,1,1]) e (setN (inB 1 (setN (setN (inB 0 (setN (kont Pg R Try.f9) (fun e => F9_j4 R))) (fun e => k1 (e 4) (e 7) (e 9) (e 63) (e 64) (e 65))) (fun e => F9_j8 R k1 (e 4) (e 7) (e 9) (e 63) (e 64) (e 65)))) (fun e => F9_j10 R k1 (e 4) (e 7) (e 9) (e 63) (e 64) (e 65))) (F9_j13 R k1 (e 4) (e 7) (e 9) (e 12) (e 13) (e 63) (e 64) (e 65)) (F9_j14 R k1 (e 4) (e 7) (e 9) (e 12) (e 13) (e 63) (e 64) (e 65)) _ (by kernel_rfl) (F9_j13_ok R k1 e) (F9_j14_ok R k1 e) (by kernel_rfl))
def F9_j11 (R : ER) (k1 : V6) (x4 x7 x9 x12 x13 x63 x64 x65 : Value) : WP :=
  pv (faO 9 x12) fun v79 =>
  ld1 v79 fun v80 =>
  F9_j12 R k1 x4 x7 x9 x12 x13 x63 x64 x65 v80
theorem F9_j11_ok (R : ER) (k1 : V6) (e : Env) : den Pg R (cd Try.f9 [1,1,1,1,1,1,0,1,0,0,1,1,0,0,1,1,0]) e (setN (inB 1 (setN (setN (inB 0 (setN (kont Pg R Try.f9) (fun e => F9_j4 R))) (fun e => k1 (e 4) (e 7) (e 9) (e 63) (e 64) (e 65))) (fun e => F9_j8 R k1 (e 4) (e 7) (e 9) (e 63) (e 64) (e 65)))) (fun e => F9_j10 R k1 (e 4) (e 7) (e 9) (e 63) (e 64) (e 65))) = (F9_j11 R k1 (e 4) (e 7) (e 9) (e 12) (e 13) (e 63) (e 64) (e 65)) := (den_join Pg R 0 (cd Try.f9 [1,1,1,1,1,1,0,1,0,0,1,1,0,0,1,1,0]) (cd Try.f9 [1,1,1,1,1,1,0,1,0,0,1,1,0,0,1,1,0,1]) e (setN (inB 1 (setN (setN (inB 0 (setN (kont Pg R Try.f9) (fun e => F9_j4 R))) (fun e => k1 (e 4) (e 7) (e 9) (e 63) (e 64) (e 65))) (fun e => F9_j8 R k1 (e 4) (e 7) (e 9) (e 63) (e 64) (e 65)))) (fun e => F9_j10 R k1 (e 4) (e 7) (e 9) (e 63) (e 64) (e 65))) (fun e => F9_j12 R k1 (e 4) (e 7) (e 9) (e 12) (e 13) (e 63) (e 64) (e 65) (e 72)) _ (by kernel_rfl) (fun e => F9_j12_ok R k1 e) (by kernel_rfl))
def F9_j9 (R : ER) (k1 : V6) (x4 x7 x9 x63 x64 x65 : Value) : WP :=
  pv (ixS 10 x63 x65) fun v81 =>
  ldN 10 v81 fun v82 =>
  al Pg 82 fun v83 =>
  stN 10 v83 v82 fun _ =>
  pv (faO 0 v83) fun v84 =>
  ldN 8 v84 fun v85 =>
  al Pg 45 fun v86 =>
  stN 8 v86 v85 fun _ =>
  F9_j11 R k1 x4 x7 x9 v83 v86 x63 x64 x65
theorem F9_j9_ok (R : ER) (k1 : V6) (e : Env) : den Pg R (cd Try.f9 [1,1,1,1,1,1,0,1,0,0,1,1,0]) e (setN (setN (inB 0 (setN (kont Pg R Try.f9) (fun e => F9_j4 R))) (fun e => k1 (e 4) (e 7) (e 9) (e 63) (e 64) (e 65))) (fun e => F9_j8 R k1 (e 4) (e 7) (e 9) (e 63) (e 64) (e 65))) = (F9_j9 R k1 (e 4) (e 7) (e 9) (e 63) (e 64) (e 65)) := (den_block Pg R (cd Try.f9 [1,1,1,1,1,1,0,1,0,0,1,1,0]) 1 (cd Try.f9 [1,1,1,1,1,1,0,1,0,0,1,1,0,0]) e (setN (setN (inB 0 (setN (kont Pg R Try.f9) (fun e => F9_j4 R))) (fun e => k1 (e 4) (e 7) (e 9) (e 63) (e 64) (e 65))) (fun e => F9_j8 R k1 (e 4) (e 7) (e 9) (e 63) (e 64) (e 65))) _ (by kernel_rfl) (den_join Pg R 2 (cd Try.f9 [1,1,1,1,1,1,0,1,0,0,1,1,0,0]) (cd Try.f9 [1,1,1,1,1,1,0,1,0,0,1,1,0,0,1,1,1]) e (inB 1 (setN (setN (inB 0 (setN (kont Pg R Try.f9) (fun e => F9_j4 R))) (fun e => k1 (e 4) (e 7) (e 9) (e 63) (e 64) (e 65))) (fun e => F9_j8 R k1 (e 4) (e 7) (e 9) (e 63) (e 64) (e 65)))) (fun e => F9_j10 R k1 (e 4) (e 7) (e 9) (e 63) (e 64) (e 65)) _ (by kernel_rfl) (fun e => F9_j10_ok R k1 e) (den_join Pg R 1 (pre 2 (cd Try.f9 [1,1,1,1,1,1,0,1,0,0,1,1,0,0])) (cd Try.f9 [1,1,1,1,1,1,0,1,0,0,1,1,0,0,1,1,0]) e (setN (inB 1 (setN (setN (inB 0 (setN (kont Pg R Try.f9) (fun e => F9_j4 R))) (fun e => k1 (e 4) (e 7) (e 9) (e 63) (e 64) (e 65))) (fun e => F9_j8 R k1 (e 4) (e 7) (e 9) (e 63) (e 64) (e 65)))) (fun e => F9_j10 R k1 (e 4) (e 7) (e 9) (e 63) (e 64) (e 65))) (fun e => F9_j11 R k1 (e 4) (e 7) (e 9) (e 12) (e 13) (e 63) (e 64) (e 65)) _ (by kernel_rfl) (fun e => F9_j11_ok R k1 e) (by kernel_rfl))))
def F9_j7 (R : ER) (k1 : V6) (x4 x7 x9 x63 x64 x65 : Value) : WP :=
  F9_j9 R k1 x4 x7 x9 x63 x64 x65
theorem F9_j7_ok (R : ER) (k1 : V6) (e : Env) : den Pg R (cd Try.f9 [1,1,1,1,1,1,0,1,0,0,1,1]) e (setN (inB 0 (setN (kont Pg R Try.f9) (fun e => F9_j4 R))) (fun e => k1 (e 4) (e 7) (e 9) (e 63) (e 64) (e 65))) = (F9_j7 R k1 (e 4) (e 7) (e 9) (e 63) (e 64) (e 65)) := (den_join Pg R 0 (cd Try.f9 [1,1,1,1,1,1,0,1,0,0,1,1]) (cd Try.f9 [1,1,1,1,1,1,0,1,0,0,1,1,1]) e (setN (inB 0 (setN (kont Pg R Try.f9) (fun e => F9_j4 R))) (fun e => k1 (e 4) (e 7) (e 9) (e 63) (e 64) (e 65))) (fun e => F9_j8 R k1 (e 4) (e 7) (e 9) (e 63) (e 64) (e 65)) _ (by kernel_rfl) (fun e => F9_j8_ok R k1 e) (den_conv Pg R (pre 0 (cd Try.f9 [1,1,1,1,1,1,0,1,0,0,1,1])) (cd Try.f9 [1,1,1,1,1,1,0,1,0,0,1,1,0]) e (setN (setN (inB 0 (setN (kont Pg R Try.f9) (fun e => F9_j4 R))) (fun e => k1 (e 4) (e 7) (e 9) (e 63) (e 64) (e 65))) (fun e => F9_j8 R k1 (e 4) (e 7) (e 9) (e 63) (e 64) (e 65))) _ (by kernel_rfl) (F9_j9_ok R k1 e)))
def F9_b1 (R : ER) (k1 : V6) (x4 x7 x9 x63 x64 x65 : Value) : WP :=
  pv (bin .lss x65 x64) fun v87 =>
  cnd v87 (
   F9_j7 R k1 x4 x7 x9 x63 x64 x65) (
   F9_j4 R)
theorem F9_b1_ok (R : ER) (k1 : V6) (e : Env) : den Pg R (cd Try.f9 [1,1,1,1,1,1,0,1,0,0]) e (setN (inB 0 (setN (kont Pg R Try.f9) (fun e => F9_j4 R))) (fun e => k1 (e 4) (e 7) (e 9) (e 63) (e 64) (e 65))) = (F9_b1 R k1 (e 4) (e 7) (e 9) (e 63) (e 64) (e 65)) := (den_join Pg R 1 (cd Try.f9 [1,1,1,1,1,1,0,1,0,0]) (cd Try.f9 [1,1,1,1,1,1,0,1,0,0,1,1]) e (setN (inB 0 (setN (kont Pg R Try.f9) (fun e => F9_j4 R))) (fun e => k1 (e 4) (e 7) (e 9) (e 63) (e 64) (e 65))) (fun e => F9_j7 R k1 (e 4) (e 7) (e 9) (e 63) (e 64) (e 65)) _ (by kernel_rfl) (fun e => F9_j7_ok R k1 e) (by kernel_rfl))
noncomputable def F9_l1 (R : ER) (n : Nat) : V6 := Nat.rec (motive := fun _ => V6) (fun _ _ _ _ _ _ => fun _ => False) (fun _ ih => fun x4 x7 x9 x63 x64 x65 => F9_b1 R ih x4 x7 x9 x63 x64 x65) n
theorem F9_l1_succ (R : ER) (n : Nat) (x4 x7 x9 x63 x64 x65 : Value) : F9_l1 R (n + 1) x4 x7 x9 x63 x64 x65 = F9_b1 R (F9_l1 R n) x4 x7 x9 x63 x64 x65 := rfl
theorem F9_l1_ok (R : ER) : ∀ (n : Nat) (e : Env), iterL (den Pg R (cd Try.f9 [1,1,1,1,1,1,0,1,0,0])) n e (inB 0 (setN (kont Pg R Try.f9) (fun e => F9_j4 R))) = F9_l1 R n (e 4) (e 7) (e 9) (e 63) (e 64) (e 65) :=
  iterL_join (den Pg R (cd Try.f9 [1,1,1,1,1,1,0,1,0,0])) (inB 0 (setN (kont Pg R Try.f9) (fun e => F9_j4 R))) (fun n e => F9_l1 R n (e 4) (e 7) (e 9) (e 63) (e 64) (e 65)) (fun _ => rfl) (fun n e => (F9_b1_ok R (F9_l1 R n) e).trans (F9_l1_succ R n (e 4) (e 7) (e 9) (e 63) (e 64) (e 65)).symm)
def F9_j6 (R : ER) (x4 x7 x9 x63 x64 x65 : Value) : WP :=
  exN fun n => F9_l1 R n x4 x7 x9 x63 x64 x65
theorem F9_j6_ok (R : ER) (e : Env) : den Pg R (cd Try.f9 [1,1,1,1,1,1,0,1]) e (setN (kont Pg R Try.f9) (fun e => F9_j4 R)) = (F9_j6 R (e 4) (e 7) (e 9) (e 63) (e 64) (e 65)) := (den_block Pg R (cd Try.f9 [1,1,1,1,1,1,0,1]) 0 (cd Try.f9 [1,1,1,1,1,1,0,1,0]) e (setN (kont Pg R Try.f9) (fun e => F9_j4 R)) _ (by kernel_rfl) (den_loop Pg R (cd Try.f9 [1,1,1,1,1,1,0,1,0]) (cd Try.f9 [1,1,1,1,1,1,0,1,0,0]) e (inB 0 (setN (kont Pg R Try.f9) (fun e => F9_j4 R))) (fun n e => F9_l1 R n (e 4) (e 7) (e 9) (e 63) (e 64) (e 65)) _ (by kernel_rfl) (F9_l1_ok R) (by kernel_rfl)))
def F9_j5 (R : ER) (x2 x4 x7 x9 : Value) : WP :=
  pv (lenS x2) fun v88 =>
  F9_j6 R x4 x7 x9 x2 v88 (.int .i64 0)
theorem F9_j5_ok (R : ER) (e : Env) : den Pg R (cd Try.f9 [1,1,1,1,1,1,0]) e (setN (kont Pg R Try.f9) (fun e => F9_j4 R)) = (F9_j5 R (e 2) (e 4) (e 7) (e 9)) := (den_join Pg R 0 (cd Try.f9 [1,1,1,1,1,1,0]) (cd Try.f9 [1,1,1,1,1,1,0,1]) e (setN (kont Pg R Try.f9) (fun e => F9_j4 R)) (fun e => F9_j6 R (e 4) (e 7) (e 9) (e 63) (e 64) (e 65)) _ (by kernel_rfl) (fun e => F9_j6_ok R e) (by kernel_rfl))
def F9_j3 (R : ER) (x2 x4 x7 x9 : Value) : WP :=
  F9_j5 R x2 x4 x7 x9
theorem F9_j3_ok (R : ER) (e : Env) : den Pg R (cd Try.f9 [1,1,1,1,1,1]) e (kont Pg R Try.f9) = (F9_j3 R (e 2) (e 4) (e 7) (e 9)) := (den_join Pg R 0 (cd Try.f9 [1,1,1,1,1,1]) (cd Try.f9 [1,1,1,1,1,1,1]) e (kont Pg R Try.f9) (fun e => F9_j4 R) _ (by kernel_rfl) (fun e => F9_j4_ok R e) (den_conv Pg R (pre 0 (cd Try.f9 [1,1,1,1,1,1])) (cd Try.f9 [1,1,1,1,1,1,0]) e (setN (kont Pg R Try.f9) (fun e => F9_j4 R)) _ (by kernel_rfl) (F9_j5_ok R e)))
def F9_j2 (R : ER) (x2 x4 x7 x8 x9 : Value) : WP :=
  pv (bin .neq x8 (.int .i64 0)) fun v89 =>
  cnd v89 (
   cal Pg R 10 ⟨[]⟩ fun v90 =>
   R (.returned v90)) (
   F9_j3 R x2 x4 x7 x9)
theorem F9_j2_ok (R : ER) (e : Env) : den Pg R (cd Try.f9 [1,1,1,1,1]) e (kont Pg R Try.f9) = (F9_j2 R (e 2) (e 4) (e 7) (e 8) (e 9)) := (den_join Pg R 0 (cd Try.f9 [1,1,1,1,1]) (cd Try.f9 [1,1,1,1,1,1]) e (kont Pg R Try.f9) (fun e => F9_j3 R (e 2) (e 4) (e 7) (e 9)) _ (by kernel_rfl) (fun e => F9_j3_ok R e) (by kernel_rfl))
def F9_j1 (R : ER) (x0 x2 x4 : Value) : WP :=
  drewV (
  mem fun w92 => cal Pg noR 18 ⟨[x0]⟩ fun v91 =>
  pv (faO 0 x4) fun v93 =>
  ld1S [w92] v93 fun v94 =>
  pv (faO 1 x4) fun v95 =>
  ld1S [w92] v95 fun v96 =>
  mem fun w98 => cal Pg noR 19 ⟨[v91, v94, v96]⟩ fun v97 =>
  pv (extO 0 v97) fun v99 =>
  pv (extO 1 v97) fun v100 =>
  drewV (
  mem fun w102 => cal Pg noR 26 ⟨[x0]⟩ fun v101 =>
  pv (faO 0 x4) fun v103 =>
  ld1S [w102] v103 fun v104 =>
  pv (faO 1 x4) fun v105 =>
  ld1S [w102] v105 fun v106 =>
  mem fun w108 => cal Pg noR 27 ⟨[v101, v104, v106]⟩ fun v107 =>
  pv (extO 0 v107) fun v109 =>
  pv (extO 1 v107) fun v110 =>
  pv (bin .neq v100 v110) fun v111 =>
  gd v111 false (pv (some v99)) fun v112 =>
  gd v111 false (pv (eqNilP v112)) fun v113 =>
  gd v111 false (pv (some v100)) fun v114 =>
  gd v111 false (pv (bin .neq v114 (.int .i64 0))) fun v115 =>
  gd v111 false (pv (binB .neq v113 v115)) fun v116 =>
  pv (pickO v111 (.bool true) v116) fun v117 =>
  cnd v117 (
   R (.returned (.bool false))) (
   F9_j2 R x2 x4 v99 v100 v109)))
theorem F9_j1_ok (R : ER) (e : Env) : den Pg R (cd Try.f9 [1,1]) e (kont Pg R Try.f9) = (F9_j1 R (e 0) (e 2) (e 4)) := (den_join Pg R 2 (cd Try.f9 [1,1]) (cd Try.f9 [1,1,1,1,1]) e (kont Pg R Try.f9) (fun e => F9_j2 R (e 2) (e 4) (e 7) (e 8) (e 9)) _ (by kernel_rfl) (fun e => F9_j2_ok R e) (by kernel_rfl))
def F9 (R : ER) (x0 x1 x2 : Value) : WP :=
  bx 76 x1 fun v118 =>
  pv (lenS x0) fun v119 =>
  pv (bin .gtr v119 (.int .i64 20)) fun v120 =>
  gd v120 false (pv (some x2)) fun v121 =>
  gd v120 false (pv (lenS v121)) fun v122 =>
  gd v120 false (pv (bin .gtr v122 (.int .i64 40))) fun v123 =>
  pv (pickO v120 (.bool true) v123) fun v124 =>
  cnd v124 (
   cal Pg R 10 ⟨[]⟩ fun v125 =>
   R (.returned v125)) (
   F9_j1 R x0 x2 v118)
theorem F9_den (R : ER) (x0 x1 x2 : Value) : den Pg R (cd Try.f9 []) (argsEnv [x0, x1, x2]) (kont Pg R Try.f9) = F9 R x0 x1 x2 :=
  have h : ∀ e, den Pg R (cd Try.f9 []) e (kont Pg R Try.f9) = F9 R (e 0) (e 1) (e 2) := fun e => (den_join Pg R 1 (cd Try.f9 []) (cd Try.f9 [1,1]) e (kont Pg R Try.f9) (fun e => F9_j1 R (e 0) (e 2) (e 4)) _ (by kernel_rfl) (fun e => F9_j1_ok R e) (by kernel_rfl))
  h _
theorem F9_calls {R : ER} {x0 x1 x2 : Value} {w : World} (h : F9 R x0 x1 x2 w) : Calls Pg 9 ⟨[x0, x1, x2]⟩ w R :=
  calls_of_den Try.func9 (by kernel_rfl) (by kernel_rfl) (F9_den R x0 x1 x2) h
/-! ### 10: orpimentlaw39_awake -/
def F10_j2 (R : ER) (x3 : Value) : WP :=
  pv (bldO [.int .i64 0, .int .i64 0, .int .u32 0, .int .u32 0, .int .i64 0, .int .i64 0, .int .i64 0, .bool false] [(0,1, (.int .i64 1)), (4,1, (.int .i64 6)), (2,1, (.int .u32 167772160))]) fun v1 =>
  cal Pg R 20 ⟨[x3, v1, (.int .i64 0)]⟩ fun v2 =>
  pv (extO 0 v2) fun v3 =>
  pv (extO 1 v2) fun v4 =>
  pv (extO 2 v2) fun v5 =>
  pv (bin .eql v5 (.int .i64 0)) fun v6 =>
  gd v6 true (pv (some v3)) fun v7 =>
  gd v6 true (pv (bin .eql v7 (.int .i64 2))) fun v8 =>
  pv (pickO v6 v8 (.bool false)) fun v9 =>
  gd v9 true (pv (some v4)) fun v10 =>
  gd v9 true (pv (bin .eql v10 (.int .i64 0))) fun v11 =>
  pv (pickO v9 v11 (.bool false)) fun v12 =>
  R (.returned v12)
theorem F10_j2_ok (R : ER) (e : Env) : den Pg R (cd Try.f10 [1,1,1,1,1]) e (kont Pg R Try.f10) = (F10_j2 R (e 3)) := by kernel_rfl
def F10_j1 (R : ER) (x1 : Value) : WP :=
  ldN 16 x1 fun v13 =>
  valV Pg R (Instr.buildSlice 43 1 ⟨[(0, v13)]⟩) fun v14 =>
  cal Pg R 19 ⟨[v14, (.int .i64 1), (.int .i64 1)]⟩ fun v15 =>
  pv (extO 0 v15) fun v16 =>
  pv (extO 1 v15) fun v17 =>
  pv (bin .neq v17 (.int .i64 0)) fun v18 =>
  gd v18 false (pv (some v16)) fun v19 =>
  gd v18 false (pv (eqNilP v19)) fun v20 =>
  pv (pickO v18 (.bool true) v20) fun v21 =>
  cnd v21 (
   R (.returned (.bool false))) (
   F10_j2 R v16)
theorem F10_j1_ok (R : ER) (e : Env) : den Pg R (cd Try.f10 [1,1,1]) e (kont Pg R Try.f10) = (F10_j1 R (e 1)) := (den_join Pg R 1 (cd Try.f10 [1,1,1]) (cd Try.f10 [1,1,1,1,1]) e (kont Pg R Try.f10) (fun e => F10_j2 R (e 3)) _ (by kernel_rfl) (fun e => F10_j2_ok R e) (by kernel_rfl))
def F10 (R : ER) : WP :=
  cal Pg R 11 ⟨[(.string ⟨⟨[98,108,111,99,107,32,105,110,32,112,114,111,116,111,32,54,32,102,114,111,109,32,49,48,46,48,46,48,46,48,47,56,32,112,111,114,116,32,48,58,49,48,50,51]⟩⟩)]⟩ fun v22 =>
  pv (extO 0 v22) fun v23 =>
  pv (extO 1 v22) fun v24 =>
  al Pg 29 fun v25 =>
  al Pg 32 fun v26 =>
  stN 16 v25 v23 fun _ =>
  stN 2 v26 v24 fun _ =>
  ldN 2 v26 fun v27 =>
  pv (bldO [.int .i64 0, .int .i64 0] []) fun v28 =>
  pv (neAgg [0,0] v27 v28) fun v29 =>
  gd v29 false (ldN 16 v25) fun v30 =>
  gd v29 false (pv (bldO [.int .i64 0, .int .i64 0, .int .u32 0, .int .u32 0, .int .i64 0, .int .i64 0, .int .i64 0, .bool false] [(0,1, (.int .i64 1)), (4,1, (.int .i64 6)), (2,1, (.int .u32 167838211)), (5,1, (.int .i64 80))])) fun v31 =>
  gd v29 false (cal Pg R 16 ⟨[v30, v31]⟩) fun v32 =>
  gd v29 false (pv (unO .not v32)) fun v33 =>
  pv (pickO v29 (.bool true) v33) fun v34 =>
  cnd v34 (
   R (.returned (.bool false))) (
   F10_j1 R v25)
theorem F10_den (R : ER) : den Pg R (cd Try.f10 []) (argsEnv []) (kont Pg R Try.f10) = F10 R :=
  have h : ∀ e, den Pg R (cd Try.f10 []) e (kont Pg R Try.f10) = F10 R := fun e => (den_join Pg R 2 (cd Try.f10 []) (cd Try.f10 [1,1,1]) e (kont Pg R Try.f10) (fun e => F10_j1 R (e 1)) _ (by kernel_rfl) (fun e => F10_j1_ok R e) (by kernel_rfl))
  h _
theorem F10_calls {R : ER} {w : World} (h : F10 R w) : Calls Pg 10 ⟨[]⟩ w R :=
  calls_of_den Try.func10 (by kernel_rfl) (by kernel_rfl) (F10_den R) h
/-! ### 12: orpimentref39_Parse -/
def F12_j2 (R : ER) (x0 x2 x3 x4 : Value) : WP :=
  ldN 16 x4 fun v1 =>
  cal Pg R 41 ⟨[v1]⟩ fun v2 =>
  pv (extO 0 v2) fun v3 =>
  pv (extO 1 v2) fun v4 =>
  pv (bin .neq v4 (.int .i64 0)) fun v5 =>
  gd v5 false (pv (some v3)) fun v6 =>
  gd v5 false (pv (some x0)) fun v7 =>
  gd v5 false (pv (binS .neq v6 v7)) fun v8 =>
  pv (pickO v5 (.bool true) v8) fun v9 =>
  cnd v9 (
   pv (bldO [.int .i64 0, .bool false, .bool false, .int .i64 0, .int .i64 0, .int .i64 0, .int .u32 0, .int .i64 0, .bool false, .int .u32 0, .int .i64 0, .bool false, .int .i64 0, .int .i64 0, .int .i64 0, .int .i64 0] []) fun v10 =>
   pv (bldO [.int .i64 0, .int .i64 0] [(1,1, (.int .i64 36))]) fun v11 =>
   stN 16 x2 v10 fun _ =>
   stN 2 x3 v11 fun _ =>
   ldN 16 x2 fun v12 => ldN 2 x3 fun v13 => R (.returned (.tuple ⟨[v12, v13]⟩))) (
   ldN 16 x4 fun v14 =>
  pv (bldO [.int .i64 0, .int .i64 0] []) fun v15 =>
  stN 16 x2 v14 fun _ =>
  stN 2 x3 v15 fun _ =>
  ldN 16 x2 fun v16 => ldN 2 x3 fun v17 => R (.returned (.tuple ⟨[v16, v17]⟩)))
theorem F12_j2_ok (R : ER) (e : Env) : den Pg R (cd Try.f12 [1,1,1,1,1,1]) e (kont Pg R Try.f12) = (F12_j2 R (e 0) (e 2) (e 3) (e 4)) := (by kernel_rfl)
def F12_j6 (R : ER) (k1 : V7) (x0 x2 x3 x4 x5 x6 x7 : Value) : WP :=
  pv (bin .add x7 (.int .i64 1)) fun v18 =>
  k1 x0 x2 x3 x4 x5 x6 v18
theorem F12_j6_ok (R : ER) (k1 : V7) (e : Env) : den Pg R (cd Try.f12 [1,1,1,1,1,0,1,0,0,1,1]) e (setN (inB 0 (setN (kont Pg R Try.f12) (fun e => F12_j2 R (e 0) (e 2) (e 3) (e 4)))) (fun e => k1 (e 0) (e 2) (e 3) (e 4) (e 5) (e 6) (e 7))) = (F12_j6 R k1 (e 0) (e 2) (e 3) (e 4) (e 5) (e 6) (e 7)) := by kernel_rfl
def F12_j32 (R : ER) (k1 : V7) (x0 x2 x3 x4 x5 x6 x7 x11 : Value) : WP :=
  cnd x6 (
   ldN 2 x11 fun v19 =>
   pv (faO 14 x4) fun v20 =>
   stN 2 v20 v19 fun _ =>
   F12_j6 R k1 x0 x2 x3 x4 x5 x6 x7) (
   ldN 2 x11 fun v21 =>
   pv (faO 12 x4) fun v22 =>
   stN 2 v22 v21 fun _ =>
   F12_j6 R k1 x0 x2 x3 x4 x5 x6 x7)
theorem F12_j32_ok (R : ER) (k1 : V7) (e : Env) : den Pg R (cd Try.f12 [1,1,1,1,1,0,1,0,0,1,0,0,1,1,1,1,0,1,1,1,1,1,1,1,1,1,1,1,1,1,1,1,1,1,1,1,1,1,0,1,1]) e (inB 2 (inB 1 (setN (setN (inB 0 (setN (kont Pg R Try.f12) (fun e => F12_j2 R (e 0) (e 2) (e 3) (e 4)))) (fun e => k1 (e 0) (e 2) (e 3) (e 4) (e 5) (e 6) (e 7))) (fun e => F12_j6 R k1 (e 0) (e 2) (e 3) (e 4) (e 5) (e 6) (e 7))))) = (F12_j32 R k1 (e 0) (e 2) (e 3) (e 4) (e 5) (e 6) (e 7) (e 11)) := by kernel_rfl
def F12_j31 (R : ER) (k1 : V7) (x0 x2 x3 x4 x5 x6 x7 x9 x10 : Value) : WP :=
  pv (bldO [.int .i64 0, .int .i64 0] [(0,1, x9)]) fun v23 =>
  al Pg 36 fun v24 =>
  stN 2 v24 v23 fun _ =>
  pv (lenStr x10) fun v25 =>
  pv (bin .gtr v25 (.int .i64 0)) fun v26 =>
  cnd v26 (
   pv (slStr x10 (some (.int .i64 1)) none) fun v27 =>
   cal Pg R 39 ⟨[v27]⟩ fun v28 =>
   pv (extO 0 v28) fun v29 =>
   pv (extO 1 v28) fun v30 =>
   pv (faO 1 v24) fun v31 =>
   st1 v31 v29 fun _ =>
   F12_j32 R k1 x0 x2 x3 x4 x5 x6 x7 v24) (
   F12_j32 R k1 x0 x2 x3 x4 x5 x6 x7 v24)
theorem F12_j31_ok (R : ER) (k1 : V7) (e : Env) : den Pg R (cd Try.f12 [1,1,1,1,1,0,1,0,0,1,0,0,1,1,1,1,0,1,1,1,1,1,1,1,1,1,1,1,1,1,1,1,1,1,1,1,1,1,0]) e (inB 2 (inB 1 (setN (setN (inB 0 (setN (kont Pg R Try.f12) (fun e => F12_j2 R (e 0) (e 2) (e 3) (e 4)))) (fun e => k1 (e 0) (e 2) (e 3) (e 4) (e 5) (e 6) (e 7))) (fun e => F12_j6 R k1 (e 0) (e 2) (e 3) (e 4) (e 5) (e 6) (e 7))))) = (F12_j31 R k1 (e 0) (e 2) (e 3) (e 4) (e 5) (e 6) (e 7) (e 9) (e 10)) := (den_join Pg R 1 (cd Try.f12 [1,1,1,1,1,0,1,0,0,1,0,0,1,1,1,1,0,1,1,1,1,1,1,1,1,1,1,1,1,1,1,1,1,1,1,1,1,1,0]) (cd Try.f12 [1,1,1,1,1,0,1,0,0,1,0,0,1,1,1,1,0,1,1,1,1,1,1,1,1,1,1,1,1,1,1,1,1,1,1,1,1,1,0,1,1]) e (inB 2 (inB 1 (setN (setN (inB 0 (setN (kont Pg R Try.f12) (fun e => F12_j2 R (e 0) (e 2) (e 3) (e 4)))) (fun e => k1 (e 0) (e 2) (e 3) (e 4) (e 5) (e 6) (e 7))) (fun e => F12_j6 R k1 (e 0) (e 2) (e 3) (e 4) (e 5) (e 6) (e 7))))) (fun e => F12_j32 R k1 (e 0) (e 2) (e 3) (e 4) (e 5) (e 6) (e 7) (e 11)) _ (by kernel_rfl) (fun e => F12_j32_ok R k1 e) (by kernel_rfl))
def F12_j30 (R : ER) (k1 : V7) (x0 x2 x3 x4 x5 x6 x7 x9 x10 x89 : Value) : WP :=
  cnd x89 (F12_j31 R k1 x0 x2 x3 x4 x5 x6 x7 x9 x10) (F12_j6 R k1 x0 x2 x3 x4 x5 x6 x7)
theorem F12_j30_ok (R : ER) (k1 : V7) (e : Env) : den Pg R (cd Try.f12 [1,1,1,1,1,0,1,0,0,1,0,0,1,1,1,1,0,1,1,1,1,1,1,1,1,1,1,1,1,1,1,1,1,1,1,1,1,1]) e (inB 2 (inB 1 (setN (setN (inB 0 (setN (kont Pg R Try.f12) (fun e => F12_j2 R (e 0) (e 2) (e 3) (e 4)))) (fun e => k1 (e 0) (e 2) (e 3) (e 4) (e 5) (e 6) (e 7))) (fun e => F12_j6 R k1 (e 0) (e 2) (e 3) (e 4) (e 5) (e 6) (e 7))))) = (F12_j30 R k1 (e 0) (e 2) (e 3) (e 4) (e 5) (e 6) (e 7) (e 9) (e 10) (e 89)) := (den_if Pg R (cd Try.f12 [1,1,1,1,1,0,1,0,0,1,0,0,1,1,1,1,0,1,1,1,1,1,1,1,1,1,1,1,1,1,1,1,1,1,1,1,1,1]) (cd Try.f12 [1,1,1,1,1,0,1,0,0,1,0,0,1,1,1,1,0,1,1,1,1,1,1,1,1,1,1,1,1,1,1,1,1,1,1,1,1,1,0]) (cd Try.f12 [1,1,1,1,1,0,1,0,0,1,0,0,1,1,1,1,0,1,1,1,1,1,1,1,1,1,1,1,1,1,1,1,1,1,1,1,1,1,1]) e (inB 2 (inB 1 (setN (setN (inB 0 (setN (kont Pg R Try.f12) (fun e => F12_j2 R (e 0) (e 2) (e 3) (e 4)))) (fun e => k1 (e 0) (e 2) (e 3) (e 4) (e 5) (e 6) (e 7))) (fun e => F12_j6 R k1 (e 0) (e 2) (e 3) (e 4) (e 5) (e 6) (e 7))))) (F12_j31 R k1 (e 0) (e 2) (e 3) (e 4) (e 5) (e 6) (e 7) (e 9) (e 10)) _ _ (by kernel_rfl) (F12_j31_ok R k1 e) rfl (by kernel_rfl))
def F12_j29 (R : ER) (k1 : V7) (x0 x2 x3 x4 x5 x6 x7 x9 x10 x48 : Value) : WP :=
  pv (binS .eql x48 (.string ⟨⟨[112,111,114,116]⟩⟩)) fun v32 =>
  F12_j30 R k1 x0 x2 x3 x4 x5 x6 x7 x9 x10 v32
theorem F12_j29_ok (R : ER) (k1 : V7) (e : Env) : den Pg R (cd Try.f12 [1,1,1,1,1,0,1,0,0,1,0,0,1,1,1,1,0,1,1,1,1,1,1,1,1,1,1,1,1,1,1,1,1,1,1,1,1]) e (inB 2 (inB 1 (setN (setN (inB 0 (setN (kont Pg R Try.f12) (fun e => F12_j2 R (e 0) (e 2) (e 3) (e 4)))) (fun e => k1 (e 0) (e 2) (e 3) (e 4) (e 5) (e 6) (e 7))) (fun e => F12_j6 R k1 (e 0) (e 2) (e 3) (e 4) (e 5) (e 6) (e 7))))) = (F12_j29 R k1 (e 0) (e 2) (e 3) (e 4) (e 5) (e 6) (e 7) (e 9) (e 10) (e 48)) := (den_join Pg R 0 (cd Try.f12 [1,1,1,1,1,0,1,0,0,1,0,0,1,1,1,1,0,1,1,1,1,1,1,1,1,1,1,1,1,1,1,1,1,1,1,1,1]) (cd Try.f12 [1,1,1,1,1,0,1,0,0,1,0,0,1,1,1,1,0,1,1,1,1,1,1,1,1,1,1,1,1,1,1,1,1,1,1,1,1,1]) e (inB 2 (inB 1 (setN (setN (inB 0 (setN (kont Pg R Try.f12) (fun e => F12_j2 R (e 0) (e 2) (e 3) (e 4)))) (fun e => k1 (e 0) (e 2) (e 3) (e 4) (e 5) (e 6) (e 7))) (fun e => F12_j6 R k1 (e 0) (e 2) (e 3) (e 4) (e 5) (e 6) (e 7))))) (fun e => F12_j30 R k1 (e 0) (e 2) (e 3) (e 4) (e 5) (e 6) (e 7) (e 9) (e 10) (e 89)) _ (by kernel_rfl) (fun e => F12_j30_ok R k1 e) (by kernel_rfl))
def F12_j28 (R : ER) (k1 : V7) (x0 x2 x3 x4 x5 x6 x7 x8 x9 x10 x48 x82 : Value) : WP :=
  cnd x82 (pv (binS .neq x8 (.string ⟨⟨[112,111,114,116]⟩⟩)) fun v33 =>
  cnd v33 (
   cal Pg R 40 ⟨[x8]⟩ fun v34 =>
   pv (faO 9 x4) fun v35 =>
   stN 3 v35 v34 fun _ =>
   F12_j6 R k1 x0 x2 x3 x4 x5 (.bool true) x7) (
   F12_j6 R k1 x0 x2 x3 x4 x5 (.bool true) x7)) (F12_j29 R k1 x0 x2 x3 x4 x5 x6 x7 x9 x10 x48)
theorem F12_j28_ok (R : ER) (k1 : V7) (e : Env) : den Pg R (cd Try.f12 [1,1,1,1,1,0,1,0,0,1,0,0,1,1,1,1,0,1,1,1,1,1,1,1,1,1,1,1,1,1,1,1,1,1,1,1]) e (inB 2 (inB 1 (setN (setN (inB 0 (setN (kont Pg R Try.f12) (fun e => F12_j2 R (e 0) (e 2) (e 3) (e 4)))) (fun e => k1 (e 0) (e 2) (e 3) (e 4) (e 5) (e 6) (e 7))) (fun e => F12_j6 R k1 (e 0) (e 2) (e 3) (e 4) (e 5) (e 6) (e 7))))) = (F12_j28 R k1 (e 0) (e 2) (e 3) (e 4) (e 5) (e 6) (e 7) (e 8) (e 9) (e 10) (e 48) (e 82)) := (den_if Pg R (cd Try.f12 [1,1,1,1,1,0,1,0,0,1,0,0,1,1,1,1,0,1,1,1,1,1,1,1,1,1,1,1,1,1,1,1,1,1,1,1]) (cd Try.f12 [1,1,1,1,1,0,1,0,0,1,0,0,1,1,1,1,0,1,1,1,1,1,1,1,1,1,1,1,1,1,1,1,1,1,1,1,0]) (cd Try.f12 [1,1,1,1,1,0,1,0,0,1,0,0,1,1,1,1,0,1,1,1,1,1,1,1,1,1,1,1,1,1,1,1,1,1,1,1,1]) e (inB 2 (inB 1 (setN (setN (inB 0 (setN (kont Pg R Try.f12) (fun e => F12_j2 R (e 0) (e 2) (e 3) (e 4)))) (fun e => k1 (e 0) (e 2) (e 3) (e 4) (e 5) (e 6) (e 7))) (fun e => F12_j6 R k1 (e 0) (e 2) (e 3) (e 4) (e 5) (e 6) (e 7))))) _ (F12_j29 R k1 (e 0) (e 2) (e 3) (e 4) (e 5) (e 6) (e 7) (e 9) (e 10) (e 48)) _ (by kernel_rfl) rfl (F12_j29_ok R k1 e) (by kernel_rfl))
def F12_j27 (R : ER) (k1 : V7) (x0 x2 x3 x4 x5 x6 x7 x8 x9 x10 x48 : Value) : WP :=
  pv (binS .eql x48 (.string ⟨⟨[116,111]⟩⟩)) fun v36 =>
  F12_j28 R k1 x0 x2 x3 x4 x5 x6 x7 x8 x9 x10 x48 v36
theorem F12_j27_ok (R : ER) (k1 : V7) (e : Env) : den Pg R (cd Try.f12 [1,1,1,1,1,0,1,0,0,1,0,0,1,1,1,1,0,1,1,1,1,1,1,1,1,1,1,1,1,1,1,1,1,1,1]) e (inB 2 (inB 1 (setN (setN (inB 0 (setN (kont Pg R Try.f12) (fun e => F12_j2 R (e 0) (e 2) (e 3) (e 4)))) (fun e => k1 (e 0) (e 2) (e 3) (e 4) (e 5) (e 6) (e 7))) (fun e => F12_j6 R k1 (e 0) (e 2) (e 3) (e 4) (e 5) (e 6) (e 7))))) = (F12_j27 R k1 (e 0) (e 2) (e 3) (e 4) (e 5) (e 6) (e 7) (e 8) (e 9) (e 10) (e 48)) := (den_join Pg R 0 (cd Try.f12 [1,1,1,1,1,0,1,0,0,1,0,0,1,1,1,1,0,1,1,1,1,1,1,1,1,1,1,1,1,1,1,1,1,1,1]) (cd Try.f12 [1,1,1,1,1,0,1,0,0,1,0,0,1,1,1,1,0,1,1,1,1,1,1,1,1,1,1,1,1,1,1,1,1,1,1,1]) e (inB 2 (inB 1 (setN (setN (inB 0 (setN (kont Pg R Try.f12) (fun e => F12_j2 R (e 0) (e 2) (e 3) (e 4)))) (fun e => k1 (e 0) (e 2) (e 3) (e 4) (e 5) (e 6) (e 7))) (fun e => F12_j6 R k1 (e 0) (e 2) (e 3) (e 4) (e 5) (e 6) (e 7))))) (fun e => F12_j28 R k1 (e 0) (e 2) (e 3) (e 4) (e 5) (e 6) (e 7) (e 8) (e 9) (e 10) (e 48) (e 82)) _ (by kernel_rfl) (fun e => F12_j28_ok R k1 e) (by kernel_rfl))
def F12_j26 (R : ER) (k1 : V7) (x0 x2 x3 x4 x5 x6 x7 x8 x9 x10 x48 x75 : Value) : WP :=
  cnd x75 (pv (binS .neq x8 (.string ⟨⟨[112,111,114,116]⟩⟩)) fun v37 =>
  cnd v37 (
   cal Pg R 40 ⟨[x8]⟩ fun v38 =>
   pv (faO 6 x4) fun v39 =>
   stN 3 v39 v38 fun _ =>
   F12_j6 R k1 x0 x2 x3 x4 x5 x6 x7) (
   F12_j6 R k1 x0 x2 x3 x4 x5 x6 x7)) (F12_j27 R k1 x0 x2 x3 x4 x5 x6 x7 x8 x9 x10 x48)
theorem F12_j26_ok (R : ER) (k1 : V7) (e : Env) : den Pg R (cd Try.f12 [1,1,1,1,1,0,1,0,0,1,0,0,1,1,1,1,0,1,1,1,1,1,1,1,1,1,1,1,1,1,1,1,1,1]) e (inB 2 (inB 1 (setN (setN (inB 0 (setN (kont Pg R Try.f12) (fun e => F12_j2 R (e 0) (e 2) (e 3) (e 4)))) (fun e => k1 (e 0) (e 2) (e 3) (e 4) (e 5) (e 6) (e 7))) (fun e => F12_j6 R k1 (e 0) (e 2) (e 3) (e 4) (e 5) (e 6) (e 7))))) = (F12_j26 R k1 (e 0) (e 2) (e 3) (e 4) (e 5) (e 6) (e 7) (e 8) (e 9) (e 10) (e 48) (e 75)) := (den_if Pg R (cd Try.f12 [1,1,1,1,1,0,1,0,0,1,0,0,1,1,1,1,0,1,1,1,1,1,1,1,1,1,1,1,1,1,1,1,1,1]) (cd Try.f12 [1,1,1,1,1,0,1,0,0,1,0,0,1,1,1,1,0,1,1,1,1,1,1,1,1,1,1,1,1,1,1,1,1,1,0]) (cd Try.f12 [1,1,1,1,1,0,1,0,0,1,0,0,1,1,1,1,0,1,1,1,1,1,1,1,1,1,1,1,1,1,1,1,1,1,1]) e (inB 2 (inB 1 (setN (setN (inB 0 (setN (kont Pg R Try.f12) (fun e => F12_j2 R (e 0) (e 2) (e 3) (e 4)))) (fun e => k1 (e 0) (e 2) (e 3) (e 4) (e 5) (e 6) (e 7))) (fun e => F12_j6 R k1 (e 0) (e 2) (e 3) (e 4) (e 5) (e 6) (e 7))))) _ (F12_j27 R k1 (e 0) (e 2) (e 3) (e 4) (e 5) (e 6) (e 7) (e 8) (e 9) (e 10) (e 48)) _ (by kernel_rfl) rfl (F12_j27_ok R k1 e) (by kernel_rfl))
def F12_j25 (R : ER) (k1 : V7) (x0 x2 x3 x4 x5 x6 x7 x8 x9 x10 x48 : Value) : WP :=
  pv (binS .eql x48 (.string ⟨⟨[102,114,111,109]⟩⟩)) fun v40 =>
  F12_j26 R k1 x0 x2 x3 x4 x5 x6 x7 x8 x9 x10 x48 v40
theorem F12_j25_ok (R : ER) (k1 : V7) (e : Env) : den Pg R (cd Try.f12 [1,1,1,1,1,0,1,0,0,1,0,0,1,1,1,1,0,1,1,1,1,1,1,1,1,1,1,1,1,1,1,1,1]) e (inB 2 (inB 1 (setN (setN (inB 0 (setN (kont Pg R Try.f12) (fun e => F12_j2 R (e 0) (e 2) (e 3) (e 4)))) (fun e => k1 (e 0) (e 2) (e 3) (e 4) (e 5) (e 6) (e 7))) (fun e => F12_j6 R k1 (e 0) (e 2) (e 3) (e 4) (e 5) (e 6) (e 7))))) = (F12_j25 R k1 (e 0) (e 2) (e 3) (e 4) (e 5) (e 6) (e 7) (e 8) (e 9) (e 10) (e 48)) := (den_join Pg R 0 (cd Try.f12 [1,1,1,1,1,0,1,0,0,1,0,0,1,1,1,1,0,1,1,1,1,1,1,1,1,1,1,1,1,1,1,1,1]) (cd Try.f12 [1,1,1,1,1,0,1,0,0,1,0,0,1,1,1,1,0,1,1,1,1,1,1,1,1,1,1,1,1,1,1,1,1,1]) e (inB 2 (inB 1 (setN (setN (inB 0 (setN (kont Pg R Try.f12) (fun e => F12_j2 R (e 0) (e 2) (e 3) (e 4)))) (fun e => k1 (e 0) (e 2) (e 3) (e 4) (e 5) (e 6) (e 7))) (fun e => F12_j6 R k1 (e 0) (e 2) (e 3) (e 4) (e 5) (e 6) (e 7))))) (fun e => F12_j26 R k1 (e 0) (e 2) (e 3) (e 4) (e 5) (e 6) (e 7) (e 8) (e 9) (e 10) (e 48) (e 75)) _ (by kernel_rfl) (fun e => F12_j26_ok R k1 e) (by kernel_rfl))
def F12_j24 (R : ER) (k1 : V7) (x0 x2 x3 x4 x5 x6 x7 x8 x9 x10 x48 x71 : Value) : WP :=
  cnd x71 (pv (faO 5 x4) fun v41 =>
  st1 v41 x9 fun _ =>
  F12_j6 R k1 x0 x2 x3 x4 x5 x6 x7) (F12_j25 R k1 x0 x2 x3 x4 x5 x6 x7 x8 x9 x10 x48)
theorem F12_j24_ok (R : ER) (k1 : V7) (e : Env) : den Pg R (cd Try.f12 [1,1,1,1,1,0,1,0,0,1,0,0,1,1,1,1,0,1,1,1,1,1,1,1,1,1,1,1,1,1,1,1]) e (inB 2 (inB 1 (setN (setN (inB 0 (setN (kont Pg R Try.f12) (fun e => F12_j2 R (e 0) (e 2) (e 3) (e 4)))) (fun e => k1 (e 0) (e 2) (e 3) (e 4) (e 5) (e 6) (e 7))) (fun e => F12_j6 R k1 (e 0) (e 2) (e 3) (e 4) (e 5) (e 6) (e 7))))) = (F12_j24 R k1 (e 0) (e 2) (e 3) (e 4) (e 5) (e 6) (e 7) (e 8) (e 9) (e 10) (e 48) (e 71)) := (den_if Pg R (cd Try.f12 [1,1,1,1,1,0,1,0,0,1,0,0,1,1,1,1,0,1,1,1,1,1,1,1,1,1,1,1,1,1,1,1]) (cd Try.f12 [1,1,1,1,1,0,1,0,0,1,0,0,1,1,1,1,0,1,1,1,1,1,1,1,1,1,1,1,1,1,1,1,0]) (cd Try.f12 [1,1,1,1,1,0,1,0,0,1,0,0,1,1,1,1,0,1,1,1,1,1,1,1,1,1,1,1,1,1,1,1,1]) e (inB 2 (inB 1 (setN (setN (inB 0 (setN (kont Pg R Try.f12) (fun e => F12_j2 R (e 0) (e 2) (e 3) (e 4)))) (fun e => k1 (e 0) (e 2) (e 3) (e 4) (e 5) (e 6) (e 7))) (fun e => F12_j6 R k1 (e 0) (e 2) (e 3) (e 4) (e 5) (e 6) (e 7))))) _ (F12_j25 R k1 (e 0) (e 2) (e 3) (e 4) (e 5) (e 6) (e 7) (e 8) (e 9) (e 10) (e 48)) _ (by kernel_rfl) rfl (F12_j25_ok R k1 e) (by kernel_rfl))
def F12_j23 (R : ER) (k1 : V7) (x0 x2 x3 x4 x5 x6 x7 x8 x9 x10 x48 : Value) : WP :=
  pv (binS .eql x48 (.string ⟨⟨[112,114,111,116,111]⟩⟩)) fun v42 =>
  F12_j24 R k1 x0 x2 x3 x4 x5 x6 x7 x8 x9 x10 x48 v42
theorem F12_j23_ok (R : ER) (k1 : V7) (e : Env) : den Pg R (cd Try.f12 [1,1,1,1,1,0,1,0,0,1,0,0,1,1,1,1,0,1,1,1,1,1,1,1,1,1,1,1,1,1,1]) e (inB 2 (inB 1 (setN (setN (inB 0 (setN (kont Pg R Try.f12) (fun e => F12_j2 R (e 0) (e 2) (e 3) (e 4)))) (fun e => k1 (e 0) (e 2) (e 3) (e 4) (e 5) (e 6) (e 7))) (fun e => F12_j6 R k1 (e 0) (e 2) (e 3) (e 4) (e 5) (e 6) (e 7))))) = (F12_j23 R k1 (e 0) (e 2) (e 3) (e 4) (e 5) (e 6) (e 7) (e 8) (e 9) (e 10) (e 48)) := (den_join Pg R 0 (cd Try.f12 [1,1,1,1,1,0,1,0,0,1,0,0,1,1,1,1,0,1,1,1,1,1,1,1,1,1,1,1,1,1,1]) (cd Try.f12 [1,1,1,1,1,0,1,0,0,1,0,0,1,1,1,1,0,1,1,1,1,1,1,1,1,1,1,1,1,1,1,1]) e (inB 2 (inB 1 (setN (setN (inB 0 (setN (kont Pg R Try.f12) (fun e => F12_j2 R (e 0) (e 2) (e 3) (e 4)))) (fun e => k1 (e 0) (e 2) (e 3) (e 4) (e 5) (e 6) (e 7))) (fun e => F12_j6 R k1 (e 0) (e 2) (e 3) (e 4) (e 5) (e 6) (e 7))))) (fun e => F12_j24 R k1 (e 0) (e 2) (e 3) (e 4) (e 5) (e 6) (e 7) (e 8) (e 9) (e 10) (e 48) (e 71)) _ (by kernel_rfl) (fun e => F12_j24_ok R k1 e) (by kernel_rfl))
def F12_j22 (R : ER) (k1 : V7) (x0 x2 x3 x4 x5 x6 x7 x8 x9 x10 x48 x67 : Value) : WP :=
  cnd x67 (pv (faO 4 x4) fun v43 =>
  st1 v43 x9 fun _ =>
  F12_j6 R k1 x0 x2 x3 x4 x5 x6 x7) (F12_j23 R k1 x0 x2 x3 x4 x5 x6 x7 x8 x9 x10 x48)
theorem F12_j22_ok (R : ER) (k1 : V7) (e : Env) : den Pg R (cd Try.f12 [1,1,1,1,1,0,1,0,0,1,0,0,1,1,1,1,0,1,1,1,1,1,1,1,1,1,1,1,1,1]) e (inB 2 (inB 1 (setN (setN (inB 0 (setN (kont Pg R Try.f12) (fun e => F12_j2 R (e 0) (e 2) (e 3) (e 4)))) (fun e => k1 (e 0) (e 2) (e 3) (e 4) (e 5) (e 6) (e 7))) (fun e => F12_j6 R k1 (e 0) (e 2) (e 3) (e 4) (e 5) (e 6) (e 7))))) = (F12_j22 R k1 (e 0) (e 2) (e 3) (e 4) (e 5) (e 6) (e 7) (e 8) (e 9) (e 10) (e 48) (e 67)) := (den_if Pg R (cd Try.f12 [1,1,1,1,1,0,1,0,0,1,0,0,1,1,1,1,0,1,1,1,1,1,1,1,1,1,1,1,1,1]) (cd Try.f12 [1,1,1,1,1,0,1,0,0,1,0,0,1,1,1,1,0,1,1,1,1,1,1,1,1,1,1,1,1,1,0]) (cd Try.f12 [1,1,1,1,1,0,1,0,0,1,0,0,1,1,1,1,0,1,1,1,1,1,1,1,1,1,1,1,1,1,1]) e (inB 2 (inB 1 (setN (setN (inB 0 (setN (kont Pg R Try.f12) (fun e => F12_j2 R (e 0) (e 2) (e 3) (e 4)))) (fun e => k1 (e 0) (e 2) (e 3) (e 4) (e 5) (e 6) (e 7))) (fun e => F12_j6 R k1 (e 0) (e 2) (e 3) (e 4) (e 5) (e 6) (e 7))))) _ (F12_j23 R k1 (e 0) (e 2) (e 3) (e 4) (e 5) (e 6) (e 7) (e 8) (e 9) (e 10) (e 48)) _ (by kernel_rfl) rfl (F12_j23_ok R k1 e) (by kernel_rfl))
def F12_j21 (R : ER) (k1 : V7) (x0 x2 x3 x4 x5 x6 x7 x8 x9 x10 x48 : Value) : WP :=
  pv (binS .eql x48 (.string ⟨⟨[111,110]⟩⟩)) fun v44 =>
  F12_j22 R k1 x0 x2 x3 x4 x5 x6 x7 x8 x9 x10 x48 v44
theorem F12_j21_ok (R : ER) (k1 : V7) (e : Env) : den Pg R (cd Try.f12 [1,1,1,1,1,0,1,0,0,1,0,0,1,1,1,1,0,1,1,1,1,1,1,1,1,1,1,1,1]) e (inB 2 (inB 1 (setN (setN (inB 0 (setN (kont Pg R Try.f12) (fun e => F12_j2 R (e 0) (e 2) (e 3) (e 4)))) (fun e => k1 (e 0) (e 2) (e 3) (e 4) (e 5) (e 6) (e 7))) (fun e => F12_j6 R k1 (e 0) (e 2) (e 3) (e 4) (e 5) (e 6) (e 7))))) = (F12_j21 R k1 (e 0) (e 2) (e 3) (e 4) (e 5) (e 6) (e 7) (e 8) (e 9) (e 10) (e 48)) := (den_join Pg R 0 (cd Try.f12 [1,1,1,1,1,0,1,0,0,1,0,0,1,1,1,1,0,1,1,1,1,1,1,1,1,1,1,1,1]) (cd Try.f12 [1,1,1,1,1,0,1,0,0,1,0,0,1,1,1,1,0,1,1,1,1,1,1,1,1,1,1,1,1,1]) e (inB 2 (inB 1 (setN (setN (inB 0 (setN (kont Pg R Try.f12) (fun e => F12_j2 R (e 0) (e 2) (e 3) (e 4)))) (fun e => k1 (e 0) (e 2) (e 3) (e 4) (e 5) (e 6) (e 7))) (fun e => F12_j6 R k1 (e 0) (e 2) (e 3) (e 4) (e 5) (e 6) (e 7))))) (fun e => F12_j22 R k1 (e 0) (e 2) (e 3) (e 4) (e 5) (e 6) (e 7) (e 8) (e 9) (e 10) (e 48) (e 67)) _ (by kernel_rfl) (fun e => F12_j22_ok R k1 e) (by kernel_rfl))
def F12_j20 (R : ER) (k1 : V7) (x0 x2 x3 x4 x5 x6 x7 x8 x9 x10 x48 x64 : Value) : WP :=
  cnd x64 (pv (faO 3 x4) fun v45 =>
  st1 v45 (.int .i64 2) fun _ =>
  F12_j6 R k1 x0 x2 x3 x4 x5 x6 x7) (F12_j21 R k1 x0 x2 x3 x4 x5 x6 x7 x8 x9 x10 x48)
theorem F12_j20_ok (R : ER) (k1 : V7) (e : Env) : den Pg R (cd Try.f12 [1,1,1,1,1,0,1,0,0,1,0,0,1,1,1,1,0,1,1,1,1,1,1,1,1,1,1,1]) e (inB 2 (inB 1 (setN (setN (inB 0 (setN (kont Pg R Try.f12) (fun e => F12_j2 R (e 0) (e 2) (e 3) (e 4)))) (fun e => k1 (e 0) (e 2) (e 3) (e 4) (e 5) (e 6) (e 7))) (fun e => F12_j6 R k1 (e 0) (e 2) (e 3) (e 4) (e 5) (e 6) (e 7))))) = (F12_j20 R k1 (e 0) (e 2) (e 3) (e 4) (e 5) (e 6) (e 7) (e 8) (e 9) (e 10) (e 48) (e 64)) := (den_if Pg R (cd Try.f12 [1,1,1,1,1,0,1,0,0,1,0,0,1,1,1,1,0,1,1,1,1,1,1,1,1,1,1,1]) (cd Try.f12 [1,1,1,1,1,0,1,0,0,1,0,0,1,1,1,1,0,1,1,1,1,1,1,1,1,1,1,1,0]) (cd Try.f12 [1,1,1,1,1,0,1,0,0,1,0,0,1,1,1,1,0,1,1,1,1,1,1,1,1,1,1,1,1]) e (inB 2 (inB 1 (setN (setN (inB 0 (setN (kont Pg R Try.f12) (fun e => F12_j2 R (e 0) (e 2) (e 3) (e 4)))) (fun e => k1 (e 0) (e 2) (e 3) (e 4) (e 5) (e 6) (e 7))) (fun e => F12_j6 R k1 (e 0) (e 2) (e 3) (e 4) (e 5) (e 6) (e 7))))) _ (F12_j21 R k1 (e 0) (e 2) (e 3) (e 4) (e 5) (e 6) (e 7) (e 8) (e 9) (e 10) (e 48)) _ (by kernel_rfl) rfl (F12_j21_ok R k1 e) (by kernel_rfl))
def F12_j19 (R : ER) (k1 : V7) (x0 x2 x3 x4 x5 x6 x7 x8 x9 x10 x48 : Value) : WP :=
  pv (binS .eql x48 (.string ⟨⟨[111,117,116]⟩⟩)) fun v46 =>
  F12_j20 R k1 x0 x2 x3 x4 x5 x6 x7 x8 x9 x10 x48 v46
theorem F12_j19_ok (R : ER) (k1 : V7) (e : Env) : den Pg R (cd Try.f12 [1,1,1,1,1,0,1,0,0,1,0,0,1,1,1,1,0,1,1,1,1,1,1,1,1,1,1]) e (inB 2 (inB 1 (setN (setN (inB 0 (setN (kont Pg R Try.f12) (fun e => F12_j2 R (e 0) (e 2) (e 3) (e 4)))) (fun e => k1 (e 0) (e 2) (e 3) (e 4) (e 5) (e 6) (e 7))) (fun e => F12_j6 R k1 (e 0) (e 2) (e 3) (e 4) (e 5) (e 6) (e 7))))) = (F12_j19 R k1 (e 0) (e 2) (e 3) (e 4) (e 5) (e 6) (e 7) (e 8) (e 9) (e 10) (e 48)) := (den_join Pg R 0 (cd Try.f12 [1,1,1,1,1,0,1,0,0,1,0,0,1,1,1,1,0,1,1,1,1,1,1,1,1,1,1]) (cd Try.f12 [1,1,1,1,1,0,1,0,0,1,0,0,1,1,1,1,0,1,1,1,1,1,1,1,1,1,1,1]) e (inB 2 (inB 1 (setN (setN (inB 0 (setN (kont Pg R Try.f12) (fun e => F12_j2 R (e 0) (e 2) (e 3) (e 4)))) (fun e => k1 (e 0) (e 2) (e 3) (e 4) (e 5) (e 6) (e 7))) (fun e => F12_j6 R k1 (e 0) (e 2) (e 3) (e 4) (e 5) (e 6) (e 7))))) (fun e => F12_j20 R k1 (e 0) (e 2) (e 3) (e 4) (e 5) (e 6) (e 7) (e 8) (e 9) (e 10) (e 48) (e 64)) _ (by kernel_rfl) (fun e => F12_j20_ok R k1 e) (by kernel_rfl))
def F12_j18 (R : ER) (k1 : V7) (x0 x2 x3 x4 x5 x6 x7 x8 x9 x10 x48 x61 : Value) : WP :=
  cnd x61 (pv (faO 3 x4) fun v47 =>
  st1 v47 (.int .i64 1) fun _ =>
  F12_j6 R k1 x0 x2 x3 x4 x5 x6 x7) (F12_j19 R k1 x0 x2 x3 x4 x5 x6 x7 x8 x9 x10 x48)
theorem F12_j18_ok (R : ER) (k1 : V7) (e : Env) : den Pg R (cd Try.f12 [1,1,1,1,1,0,1,0,0,1,0,0,1,1,1,1,0,1,1,1,1,1,1,1,1,1]) e (inB 2 (inB 1 (setN (setN (inB 0 (setN (kont Pg R Try.f12) (fun e => F12_j2 R (e 0) (e 2) (e 3) (e 4)))) (fun e => k1 (e 0) (e 2) (e 3) (e 4) (e 5) (e 6) (e 7))) (fun e => F12_j6 R k1 (e 0) (e 2) (e 3) (e 4) (e 5) (e 6) (e 7))))) = (F12_j18 R k1 (e 0) (e 2) (e 3) (e 4) (e 5) (e 6) (e 7) (e 8) (e 9) (e 10) (e 48) (e 61)) := (den_if Pg R (cd Try.f12 [1,1,1,1,1,0,1,0,0,1,0,0,1,1,1,1,0,1,1,1,1,1,1,1,1,1]) (cd Try.f12 [1,1,1,1,1,0,1,0,0,1,0,0,1,1,1,1,0,1,1,1,1,1,1,1,1,1,0]) (cd Try.f12 [1,1,1,1,1,0,1,0,0,1,0,0,1,1,1,1,0,1,1,1,1,1,1,1,1,1,1]) e (inB 2 (inB 1 (setN (setN (inB 0 (setN (kont Pg R Try.f12) (fun e => F12_j2 R (e 0) (e 2) (e 3) (e 4)))) (fun e => k1 (e 0) (e 2) (e 3) (e 4) (e 5) (e 6) (e 7))) (fun e => F12_j6 R k1 (e 0) (e 2) (e 3) (e 4) (e 5) (e 6) (e 7))))) _ (F12_j19 R k1 (e 0) (e 2) (e 3) (e 4) (e 5) (e 6) (e 7) (e 8) (e 9) (e 10) (e 48)) _ (by kernel_rfl) rfl (F12_j19_ok R k1 e) (by kernel_rfl))
def F12_j17 (R : ER) (k1 : V7) (x0 x2 x3 x4 x5 x6 x7 x8 x9 x10 x48 : Value) : WP :=
  pv (binS .eql x48 (.string ⟨⟨[105,110]⟩⟩)) fun v48 =>
  F12_j18 R k1 x0 x2 x3 x4 x5 x6 x7 x8 x9 x10 x48 v48
theorem F12_j17_ok (R : ER) (k1 : V7) (e : Env) : den Pg R (cd Try.f12 [1,1,1,1,1,0,1,0,0,1,0,0,1,1,1,1,0,1,1,1,1,1,1,1,1]) e (inB 2 (inB 1 (setN (setN (inB 0 (setN (kont Pg R Try.f12) (fun e => F12_j2 R (e 0) (e 2) (e 3) (e 4)))) (fun e => k1 (e 0) (e 2) (e 3) (e 4) (e 5) (e 6) (e 7))) (fun e => F12_j6 R k1 (e 0) (e 2) (e 3) (e 4) (e 5) (e 6) (e 7))))) = (F12_j17 R k1 (e 0) (e 2) (e 3) (e 4) (e 5) (e 6) (e 7) (e 8) (e 9) (e 10) (e 48)) := (den_join Pg R 0 (cd Try.f12 [1,1,1,1,1,0,1,0,0,1,0,0,1,1,1,1,0,1,1,1,1,1,1,1,1]) (cd Try.f12 [1,1,1,1,1,0,1,0,0,1,0,0,1,1,1,1,0,1,1,1,1,1,1,1,1,1]) e (inB 2 (inB 1 (setN (setN (inB 0 (setN (kont Pg R Try.f12) (fun e => F12_j2 R (e 0) (e 2) (e 3) (e 4)))) (fun e => k1 (e 0) (e 2) (e 3) (e 4) (e 5) (e 6) (e 7))) (fun e => F12_j6 R k1 (e 0) (e 2) (e 3) (e 4) (e 5) (e 6) (e 7))))) (fun e => F12_j18 R k1 (e 0) (e 2) (e 3) (e 4) (e 5) (e 6) (e 7) (e 8) (e 9) (e 10) (e 48) (e 61)) _ (by kernel_rfl) (fun e => F12_j18_ok R k1 e) (by kernel_rfl))
def F12_j16 (R : ER) (k1 : V7) (x0 x2 x3 x4 x5 x6 x7 x8 x9 x10 x48 x58 : Value) : WP :=
  cnd x58 (pv (faO 2 x4) fun v49 =>
  st1 v49 (.bool true) fun _ =>
  F12_j6 R k1 x0 x2 x3 x4 x5 x6 x7) (F12_j17 R k1 x0 x2 x3 x4 x5 x6 x7 x8 x9 x10 x48)
theorem F12_j16_ok (R : ER) (k1 : V7) (e : Env) : den Pg R (cd Try.f12 [1,1,1,1,1,0,1,0,0,1,0,0,1,1,1,1,0,1,1,1,1,1,1,1]) e (inB 2 (inB 1 (setN (setN (inB 0 (setN (kont Pg R Try.f12) (fun e => F12_j2 R (e 0) (e 2) (e 3) (e 4)))) (fun e => k1 (e 0) (e 2) (e 3) (e 4) (e 5) (e 6) (e 7))) (fun e => F12_j6 R k1 (e 0) (e 2) (e 3) (e 4) (e 5) (e 6) (e 7))))) = (F12_j16 R k1 (e 0) (e 2) (e 3) (e 4) (e 5) (e 6) (e 7) (e 8) (e 9) (e 10) (e 48) (e 58)) := (den_if Pg R (cd Try.f12 [1,1,1,1,1,0,1,0,0,1,0,0,1,1,1,1,0,1,1,1,1,1,1,1]) (cd Try.f12 [1,1,1,1,1,0,1,0,0,1,0,0,1,1,1,1,0,1,1,1,1,1,1,1,0]) (cd Try.f12 [1,1,1,1,1,0,1,0,0,1,0,0,1,1,1,1,0,1,1,1,1,1,1,1,1]) e (inB 2 (inB 1 (setN (setN (inB 0 (setN (kont Pg R Try.f12) (fun e => F12_j2 R (e 0) (e 2) (e 3) (e 4)))) (fun e => k1 (e 0) (e 2) (e 3) (e 4) (e 5) (e 6) (e 7))) (fun e => F12_j6 R k1 (e 0) (e 2) (e 3) (e 4) (e 5) (e 6) (e 7))))) _ (F12_j17 R k1 (e 0) (e 2) (e 3) (e 4) (e 5) (e 6) (e 7) (e 8) (e 9) (e 10) (e 48)) _ (by kernel_rfl) rfl (F12_j17_ok R k1 e) (by kernel_rfl))
def F12_j15 (R : ER) (k1 : V7) (x0 x2 x3 x4 x5 x6 x7 x8 x9 x10 x48 : Value) : WP :=
  pv (binS .eql x48 (.string ⟨⟨[107,101,101,112]⟩⟩)) fun v50 =>
  F12_j16 R k1 x0 x2 x3 x4 x5 x6 x7 x8 x9 x10 x48 v50
theorem F12_j15_ok (R : ER) (k1 : V7) (e : Env) : den Pg R (cd Try.f12 [1,1,1,1,1,0,1,0,0,1,0,0,1,1,1,1,0,1,1,1,1,1,1]) e (inB 2 (inB 1 (setN (setN (inB 0 (setN (kont Pg R Try.f12) (fun e => F12_j2 R (e 0) (e 2) (e 3) (e 4)))) (fun e => k1 (e 0) (e 2) (e 3) (e 4) (e 5) (e 6) (e 7))) (fun e => F12_j6 R k1 (e 0) (e 2) (e 3) (e 4) (e 5) (e 6) (e 7))))) = (F12_j15 R k1 (e 0) (e 2) (e 3) (e 4) (e 5) (e 6) (e 7) (e 8) (e 9) (e 10) (e 48)) := (den_join Pg R 0 (cd Try.f12 [1,1,1,1,1,0,1,0,0,1,0,0,1,1,1,1,0,1,1,1,1,1,1]) (cd Try.f12 [1,1,1,1,1,0,1,0,0,1,0,0,1,1,1,1,0,1,1,1,1,1,1,1]) e (inB 2 (inB 1 (setN (setN (inB 0 (setN (kont Pg R Try.f12) (fun e => F12_j2 R (e 0) (e 2) (e 3) (e 4)))) (fun e => k1 (e 0) (e 2) (e 3) (e 4) (e 5) (e 6) (e 7))) (fun e => F12_j6 R k1 (e 0) (e 2) (e 3) (e 4) (e 5) (e 6) (e 7))))) (fun e => F12_j16 R k1 (e 0) (e 2) (e 3) (e 4) (e 5) (e 6) (e 7) (e 8) (e 9) (e 10) (e 48) (e 58)) _ (by kernel_rfl) (fun e => F12_j16_ok R k1 e) (by kernel_rfl))
def F12_j14 (R : ER) (k1 : V7) (x0 x2 x3 x4 x5 x6 x7 x8 x9 x10 x48 x55 : Value) : WP :=
  cnd x55 (pv (faO 1 x4) fun v51 =>
  st1 v51 (.bool true) fun _ =>
  F12_j6 R k1 x0 x2 x3 x4 x5 x6 x7) (F12_j15 R k1 x0 x2 x3 x4 x5 x6 x7 x8 x9 x10 x48)
theorem F12_j14_ok (R : ER) (k1 : V7) (e : Env) : den Pg R (cd Try.f12 [1,1,1,1,1,0,1,0,0,1,0,0,1,1,1,1,0,1,1,1,1,1]) e (inB 2 (inB 1 (setN (setN (inB 0 (setN (kont Pg R Try.f12) (fun e => F12_j2 R (e 0) (e 2) (e 3) (e 4)))) (fun e => k1 (e 0) (e 2) (e 3) (e 4) (e 5) (e 6) (e 7))) (fun e => F12_j6 R k1 (e 0) (e 2) (e 3) (e 4) (e 5) (e 6) (e 7))))) = (F12_j14 R k1 (e 0) (e 2) (e 3) (e 4) (e 5) (e 6) (e 7) (e 8) (e 9) (e 10) (e 48) (e 55)) := (den_if Pg R (cd Try.f12 [1,1,1,1,1,0,1,0,0,1,0,0,1,1,1,1,0,1,1,1,1,1]) (cd Try.f12 [1,1,1,1,1,0,1,0,0,1,0,0,1,1,1,1,0,1,1,1,1,1,0]) (cd Try.f12 [1,1,1,1,1,0,1,0,0,1,0,0,1,1,1,1,0,1,1,1,1,1,1]) e (inB 2 (inB 1 (setN (setN (inB 0 (setN (kont Pg R Try.f12) (fun e => F12_j2 R (e 0) (e 2) (e 3) (e 4)))) (fun e => k1 (e 0) (e 2) (e 3) (e 4) (e 5) (e 6) (e 7))) (fun e => F12_j6 R k1 (e 0) (e 2) (e 3) (e 4) (e 5) (e 6) (e 7))))) _ (F12_j15 R k1 (e 0) (e 2) (e 3) (e 4) (e 5) (e 6) (e 7) (e 8) (e 9) (e 10) (e 48)) _ (by kernel_rfl) rfl (F12_j15_ok R k1 e) (by kernel_rfl))
def F12_j13 (R : ER) (k1 : V7) (x0 x2 x3 x4 x5 x6 x7 x8 x9 x10 x48 : Value) : WP :=
  pv (binS .eql x48 (.string ⟨⟨[113,117,105,99,107]⟩⟩)) fun v52 =>
  F12_j14 R k1 x0 x2 x3 x4 x5 x6 x7 x8 x9 x10 x48 v52
theorem F12_j13_ok (R : ER) (k1 : V7) (e : Env) : den Pg R (cd Try.f12 [1,1,1,1,1,0,1,0,0,1,0,0,1,1,1,1,0,1,1,1,1]) e (inB 2 (inB 1 (setN (setN (inB 0 (setN (kont Pg R Try.f12) (fun e => F12_j2 R (e 0) (e 2) (e 3) (e 4)))) (fun e => k1 (e 0) (e 2) (e 3) (e 4) (e 5) (e 6) (e 7))) (fun e => F12_j6 R k1 (e 0) (e 2) (e 3) (e 4) (e 5) (e 6) (e 7))))) = (F12_j13 R k1 (e 0) (e 2) (e 3) (e 4) (e 5) (e 6) (e 7) (e 8) (e 9) (e 10) (e 48)) := (den_join Pg R 0 (cd Try.f12 [1,1,1,1,1,0,1,0,0,1,0,0,1,1,1,1,0,1,1,1,1]) (cd Try.f12 [1,1,1,1,1,0,1,0,0,1,0,0,1,1,1,1,0,1,1,1,1,1]) e (inB 2 (inB 1 (setN (setN (inB 0 (setN (kont Pg R Try.f12) (fun e => F12_j2 R (e 0) (e 2) (e 3) (e 4)))) (fun e => k1 (e 0) (e 2) (e 3) (e 4) (e 5) (e 6) (e 7))) (fun e => F12_j6 R k1 (e 0) (e 2) (e 3) (e 4) (e 5) (e 6) (e 7))))) (fun e => F12_j14 R k1 (e 0) (e 2) (e 3) (e 4) (e 5) (e 6) (e 7) (e 8) (e 9) (e 10) (e 48) (e 55)) _ (by kernel_rfl) (fun e => F12_j14_ok R k1 e) (by kernel_rfl))
def F12_j12 (R : ER) (k1 : V7) (x0 x2 x3 x4 x5 x6 x7 x8 x9 x10 x48 x52 : Value) : WP :=
  cnd x52 (pv (faO 0 x4) fun v53 =>
  st1 v53 (.int .i64 2) fun _ =>
  F12_j6 R k1 x0 x2 x3 x4 x5 x6 x7) (F12_j13 R k1 x0 x2 x3 x4 x5 x6 x7 x8 x9 x10 x48)
theorem F12_j12_ok (R : ER) (k1 : V7) (e : Env) : den Pg R (cd Try.f12 [1,1,1,1,1,0,1,0,0,1,0,0,1,1,1,1,0,1,1,1]) e (inB 2 (inB 1 (setN (setN (inB 0 (setN (kont Pg R Try.f12) (fun e => F12_j2 R (e 0) (e 2) (e 3) (e 4)))) (fun e => k1 (e 0) (e 2) (e 3) (e 4) (e 5) (e 6) (e 7))) (fun e => F12_j6 R k1 (e 0) (e 2) (e 3) (e 4) (e 5) (e 6) (e 7))))) = (F12_j12 R k1 (e 0) (e 2) (e 3) (e 4) (e 5) (e 6) (e 7) (e 8) (e 9) (e 10) (e 48) (e 52)) := (den_if Pg R (cd Try.f12 [1,1,1,1,1,0,1,0,0,1,0,0,1,1,1,1,0,1,1,1]) (cd Try.f12 [1,1,1,1,1,0,1,0,0,1,0,0,1,1,1,1,0,1,1,1,0]) (cd Try.f12 [1,1,1,1,1,0,1,0,0,1,0,0,1,1,1,1,0,1,1,1,1]) e (inB 2 (inB 1 (setN (setN (inB 0 (setN (kont Pg R Try.f12) (fun e => F12_j2 R (e 0) (e 2) (e 3) (e 4)))) (fun e => k1 (e 0) (e 2) (e 3) (e 4) (e 5) (e 6) (e 7))) (fun e => F12_j6 R k1 (e 0) (e 2) (e 3) (e 4) (e 5) (e 6) (e 7))))) _ (F12_j13 R k1 (e 0) (e 2) (e 3) (e 4) (e 5) (e 6) (e 7) (e 8) (e 9) (e 10) (e 48)) _ (by kernel_rfl) rfl (F12_j13_ok R k1 e) (by kernel_rfl))
def F12_j11 (R : ER) (k1 : V7) (x0 x2 x3 x4 x5 x6 x7 x8 x9 x10 x48 : Value) : WP :=
  pv (binS .eql x48 (.string ⟨⟨[98,108,111,99,107]⟩⟩)) fun v54 =>
  F12_j12 R k1 x0 x2 x3 x4 x5 x6 x7 x8 x9 x10 x48 v54
theorem F12_j11_ok (R : ER) (k1 : V7) (e : Env) : den Pg R (cd Try.f12 [1,1,1,1,1,0,1,0,0,1,0,0,1,1,1,1,0,1,1]) e (inB 2 (inB 1 (setN (setN (inB 0 (setN (kont Pg R Try.f12) (fun e => F12_j2 R (e 0) (e 2) (e 3) (e 4)))) (fun e => k1 (e 0) (e 2) (e 3) (e 4) (e 5) (e 6) (e 7))) (fun e => F12_j6 R k1 (e 0) (e 2) (e 3) (e 4) (e 5) (e 6) (e 7))))) = (F12_j11 R k1 (e 0) (e 2) (e 3) (e 4) (e 5) (e 6) (e 7) (e 8) (e 9) (e 10) (e 48)) := (den_join Pg R 0 (cd Try.f12 [1,1,1,1,1,0,1,0,0,1,0,0,1,1,1,1,0,1,1]) (cd Try.f12 [1,1,1,1,1,0,1,0,0,1,0,0,1,1,1,1,0,1,1,1]) e (inB 2 (inB 1 (setN (setN (inB 0 (setN (kont Pg R Try.f12) (fun e => F12_j2 R (e 0) (e 2) (e 3) (e 4)))) (fun e => k1 (e 0) (e 2) (e 3) (e 4) (e 5) (e 6) (e 7))) (fun e => F12_j6 R k1 (e 0) (e 2) (e 3) (e 4) (e 5) (e 6) (e 7))))) (fun e => F12_j12 R k1 (e 0) (e 2) (e 3) (e 4) (e 5) (e 6) (e 7) (e 8) (e 9) (e 10) (e 48) (e 52)) _ (by kernel_rfl) (fun e => F12_j12_ok R k1 e) (by kernel_rfl))
def F12_j10 (R : ER) (k1 : V7) (x0 x2 x3 x4 x5 x6 x7 x8 x9 x10 x48 x49 : Value) : WP :=
  cnd x49 (pv (faO 0 x4) fun v55 =>
  st1 v55 (.int .i64 1) fun _ =>
  F12_j6 R k1 x0 x2 x3 x4 x5 x6 x7) (F12_j11 R k1 x0 x2 x3 x4 x5 x6 x7 x8 x9 x10 x48)
theorem F12_j10_ok (R : ER) (k1 : V7) (e : Env) : den Pg R (cd Try.f12 [1,1,1,1,1,0,1,0,0,1,0,0,1,1,1,1,0,1]) e (inB 2 (inB 1 (setN (setN (inB 0 (setN (kont Pg R Try.f12) (fun e => F12_j2 R (e 0) (e 2) (e 3) (e 4)))) (fun e => k1 (e 0) (e 2) (e 3) (e 4) (e 5) (e 6) (e 7))) (fun e => F12_j6 R k1 (e 0) (e 2) (e 3) (e 4) (e 5) (e 6) (e 7))))) = (F12_j10 R k1 (e 0) (e 2) (e 3) (e 4) (e 5) (e 6) (e 7) (e 8) (e 9) (e 10) (e 48) (e 49)) := (den_if Pg R (cd Try.f12 [1,1,1,1,1,0,1,0,0,1,0,0,1,1,1,1,0,1]) (cd Try.f12 [1,1,1,1,1,0,1,0,0,1,0,0,1,1,1,1,0,1,0]) (cd Try.f12 [1,1,1,1,1,0,1,0,0,1,0,0,1,1,1,1,0,1,1]) e (inB 2 (inB 1 (setN (setN (inB 0 (setN (kont Pg R Try.f12) (fun e => F12_j2 R (e 0) (e 2) (e 3) (e 4)))) (fun e => k1 (e 0) (e 2) (e 3) (e 4) (e 5) (e 6) (e 7))) (fun e => F12_j6 R k1 (e 0) (e 2) (e 3) (e 4) (e 5) (e 6) (e 7))))) _ (F12_j11 R k1 (e 0) (e 2) (e 3) (e 4) (e 5) (e 6) (e 7) (e 8) (e 9) (e 10) (e 48)) _ (by kernel_rfl) rfl (F12_j11_ok R k1 e) (by kernel_rfl))
def F12_j9 (R : ER) (k1 : V7) (x0 x2 x3 x4 x5 x6 x7 x8 x9 x10 x48 : Value) : WP :=
  pv (binS .eql x48 (.string ⟨⟨[112,97,115,115]⟩⟩)) fun v56 =>
  F12_j10 R k1 x0 x2 x3 x4 x5 x6 x7 x8 x9 x10 x48 v56
theorem F12_j9_ok (R : ER) (k1 : V7) (e : Env) : den Pg R (cd Try.f12 [1,1,1,1,1,0,1,0,0,1,0,0,1,1,1,1]) e (inB 1 (setN (setN (inB 0 (setN (kont Pg R Try.f12) (fun e => F12_j2 R (e 0) (e 2) (e 3) (e 4)))) (fun e => k1 (e 0) (e 2) (e 3) (e 4) (e 5) (e 6) (e 7))) (fun e => F12_j6 R k1 (e 0) (e 2) (e 3) (e 4) (e 5) (e 6) (e 7)))) = (F12_j9 R k1 (e 0) (e 2) (e 3) (e 4) (e 5) (e 6) (e 7) (e 8) (e 9) (e 10) (e 48)) := (den_block Pg R (cd Try.f12 [1,1,1,1,1,0,1,0,0,1,0,0,1,1,1,1]) 2 (cd Try.f12 [1,1,1,1,1,0,1,0,0,1,0,0,1,1,1,1,0]) e (inB 1 (setN (setN (inB 0 (setN (kont Pg R Try.f12) (fun e => F12_j2 R (e 0) (e 2) (e 3) (e 4)))) (fun e => k1 (e 0) (e 2) (e 3) (e 4) (e 5) (e 6) (e 7))) (fun e => F12_j6 R k1 (e 0) (e 2) (e 3) (e 4) (e 5) (e 6) (e 7)))) _ (by kernel_rfl) (den_join Pg R 0 (cd Try.f12 [1,1,1,1,1,0,1,0,0,1,0,0,1,1,1,1,0]) (cd Try.f12 [1,1,1,1,1,0,1,0,0,1,0,0,1,1,1,1,0,1]) e (inB 2 (inB 1 (setN (setN (inB 0 (setN (kont Pg R Try.f12) (fun e => F12_j2 R (e 0) (e 2) (e 3) (e 4)))) (fun e => k1 (e 0) (e 2) (e 3) (e 4) (e 5) (e 6) (e 7))) (fun e => F12_j6 R k1 (e 0) (e 2) (e 3) (e 4) (e 5) (e 6) (e 7))))) (fun e => F12_j10 R k1 (e 0) (e 2) (e 3) (e 4) (e 5) (e 6) (e 7) (e 8) (e 9) (e 10) (e 48) (e 49)) _ (by kernel_rfl) (fun e => F12_j10_ok R k1 e) (by kernel_rfl)))
def F12_j8 (R : ER) (k1 : V7) (x0 x2 x3 x4 x5 x6 x7 x8 : Value) : WP :=
  cal Pg R 39 ⟨[x8]⟩ fun v57 =>
  pv (extO 0 v57) fun v58 =>
  pv (extO 1 v57) fun v59 =>
  pv (ixS 1 x5 x7) fun v60 =>
  ld1 v60 fun v61 =>
  F12_j9 R k1 x0 x2 x3 x4 x5 x6 x7 x8 v58 v59 v61
theorem F12_j8_ok (R : ER) (k1 : V7) (e : Env) : den Pg R (cd Try.f12 [1,1,1,1,1,0,1,0,0,1,0,0,1,1]) e (inB 1 (setN (setN (inB 0 (setN (kont Pg R Try.f12) (fun e => F12_j2 R (e 0) (e 2) (e 3) (e 4)))) (fun e => k1 (e 0) (e 2) (e 3) (e 4) (e 5) (e 6) (e 7))) (fun e => F12_j6 R k1 (e 0) (e 2) (e 3) (e 4) (e 5) (e 6) (e 7)))) = (F12_j8 R k1 (e 0) (e 2) (e 3) (e 4) (e 5) (e 6) (e 7) (e 8)) := (den_join Pg R 1 (cd Try.f12 [1,1,1,1,1,0,1,0,0,1,0,0,1,1]) (cd Try.f12 [1,1,1,1,1,0,1,0,0,1,0,0,1,1,1,1]) e (inB 1 (setN (setN (inB 0 (setN (kont Pg R Try.f12) (fun e => F12_j2 R (e 0) (e 2) (e 3) (e 4)))) (fun e => k1 (e 0) (e 2) (e 3) (e 4) (e 5) (e 6) (e 7))) (fun e => F12_j6 R k1 (e 0) (e 2) (e 3) (e 4) (e 5) (e 6) (e 7)))) (fun e => F12_j9 R k1 (e 0) (e 2) (e 3) (e 4) (e 5) (e 6) (e 7) (e 8) (e 9) (e 10) (e 48)) _ (by kernel_rfl) (fun e => F12_j9_ok R k1 e) (by kernel_rfl))
def F12_j7 (R : ER) (k1 : V7) (x0 x2 x3 x4 x5 x6 x7 : Value) : WP :=
  pv (bin .add x7 (.int .i64 1)) fun v62 =>
  pv (lenS x5) fun v63 =>
  pv (bin .lss v62 v63) fun v64 =>
  cnd v64 (
   pv (bin .add x7 (.int .i64 1)) fun v65 =>
   pv (ixS 1 x5 v65) fun v66 =>
   ld1 v66 fun v67 =>
   F12_j8 R k1 x0 x2 x3 x4 x5 x6 x7 v67) (
   F12_j8 R k1 x0 x2 x3 x4 x5 x6 x7 (.string ⟨⟨[]⟩⟩))
theorem F12_j7_ok (R : ER) (k1 : V7) (e : Env) : den Pg R (cd Try.f12 [1,1,1,1,1,0,1,0,0,1,0]) e (setN (setN (inB 0 (setN (kont Pg R Try.f12) (fun e => F12_j2 R (e 0) (e 2) (e 3) (e 4)))) (fun e => k1 (e 0) (e 2) (e 3) (e 4) (e 5) (e 6) (e 7))) (fun e => F12_j6 R k1 (e 0) (e 2) (e 3) (e 4) (e 5) (e 6) (e 7))) = (F12_j7 R k1 (e 0) (e 2) (e 3) (e 4) (e 5) (e 6) (e 7)) := (den_block Pg R (cd Try.f12 [1,1,1,1,1,0,1,0,0,1,0]) 1 (cd Try.f12 [1,1,1,1,1,0,1,0,0,1,0,0]) e (setN (setN (inB 0 (setN (kont Pg R Try.f12) (fun e => F12_j2 R (e 0) (e 2) (e 3) (e 4)))) (fun e => k1 (e 0) (e 2) (e 3) (e 4) (e 5) (e 6) (e 7))) (fun e => F12_j6 R k1 (e 0) (e 2) (e 3) (e 4) (e 5) (e 6) (e 7))) _ (by kernel_rfl) (den_join Pg R 1 (cd Try.f12 [1,1,1,1,1,0,1,0,0,1,0,0]) (cd Try.f12 [1,1,1,1,1,0,1,0,0,1,0,0,1,1]) e (inB 1 (setN (setN (inB 0 (setN (kont Pg R Try.f12) (fun e => F12_j2 R (e 0) (e 2) (e 3) (e 4)))) (fun e => k1 (e 0) (e 2) (e 3) (e 4) (e 5) (e 6) (e 7))) (fun e => F12_j6 R k1 (e 0) (e 2) (e 3) (e 4) (e 5) (e 6) (e 7)))) (fun e => F12_j8 R k1 (e 0) (e 2) (e 3) (e 4) (e 5) (e 6) (e 7) (e 8)) _ (by kernel_rfl) (fun e => F12_j8_ok R k1 e) (by kernel_rfl)))
def F12_j5 (R : ER) (k1 : V7) (x0 x2 x3 x4 x5 x6 x7 : Value) : WP :=
  F12_j7 R k1 x0 x2 x3 x4 x5 x6 x7
theorem F12_j5_ok (R : ER) (k1 : V7) (e : Env) : den Pg R (cd Try.f12 [1,1,1,1,1,0,1,0,0,1]) e (setN (inB 0 (setN (kont Pg R Try.f12) (fun e => F12_j2 R (e 0) (e 2) (e 3) (e 4)))) (fun e => k1 (e 0) (e 2) (e 3) (e 4) (e 5) (e 6) (e 7))) = (F12_j5 R k1 (e 0) (e 2) (e 3) (e 4) (e 5) (e 6) (e 7)) := (den_join Pg R 0 (cd Try.f12 [1,1,1,1,1,0,1,0,0,1]) (cd Try.f12 [1,1,1,1,1,0,1,0,0,1,1]) e (setN (inB 0 (setN (kont Pg R Try.f12) (fun e => F12_j2 R (e 0) (e 2) (e 3) (e 4)))) (fun e => k1 (e 0) (e 2) (e 3) (e 4) (e 5) (e 6) (e 7))) (fun e => F12_j6 R k1 (e 0) (e 2) (e 3) (e 4) (e 5) (e 6) (e 7)) _ (by kernel_rfl) (fun e => F12_j6_ok R k1 e) (den_conv Pg R (pre 0 (cd Try.f12 [1,1,1,1,1,0,1,0,0,1])) (cd Try.f12 [1,1,1,1,1,0,1,0,0,1,0]) e (setN (setN (inB 0 (setN (kont Pg R Try.f12) (fun e => F12_j2 R (e 0) (e 2) (e 3) (e 4)))) (fun e => k1 (e 0) (e 2) (e 3) (e 4) (e 5) (e 6) (e 7))) (fun e => F12_j6 R k1 (e 0) (e 2) (e 3) (e 4) (e 5) (e 6) (e 7))) _ (by kernel_rfl) (F12_j7_ok R k1 e)))
def F12_b1 (R : ER) (k1 : V7) (x0 x2 x3 x4 x5 x6 x7 : Value) : WP :=
  pv (lenS x5) fun v68 =>
  pv (bin .lss x7 v68) fun v69 =>
  cnd v69 (
   F12_j5 R k1 x0 x2 x3 x4 x5 x6 x7) (
   F12_j2 R x0 x2 x3 x4)
theorem F12_b1_ok (R : ER) (k1 : V7) (e : Env) : den Pg R (cd Try.f12 [1,1,1,1,1,0,1,0,0]) e (setN (inB 0 (setN (kont Pg R Try.f12) (fun e => F12_j2 R (e 0) (e 2) (e 3) (e 4)))) (fun e => k1 (e 0) (e 2) (e 3) (e 4) (e 5) (e 6) (e 7))) = (F12_b1 R k1 (e 0) (e 2) (e 3) (e 4) (e 5) (e 6) (e 7)) := (den_join Pg R 0 (cd Try.f12 [1,1,1,1,1,0,1,0,0]) (cd Try.f12 [1,1,1,1,1,0,1,0,0,1]) e (setN (inB 0 (setN (kont Pg R Try.f12) (fun e => F12_j2 R (e 0) (e 2) (e 3) (e 4)))) (fun e => k1 (e 0) (e 2) (e 3) (e 4) (e 5) (e 6) (e 7))) (fun e => F12_j5 R k1 (e 0) (e 2) (e 3) (e 4) (e 5) (e 6) (e 7)) _ (by kernel_rfl) (fun e => F12_j5_ok R k1 e) (by kernel_rfl))
noncomputable def F12_l1 (R : ER) (n : Nat) : V7 := Nat.rec (motive := fun _ => V7) (fun _ _ _ _ _ _ _ => fun _ => False) (fun _ ih => fun x0 x2 x3 x4 x5 x6 x7 => F12_b1 R ih x0 x2 x3 x4 x5 x6 x7) n
theorem F12_l1_succ (R : ER) (n : Nat) (x0 x2 x3 x4 x5 x6 x7 : Value) : F12_l1 R (n + 1) x0 x2 x3 x4 x5 x6 x7 = F12_b1 R (F12_l1 R n) x0 x2 x3 x4 x5 x6 x7 := rfl
theorem F12_l1_ok (R : ER) : ∀ (n : Nat) (e : Env), iterL (den Pg R (cd Try.f12 [1,1,1,1,1,0,1,0,0])) n e (inB 0 (setN (kont Pg R Try.f12) (fun e => F12_j2 R (e 0) (e 2) (e 3) (e 4)))) = F12_l1 R n (e 0) (e 2) (e 3) (e 4) (e 5) (e 6) (e 7) :=
  iterL_join (den Pg R (cd Try.f12 [1,1,1,1,1,0,1,0,0])) (inB 0 (setN (kont Pg R Try.f12) (fun e => F12_j2 R (e 0) (e 2) (e 3) (e 4)))) (fun n e => F12_l1 R n (e 0) (e 2) (e 3) (e 4) (e 5) (e 6) (e 7)) (fun _ => rfl) (fun n e => (F12_b1_ok R (F12_l1 R n) e).trans (F12_l1_succ R n (e 0) (e 2) (e 3) (e 4) (e 5) (e 6) (e 7)).symm)
def F12_j4 (R : ER) (x0 x2 x3 x4 x5 x6 x7 : Value) : WP :=
  exN fun n => F12_l1 R n x0 x2 x3 x4 x5 x6 x7
theorem F12_j4_ok (R : ER) (e : Env) : den Pg R (cd Try.f12 [1,1,1,1,1,0,1]) e (setN (kont Pg R Try.f12) (fun e => F12_j2 R (e 0) (e 2) (e 3) (e 4))) = (F12_j4 R (e 0) (e 2) (e 3) (e 4) (e 5) (e 6) (e 7)) := (den_block Pg R (cd Try.f12 [1,1,1,1,1,0,1]) 0 (cd Try.f12 [1,1,1,1,1,0,1,0]) e (setN (kont Pg R Try.f12) (fun e => F12_j2 R (e 0) (e 2) (e 3) (e 4))) _ (by kernel_rfl) (den_loop Pg R (cd Try.f12 [1,1,1,1,1,0,1,0]) (cd Try.f12 [1,1,1,1,1,0,1,0,0]) e (inB 0 (setN (kont Pg R Try.f12) (fun e => F12_j2 R (e 0) (e 2) (e 3) (e 4)))) (fun n e => F12_l1 R n (e 0) (e 2) (e 3) (e 4) (e 5) (e 6) (e 7)) _ (by kernel_rfl) (F12_l1_ok R) (by kernel_rfl)))
def F12_j3 (R : ER) (x0 x2 x3 x4 x5 x6 : Value) : WP :=
  F12_j4 R x0 x2 x3 x4 x5 x6 (.int .i64 0)
theorem F12_j3_ok (R : ER) (e : Env) : den Pg R (cd Try.f12 [1,1,1,1,1,0]) e (setN (kont Pg R Try.f12) (fun e => F12_j2 R (e 0) (e 2) (e 3) (e 4))) = (F12_j3 R (e 0) (e 2) (e 3) (e 4) (e 5) (e 6)) := (den_join Pg R 0 (cd Try.f12 [1,1,1,1,1,0]) (cd Try.f12 [1,1,1,1,1,0,1]) e (setN (kont Pg R Try.f12) (fun e => F12_j2 R (e 0) (e 2) (e 3) (e 4))) (fun e => F12_j4 R (e 0) (e 2) (e 3) (e 4) (e 5) (e 6) (e 7)) _ (by kernel_rfl) (fun e => F12_j4_ok R e) (by kernel_rfl))
def F12_j1 (R : ER) (x0 x2 x3 : Value) : WP :=
  pv (bldO [.int .i64 0, .int .i64 0] [(0,1, (.int .i64 0)), (1,1, (.int .i64 65535))]) fun v70 =>
  pv (bldO [.int .i64 0, .int .i64 0] [(0,1, (.int .i64 0)), (1,1, (.int .i64 65535))]) fun v71 =>
  pv (bldO [.int .i64 0, .bool false, .bool false, .int .i64 0, .int .i64 0, .int .i64 0, .int .u32 0, .int .i64 0, .bool false, .int .u32 0, .int .i64 0, .bool false, .int .i64 0, .int .i64 0, .int .i64 0, .int .i64 0] [(3,1, (.int .i64 3)), (4,1, (.int .i64 (-1))), (5,1, (.int .i64 (-1))), (12,2, v70), (14,2, v71)]) fun v72 =>
  al Pg 38 fun v73 =>
  stN 16 v73 v72 fun _ =>
  cal Pg R 38 ⟨[x0]⟩ fun v74 =>
  F12_j3 R x0 x2 x3 v73 v74 (.bool false)
theorem F12_j1_ok (R : ER) (e : Env) : den Pg R (cd Try.f12 [1,1]) e (kont Pg R Try.f12) = (F12_j1 R (e 0) (e 2) (e 3)) := (den_join Pg R 3 (cd Try.f12 [1,1]) (cd Try.f12 [1,1,1,1,1,1]) e (kont Pg R Try.f12) (fun e => F12_j2 R (e 0) (e 2) (e 3) (e 4)) _ (by kernel_rfl) (fun e => F12_j2_ok R e) (den_join Pg R 2 (pre 3 (cd Try.f12 [1,1])) (cd Try.f12 [1,1,1,1,1,0]) e (setN (kont Pg R Try.f12) (fun e => F12_j2 R (e 0) (e 2) (e 3) (e 4))) (fun e => F12_j3 R (e 0) (e 2) (e 3) (e 4) (e 5) (e 6)) _ (by kernel_rfl) (fun e => F12_j3_ok R e) (by kernel_rfl)))
def F12 (R : ER) (x0 : Value) : WP :=
  al Pg 38 fun v75 =>
  al Pg 32 fun v76 =>
  pv (lenStr x0) fun v77 =>
  pv (bin .gtr v77 (.int .i64 200)) fun v78 =>
  cnd v78 (
   pv (bldO [.int .i64 0, .bool false, .bool false, .int .i64 0, .int .i64 0, .int .i64 0, .int .u32 0, .int .i64 0, .bool false, .int .u32 0, .int .i64 0, .bool false, .int .i64 0, .int .i64 0, .int .i64 0, .int .i64 0] []) fun v79 =>
   pv (bldO [.int .i64 0, .int .i64 0] [(1,1, (.int .i64 18))]) fun v80 =>
   stN 16 v75 v79 fun _ =>
   stN 2 v76 v80 fun _ =>
   ldN 16 v75 fun v81 => ldN 2 v76 fun v82 => R (.returned (.tuple ⟨[v81, v82]⟩))) (
   F12_j1 R x0 v75 v76)
theorem F12_den (R : ER) (x0 : Value) : den Pg R (cd Try.f12 []) (argsEnv [x0]) (kont Pg R Try.f12) = F12 R x0 :=
  have h : ∀ e, den Pg R (cd Try.f12 []) e (kont Pg R Try.f12) = F12 R (e 0) := fun e => (den_join Pg R 1 (cd Try.f12 []) (cd Try.f12 [1,1]) e (kont Pg R Try.f12) (fun e => F12_j1 R (e 0) (e 2) (e 3)) _ (by kernel_rfl) (fun e => F12_j1_ok R e) (by kernel_rfl))
  h _
theorem F12_calls {R : ER} {x0 : Value} {w : World} (h : F12 R x0 w) : Calls Pg 12 ⟨[x0]⟩ w R :=
  calls_of_den Try.func12 (by kernel_rfl) (by kernel_rfl) (F12_den R x0) h
/-! ### 13: orpimentlaw39_rule -/
def F13 (R : ER) (x0 : Value) : WP :=
  bx 29 x0 fun v1 =>
  al Pg 38 fun v2 =>
  pv (faO 0 v1) fun v3 =>
  ld1 v3 fun v4 =>
  pv (faO 1 v1) fun v5 =>
  ld1 v5 fun v6 =>
  pv (faO 2 v1) fun v7 =>
  ld1 v7 fun v8 =>
  pv (faO 3 v1) fun v9 =>
  ld1 v9 fun v10 =>
  pv (faO 4 v1) fun v11 =>
  ld1 v11 fun v12 =>
  pv (faO 5 v1) fun v13 =>
  ld1 v13 fun v14 =>
  pv (faO 6 v1) fun v15 =>
  ldN 3 v15 fun v16 =>
  pv (faO 9 v1) fun v17 =>
  ldN 3 v17 fun v18 =>
  pv (faO 12 v1) fun v19 =>
  ldN 2 v19 fun v20 =>
  pv (faO 14 v1) fun v21 =>
  ldN 2 v21 fun v22 =>
  pv (bldO [.int .i64 0, .bool false, .bool false, .int .i64 0, .int .i64 0, .int .i64 0, .int .u32 0, .int .i64 0, .bool false, .int .u32 0, .int .i64 0, .bool false, .int .i64 0, .int .i64 0, .int .i64 0, .int .i64 0] [(0,1, v4), (1,1, v6), (2,1, v8), (3,1, v10), (4,1, v12), (5,1, v14), (6,3, v16), (9,3, v18), (12,2, v20), (14,2, v22)]) fun v23 =>
  stN 16 v2 v23 fun _ =>
  ldN 16 v2 fun v24 => R (.returned v24)
theorem F13_den (R : ER) (x0 : Value) : den Pg R (cd Try.f13 []) (argsEnv [x0]) (kont Pg R Try.f13) = F13 R x0 :=
  have h : ∀ e, den Pg R (cd Try.f13 []) e (kont Pg R Try.f13) = F13 R (e 0) := fun e => by kernel_rfl
  h _
theorem F13_calls {R : ER} {x0 : Value} {w : World} (h : F13 R x0 w) : Calls Pg 13 ⟨[x0]⟩ w R :=
  calls_of_den Try.func13 (by kernel_rfl) (by kernel_rfl) (F13_den R x0) h
/-! ### 14: orpimentlaw39_decide -/
def F14_j1 (R : ER) (x3 x6 : Value) : WP :=
  pv (faO 7 x3) fun v1 =>
  st1 v1 (.bool false) fun _ =>
  ldN 8 x3 fun v2 =>
  cal Pg R 20 ⟨[x6, v2, (.int .i64 0)]⟩ fun v3 =>
  pv (extO 0 v3) fun v4 =>
  pv (extO 1 v3) fun v5 =>
  pv (extO 2 v3) fun v6 =>
  pv (bin .eql v6 (.int .i64 0)) fun v7 =>
  R (.returned (.tuple ⟨[v4, v7]⟩))
theorem F14_j1_ok (R : ER) (e : Env) : den Pg R (cd Try.f14 [1,1,1]) e (kont Pg R Try.f14) = (F14_j1 R (e 3) (e 6)) := by kernel_rfl
def F14 (R : ER) (x0 x1 : Value) : WP :=
  bx 45 x1 fun v8 =>
  cal Pg R 19 ⟨[x0, (.int .i64 1), (.int .i64 1)]⟩ fun v9 =>
  pv (extO 0 v9) fun v10 =>
  pv (extO 1 v9) fun v11 =>
  pv (bin .neq v11 (.int .i64 0)) fun v12 =>
  cnd v12 (
   R (.returned (.tuple ⟨[(.int .i64 0), (.bool false)]⟩))) (
   F14_j1 R v8 v10)
theorem F14_den (R : ER) (x0 x1 : Value) : den Pg R (cd Try.f14 []) (argsEnv [x0, x1]) (kont Pg R Try.f14) = F14 R x0 x1 :=
  have h : ∀ e, den Pg R (cd Try.f14 []) e (kont Pg R Try.f14) = F14 R (e 0) (e 1) := fun e => (den_join Pg R 2 (cd Try.f14 []) (cd Try.f14 [1,1,1]) e (kont Pg R Try.f14) (fun e => F14_j1 R (e 3) (e 6)) _ (by kernel_rfl) (fun e => F14_j1_ok R e) (by kernel_rfl))
  h _
theorem F14_calls {R : ER} {x0 x1 : Value} {w : World} (h : F14 R x0 x1 w) : Calls Pg 14 ⟨[x0, x1]⟩ w R :=
  calls_of_den Try.func14 (by kernel_rfl) (by kernel_rfl) (F14_den R x0 x1) h
/-! ### 15: filter_Check -/
def F15 (R : ER) (x0 : Value) : WP :=
  bx 29 x0 fun v1 =>
  pv (faO 0 v1) fun v2 =>
  ld1 v2 fun v3 =>
  cal Pg R 42 ⟨[v3, (.int .i64 1), (.int .i64 2)]⟩ fun v4 =>
  pv (unO .not v4) fun v5 =>
  gd v5 false (pv (faO 3 v1)) fun v6 =>
  gd v5 false (ld1 v6) fun v7 =>
  gd v5 false (cal Pg R 42 ⟨[v7, (.int .i64 1), (.int .i64 3)]⟩) fun v8 =>
  gd v5 false (pv (unO .not v8)) fun v9 =>
  pv (pickO v5 (.bool true) v9) fun v10 =>
  cnd v10 (
   R (.returned (.int .i64 17))) (
   pv (faO 4 v1) fun v11 =>
   ld1 v11 fun v12 =>
   cal Pg R 42 ⟨[v12, (.int .i64 (-1)), (.int .i64 255)]⟩ fun v13 =>
   pv (unO .not v13) fun v14 =>
   gd v14 false (pv (faO 5 v1)) fun v15 =>
   gd v14 false (ld1 v15) fun v16 =>
   gd v14 false (cal Pg R 42 ⟨[v16, (.int .i64 (-1)), (.int .i64 255)]⟩) fun v17 =>
   gd v14 false (pv (unO .not v17)) fun v18 =>
   pv (pickO v14 (.bool true) v18) fun v19 =>
   gd v19 false (pv (faO 6 v1)) fun v20 =>
   gd v19 false (pv (faO 1 v20)) fun v21 =>
   gd v19 false (ld1 v21) fun v22 =>
   gd v19 false (cal Pg R 42 ⟨[v22, (.int .i64 0), (.int .i64 32)]⟩) fun v23 =>
   gd v19 false (pv (unO .not v23)) fun v24 =>
   pv (pickO v19 (.bool true) v24) fun v25 =>
   gd v25 false (pv (faO 9 v1)) fun v26 =>
   gd v25 false (pv (faO 1 v26)) fun v27 =>
   gd v25 false (ld1 v27) fun v28 =>
   gd v25 false (cal Pg R 42 ⟨[v28, (.int .i64 0), (.int .i64 32)]⟩) fun v29 =>
   gd v25 false (pv (unO .not v29)) fun v30 =>
   pv (pickO v25 (.bool true) v30) fun v31 =>
   gd v31 false (pv (faO 12 v1)) fun v32 =>
   gd v31 false (ldN 2 v32) fun v33 =>
   gd v31 false (cal Pg R 43 ⟨[v33]⟩) fun v34 =>
   gd v31 false (pv (unO .not v34)) fun v35 =>
   pv (pickO v31 (.bool true) v35) fun v36 =>
   gd v36 false (pv (faO 14 v1)) fun v37 =>
   gd v36 false (ldN 2 v37) fun v38 =>
   gd v36 false (cal Pg R 43 ⟨[v38]⟩) fun v39 =>
   gd v36 false (pv (unO .not v39)) fun v40 =>
   pv (pickO v36 (.bool true) v40) fun v41 =>
   cnd v41 (
    R (.returned (.int .i64 34))) (
    pv (faO 6 v1) fun v42 =>
    ldN 3 v42 fun v43 =>
    cal Pg R 44 ⟨[v43]⟩ fun v44 =>
    gd v44 false (pv (faO 9 v1)) fun v45 =>
    gd v44 false (ldN 3 v45) fun v46 =>
    gd v44 false (cal Pg R 44 ⟨[v46]⟩) fun v47 =>
    pv (pickO v44 (.bool true) v47) fun v48 =>
    gd v48 false (pv (faO 2 v1)) fun v49 =>
    gd v48 false (ld1 v49) fun v50 =>
    gd v48 false (pv (some v50)) fun v51 =>
    gd v51 true (pv (faO 0 v1)) fun v52 =>
    gd v51 true (ld1 v52) fun v53 =>
    gd v51 true (pv (bin .eql v53 (.int .i64 2))) fun v54 =>
    gd v48 false (pv (pickO v51 v54 (.bool false))) fun v55 =>
    pv (pickO v48 (.bool true) v55) fun v56 =>
    cnd v56 (
     R (.returned (.int .i64 14))) (
     R (.returned (.int .i64 0)))))
theorem F15_den (R : ER) (x0 : Value) : den Pg R (cd Try.f15 []) (argsEnv [x0]) (kont Pg R Try.f15) = F15 R x0 :=
  have h : ∀ e, den Pg R (cd Try.f15 []) e (kont Pg R Try.f15) = F15 R (e 0) := fun e => (by kernel_rfl)
  h _
theorem F15_calls {R : ER} {x0 : Value} {w : World} (h : F15 R x0 w) : Calls Pg 15 ⟨[x0]⟩ w R :=
  calls_of_den Try.func15 (by kernel_rfl) (by kernel_rfl) (F15_den R x0) h
/-! ### 16: filter_Matches -/
def F16 (R : ER) (x0 x1 : Value) : WP :=
  bx 29 x0 fun v1 =>
  bx 45 x1 fun v2 =>
  ldN 16 v1 fun v3 =>
  cal Pg R 15 ⟨[v3]⟩ fun v4 =>
  pv (bin .eql v4 (.int .i64 0)) fun v5 =>
  gd v5 true (ldN 8 v2) fun v6 =>
  gd v5 true (cal Pg R 45 ⟨[v6]⟩) fun v7 =>
  gd v5 true (pv (bin .eql v7 (.int .i64 0))) fun v8 =>
  pv (pickO v5 v8 (.bool false)) fun v9 =>
  gd v9 true (ldN 16 v1) fun v10 =>
  gd v9 true (ldN 8 v2) fun v11 =>
  gd v9 true (cal Pg R 46 ⟨[v10, v11]⟩) fun v12 =>
  pv (pickO v9 v12 (.bool false)) fun v13 =>
  R (.returned v13)
theorem F16_den (R : ER) (x0 x1 : Value) : den Pg R (cd Try.f16 []) (argsEnv [x0, x1]) (kont Pg R Try.f16) = F16 R x0 x1 :=
  have h : ∀ e, den Pg R (cd Try.f16 []) e (kont Pg R Try.f16) = F16 R (e 0) (e 1) := fun e => by kernel_rfl
  h _
theorem F16_calls {R : ER} {x0 x1 : Value} {w : World} (h : F16 R x0 x1 w) : Calls Pg 16 ⟨[x0, x1]⟩ w R :=
  calls_of_den Try.func16 (by kernel_rfl) (by kernel_rfl) (F16_den R x0 x1) h
/-! ### 17: orpimentlaw39_any -/
def F17 (R : ER) (x0 : Value) : WP :=
  al Pg 29 fun v1 =>
  pv (bldO [.int .i64 0, .int .i64 0] [(1,1, (.int .i64 65535))]) fun v2 =>
  pv (bldO [.int .i64 0, .int .i64 0] [(1,1, (.int .i64 65535))]) fun v3 =>
  pv (bldO [.int .i64 0, .bool false, .bool false, .int .i64 0, .int .i64 0, .int .i64 0, .int .u32 0, .int .i64 0, .bool false, .int .u32 0, .int .i64 0, .bool false, .int .i64 0, .int .i64 0, .int .i64 0, .int .i64 0] [(0,1, x0), (3,1, (.int .i64 3)), (4,1, (.int .i64 (-1))), (5,1, (.int .i64 (-1))), (12,2, v2), (14,2, v3)]) fun v4 =>
  stN 16 v1 v4 fun _ =>
  ldN 16 v1 fun v5 => R (.returned v5)
theorem F17_den (R : ER) (x0 : Value) : den Pg R (cd Try.f17 []) (argsEnv [x0]) (kont Pg R Try.f17) = F17 R x0 :=
  have h : ∀ e, den Pg R (cd Try.f17 []) e (kont Pg R Try.f17) = F17 R (e 0) := fun e => by kernel_rfl
  h _
theorem F17_calls {R : ER} {x0 : Value} {w : World} (h : F17 R x0 w) : Calls Pg 17 ⟨[x0]⟩ w R :=
  calls_of_den Try.func17 (by kernel_rfl) (by kernel_rfl) (F17_den R x0) h
/-! ### 18: slices_Clone -/
def F18 (R : ER) (x0 : Value) : WP :=
  pv (eqNilS x0) fun v1 =>
  cnd v1 (
   R (.returned (.slice none 0 0))) (
   valV Pg R (Instr.buildSlice 43 0 ⟨[]⟩) fun v2 =>
  blt Pg R .append ⟨[43,43]⟩ 43 ⟨[false, false]⟩ ⟨[v2, x0]⟩ fun v3 =>
  R (.returned v3))
theorem F18_den (R : ER) (x0 : Value) : den Pg R (cd Try.f18 []) (argsEnv [x0]) (kont Pg R Try.f18) = F18 R x0 :=
  have h : ∀ e, den Pg R (cd Try.f18 []) e (kont Pg R Try.f18) = F18 R (e 0) := fun e => by kernel_rfl
  h _
theorem F18_calls {R : ER} {x0 : Value} {w : World} (h : F18 R x0 w) : Calls Pg 18 ⟨[x0]⟩ w R :=
  calls_of_den Try.func18 (by kernel_rfl) (by kernel_rfl) (F18_den R x0) h
/-! ### 19: filter_New -/
def F19_j2 (R : ER) (x0 x1 x2 : Value) : WP :=
  drewV (
  pv (lenS x0) fun v1 =>
  allW [
  (mem fun w3 => cal Pg noR 18 ⟨[x0]⟩ fun v2 =>
   allW [
   (mem fun w5 => valV Pg noR (Instr.makeSlice 91 v1 v1) fun v4 =>
    mem fun w7 => valV Pg noR (Instr.makeMap 115 none) fun v6 =>
    pv (bldO [.slice none 0 0, .slice none 0 0, .int .i64 0, .int .i64 0, .map none, .int .i64 0, .int .i64 0] [(0,1, v2), (1,1, v4), (2,1, x1), (3,1, x2), (4,1, v6)]) fun v8 =>
    mem fun w10 => bx 117 v8 fun v9 =>
    R (.returned (.tuple ⟨[v9, (.int .i64 0)]⟩))),
   (mem fun w12 => valV Pg noR (Instr.makeMap 115 none) fun v11 =>
    mem fun w14 => valV Pg noR (Instr.makeSlice 91 v1 v1) fun v13 =>
    pv (bldO [.slice none 0 0, .slice none 0 0, .int .i64 0, .int .i64 0, .map none, .int .i64 0, .int .i64 0] [(0,1, v2), (1,1, v13), (2,1, x1), (3,1, x2), (4,1, v11)]) fun v15 =>
    mem fun w17 => bx 117 v15 fun v16 =>
    R (.returned (.tuple ⟨[v16, (.int .i64 0)]⟩)))]),
  (mem fun w19 => valV Pg noR (Instr.makeSlice 91 v1 v1) fun v18 =>
   allW [
   (mem fun w21 => cal Pg noR 18 ⟨[x0]⟩ fun v20 =>
    mem fun w23 => valV Pg noR (Instr.makeMap 115 none) fun v22 =>
    pv (bldO [.slice none 0 0, .slice none 0 0, .int .i64 0, .int .i64 0, .map none, .int .i64 0, .int .i64 0] [(0,1, v20), (1,1, v18), (2,1, x1), (3,1, x2), (4,1, v22)]) fun v24 =>
    mem fun w26 => bx 117 v24 fun v25 =>
    R (.returned (.tuple ⟨[v25, (.int .i64 0)]⟩))),
   (mem fun w28 => valV Pg noR (Instr.makeMap 115 none) fun v27 =>
    mem fun w30 => cal Pg noR 18 ⟨[x0]⟩ fun v29 =>
    pv (bldO [.slice none 0 0, .slice none 0 0, .int .i64 0, .int .i64 0, .map none, .int .i64 0, .int .i64 0] [(0,1, v29), (1,1, v18), (2,1, x1), (3,1, x2), (4,1, v27)]) fun v31 =>
    mem fun w33 => bx 117 v31 fun v32 =>
    R (.returned (.tuple ⟨[v32, (.int .i64 0)]⟩)))]),
  (mem fun w35 => valV Pg noR (Instr.makeMap 115 none) fun v34 =>
   allW [
   (mem fun w37 => cal Pg noR 18 ⟨[x0]⟩ fun v36 =>
    mem fun w39 => valV Pg noR (Instr.makeSlice 91 v1 v1) fun v38 =>
    pv (bldO [.slice none 0 0, .slice none 0 0, .int .i64 0, .int .i64 0, .map none, .int .i64 0, .int .i64 0] [(0,1, v36), (1,1, v38), (2,1, x1), (3,1, x2), (4,1, v34)]) fun v40 =>
    mem fun w42 => bx 117 v40 fun v41 =>
    R (.returned (.tuple ⟨[v41, (.int .i64 0)]⟩))),
   (mem fun w44 => valV Pg noR (Instr.makeSlice 91 v1 v1) fun v43 =>
    mem fun w46 => cal Pg noR 18 ⟨[x0]⟩ fun v45 =>
    pv (bldO [.slice none 0 0, .slice none 0 0, .int .i64 0, .int .i64 0, .map none, .int .i64 0, .int .i64 0] [(0,1, v45), (1,1, v43), (2,1, x1), (3,1, x2), (4,1, v34)]) fun v47 =>
    mem fun w49 => bx 117 v47 fun v48 =>
    R (.returned (.tuple ⟨[v48, (.int .i64 0)]⟩)))])])
theorem F19_j2_ok (R : ER) (e : Env) : den Pg R (cd Try.f19 [1,1,1]) e (kont Pg R Try.f19) = (F19_j2 R (e 0) (e 1) (e 2)) := by kernel_rfl
def F19_j3 (R : ER) (x0 x1 x2 : Value) : WP :=
  cal Pg R 42 ⟨[x1, (.int .i64 1), (.int .i64 100)]⟩ fun v50 =>
  pv (unO .not v50) fun v51 =>
  gd v51 false (pv (some x2)) fun v52 =>
  gd v51 false (pv (bin .lss v52 (.int .i64 1))) fun v53 =>
  pv (pickO v51 (.bool true) v53) fun v54 =>
  gd v54 false (pv (some x2)) fun v55 =>
  gd v54 false (pv (bin .gtr v55 (.int .i64 1099511627776))) fun v56 =>
  pv (pickO v54 (.bool true) v56) fun v57 =>
  cnd v57 (
   R (.returned (.tuple ⟨[(.pointer none), (.int .i64 34)]⟩))) (
   F19_j2 R x0 x1 x2)
theorem F19_j3_ok (R : ER) (e : Env) : den Pg R (cd Try.f19 [1,1,0]) e (setN (kont Pg R Try.f19) (fun e => F19_j2 R (e 0) (e 1) (e 2))) = (F19_j3 R (e 0) (e 1) (e 2)) := (by kernel_rfl)
def F19_j1 (R : ER) (x0 x1 x2 : Value) : WP :=
  F19_j3 R x0 x1 x2
theorem F19_j1_ok (R : ER) (e : Env) : den Pg R (cd Try.f19 [1,1]) e (kont Pg R Try.f19) = (F19_j1 R (e 0) (e 1) (e 2)) := (den_join Pg R 0 (cd Try.f19 [1,1]) (cd Try.f19 [1,1,1]) e (kont Pg R Try.f19) (fun e => F19_j2 R (e 0) (e 1) (e 2)) _ (by kernel_rfl) (fun e => F19_j2_ok R e) (den_conv Pg R (pre 0 (cd Try.f19 [1,1])) (cd Try.f19 [1,1,0]) e (setN (kont Pg R Try.f19) (fun e => F19_j2 R (e 0) (e 1) (e 2))) _ (by kernel_rfl) (F19_j3_ok R e)))
def F19 (R : ER) (x0 x1 x2 : Value) : WP :=
  cal Pg R 47 ⟨[x0]⟩ fun v58 =>
  pv (bin .neq v58 (.int .i64 0)) fun v59 =>
  cnd v59 (
   R (.returned (.tuple ⟨[(.pointer none), v58]⟩))) (
   F19_j1 R x0 x1 x2)
theorem F19_den (R : ER) (x0 x1 x2 : Value) : den Pg R (cd Try.f19 []) (argsEnv [x0, x1, x2]) (kont Pg R Try.f19) = F19 R x0 x1 x2 :=
  have h : ∀ e, den Pg R (cd Try.f19 []) e (kont Pg R Try.f19) = F19 R (e 0) (e 1) (e 2) := fun e => (den_join Pg R 1 (cd Try.f19 []) (cd Try.f19 [1,1]) e (kont Pg R Try.f19) (fun e => F19_j1 R (e 0) (e 1) (e 2)) _ (by kernel_rfl) (fun e => F19_j1_ok R e) (by kernel_rfl))
  h _
theorem F19_calls {R : ER} {x0 x1 x2 : Value} {w : World} (h : F19 R x0 x1 x2 w) : Calls Pg 19 ⟨[x0, x1, x2]⟩ w R :=
  calls_of_den Try.func19 (by kernel_rfl) (by kernel_rfl) (F19_den R x0 x1 x2) h
/-! ### 20: filter_Filter_Decide -/
def F20_j8 (R : ER) (x0 x17 : Value) : WP :=
  pv (nilO x0) fun v1 =>
  pv (faO 0 v1) fun v2 =>
  ld1 v2 fun v3 =>
  pv (ixS 16 v3 x17) fun v4 =>
  pv (faO 0 v4) fun v5 =>
  ld1 v5 fun v6 =>
  R (.returned (.tuple ⟨[v6, x17, (.int .i64 0)]⟩))
theorem F20_j8_ok (R : ER) (e : Env) : den Pg R (cd Try.f20 [1,1,1,1,1,1,1,1,1,1,1,1,1]) e (kont Pg R Try.f20) = (F20_j8 R (e 0) (e 17)) := by kernel_rfl
def F20_j9 (R : ER) (x0 x2 x4 x12 x17 : Value) : WP :=
  pv (nilO x0) fun v7 =>
  pv (faO 0 v7) fun v8 =>
  ld1 v8 fun v9 =>
  pv (ixS 16 v9 x17) fun v10 =>
  ldN 16 v10 fun v11 =>
  al Pg 29 fun v12 =>
  stN 16 v12 v11 fun _ =>
  pv (faO 2 v12) fun v13 =>
  ld1 v13 fun v14 =>
  gd v14 true (pv (faO 7 x4)) fun v15 =>
  gd v14 true (ld1 v15) fun v16 =>
  pv (pickO v14 v16 (.bool false)) fun v17 =>
  cnd v17 (
   drewV (
   ldN 5 x12 fun v18 =>
   pv (nilO x0) fun v19 =>
   pv (faO 3 v19) fun v20 =>
   ld1 v20 fun v21 =>
   pv (bin .add x2 v21) fun v22 =>
   mem fun w24 => cal Pg noR 50 ⟨[x0, v18, v22]⟩ fun v23 =>
   F20_j8 R x0 x17)) (
   F20_j8 R x0 x17)
theorem F20_j9_ok (R : ER) (e : Env) : den Pg R (cd Try.f20 [1,1,1,1,1,1,1,1,1,1,1,1,0]) e (setN (kont Pg R Try.f20) (fun e => F20_j8 R (e 0) (e 17))) = (F20_j9 R (e 0) (e 2) (e 4) (e 12) (e 17)) := (by kernel_rfl)
def F20_j7 (R : ER) (x0 x2 x4 x12 x17 : Value) : WP :=
  pv (nilO x0) fun v25 =>
  pv (faO 1 v25) fun v26 =>
  ld1 v26 fun v27 =>
  pv (ixS 1 v27 x17) fun v28 =>
  ld1 v28 fun v29 =>
  pv (bin .add v29 (.int .i64 1)) fun v30 =>
  pv (ixS 1 v27 x17) fun v31 =>
  st1 v31 v30 fun _ =>
  F20_j9 R x0 x2 x4 x12 x17
theorem F20_j7_ok (R : ER) (e : Env) : den Pg R (cd Try.f20 [1,1,1,1,1,1,1,1,1,1,1]) e (kont Pg R Try.f20) = (F20_j7 R (e 0) (e 2) (e 4) (e 12) (e 17)) := (den_join Pg R 1 (cd Try.f20 [1,1,1,1,1,1,1,1,1,1,1]) (cd Try.f20 [1,1,1,1,1,1,1,1,1,1,1,1,1]) e (kont Pg R Try.f20) (fun e => F20_j8 R (e 0) (e 17)) _ (by kernel_rfl) (fun e => F20_j8_ok R e) (den_join Pg R 0 (pre 1 (cd Try.f20 [1,1,1,1,1,1,1,1,1,1,1])) (cd Try.f20 [1,1,1,1,1,1,1,1,1,1,1,1,0]) e (setN (kont Pg R Try.f20) (fun e => F20_j8 R (e 0) (e 17))) (fun e => F20_j9 R (e 0) (e 2) (e 4) (e 12) (e 17)) _ (by kernel_rfl) (fun e => F20_j9_ok R e) (by kernel_rfl)))
def F20_j6 (R : ER) (x0 x2 x4 x12 : Value) : WP :=
  drewV (
  pv (nilO x0) fun v32 =>
  pv (faO 0 v32) fun v33 =>
  ld1 v33 fun v34 =>
  ldN 8 x4 fun v35 =>
  mem fun w37 => cal Pg noR 49 ⟨[v34, v35]⟩ fun v36 =>
  pv (bin .lss v36 (.int .i64 0)) fun v38 =>
  cnd v38 (
   R (.returned (.tuple ⟨[(.int .i64 1), v36, (.int .i64 0)]⟩))) (
   F20_j7 R x0 x2 x4 x12 v36))
theorem F20_j6_ok (R : ER) (e : Env) : den Pg R (cd Try.f20 [1,1,1,1,1,1,1,1,1]) e (kont Pg R Try.f20) = (F20_j6 R (e 0) (e 2) (e 4) (e 12)) := (den_join Pg R 1 (cd Try.f20 [1,1,1,1,1,1,1,1,1]) (cd Try.f20 [1,1,1,1,1,1,1,1,1,1,1]) e (kont Pg R Try.f20) (fun e => F20_j7 R (e 0) (e 2) (e 4) (e 12) (e 17)) _ (by kernel_rfl) (fun e => F20_j7_ok R e) (by kernel_rfl))
def F20_j13 (R : ER) (k1 : V7) (x0 x2 x4 x12 x75 x76 x77 : Value) : WP :=
  pv (bin .add x77 (.int .i64 1)) fun v39 =>
  k1 x0 x2 x4 x12 x75 x76 v39
theorem F20_j13_ok (R : ER) (k1 : V7) (e : Env) : den Pg R (cd Try.f20 [1,1,1,1,1,1,1,1,0,1,0,0,1,1,1]) e (setN (inB 2 (setN (kont Pg R Try.f20) (fun e => F20_j6 R (e 0) (e 2) (e 4) (e 12)))) (fun e => k1 (e 0) (e 2) (e 4) (e 12) (e 75) (e 76) (e 77))) = (F20_j13 R k1 (e 0) (e 2) (e 4) (e 12) (e 75) (e 76) (e 77)) := by kernel_rfl
def F20_j17 (R : ER) (k1 : V7) (x0 x2 x14 x15 : Value) : WP :=
  drewV (
  pv (nilO x0) fun v40 =>
  pv (faO 4 v40) fun v41 =>
  ld1 v41 fun v42 =>
  ldN 5 x14 fun v43 =>
  pv (nilO x0) fun v44 =>
  pv (faO 3 v44) fun v45 =>
  ld1 v45 fun v46 =>
  pv (bin .add x2 v46) fun v47 =>
  pv (faO 1 x15) fun v48 =>
  ld1 v48 fun v49 =>
  pv (bldO [.int .i64 0, .int .i64 0] [(0,1, v47), (1,1, v49)]) fun v50 =>
  mem fun w52 => unitV Pg noR (Instr.mapUpdate 115 v42 v43 v50) fun v51 =>
  R (.returned (.tuple ⟨[(.int .i64 1), (.int .i64 (-1)), (.int .i64 0)]⟩)))
theorem F20_j17_ok (R : ER) (k1 : V7) (e : Env) : den Pg R (cd Try.f20 [1,1,1,1,1,1,1,1,0,1,0,0,1,1,0,0,1,1,1,0]) e (inB 3 (setN (setN (inB 2 (setN (kont Pg R Try.f20) (fun e => F20_j6 R (e 0) (e 2) (e 4) (e 12)))) (fun e => k1 (e 0) (e 2) (e 4) (e 12) (e 75) (e 76) (e 77))) (fun e => F20_j13 R k1 (e 0) (e 2) (e 4) (e 12) (e 75) (e 76) (e 77)))) = (F20_j17 R k1 (e 0) (e 2) (e 14) (e 15)) := by kernel_rfl
def F20_j16 (R : ER) (k1 : V7) (x0 x2 x4 x12 x14 x15 x75 x76 x77 x90 : Value) : WP :=
  cnd x90 (F20_j17 R k1 x0 x2 x14 x15) (F20_j13 R k1 x0 x2 x4 x12 x75 x76 x77)
theorem F20_j16_ok (R : ER) (k1 : V7) (e : Env) : den Pg R (cd Try.f20 [1,1,1,1,1,1,1,1,0,1,0,0,1,1,0,0,1,1,1]) e (inB 3 (setN (setN (inB 2 (setN (kont Pg R Try.f20) (fun e => F20_j6 R (e 0) (e 2) (e 4) (e 12)))) (fun e => k1 (e 0) (e 2) (e 4) (e 12) (e 75) (e 76) (e 77))) (fun e => F20_j13 R k1 (e 0) (e 2) (e 4) (e 12) (e 75) (e 76) (e 77)))) = (F20_j16 R k1 (e 0) (e 2) (e 4) (e 12) (e 14) (e 15) (e 75) (e 76) (e 77) (e 90)) := (den_if Pg R (cd Try.f20 [1,1,1,1,1,1,1,1,0,1,0,0,1,1,0,0,1,1,1]) (cd Try.f20 [1,1,1,1,1,1,1,1,0,1,0,0,1,1,0,0,1,1,1,0]) (cd Try.f20 [1,1,1,1,1,1,1,1,0,1,0,0,1,1,0,0,1,1,1,1]) e (inB 3 (setN (setN (inB 2 (setN (kont Pg R Try.f20) (fun e => F20_j6 R (e 0) (e 2) (e 4) (e 12)))) (fun e => k1 (e 0) (e 2) (e 4) (e 12) (e 75) (e 76) (e 77))) (fun e => F20_j13 R k1 (e 0) (e 2) (e 4) (e 12) (e 75) (e 76) (e 77)))) (F20_j17 R k1 (e 0) (e 2) (e 14) (e 15)) _ _ (by kernel_rfl) (F20_j17_ok R k1 e) rfl (by kernel_rfl))
def F20_j15 (R : ER) (k1 : V7) (x0 x2 x4 x12 x14 x15 x16 x75 x76 x77 : Value) : WP :=
  F20_j16 R k1 x0 x2 x4 x12 x14 x15 x75 x76 x77 x16
theorem F20_j15_ok (R : ER) (k1 : V7) (e : Env) : den Pg R (cd Try.f20 [1,1,1,1,1,1,1,1,0,1,0,0,1,1,0,0,1,1]) e (inB 3 (setN (setN (inB 2 (setN (kont Pg R Try.f20) (fun e => F20_j6 R (e 0) (e 2) (e 4) (e 12)))) (fun e => k1 (e 0) (e 2) (e 4) (e 12) (e 75) (e 76) (e 77))) (fun e => F20_j13 R k1 (e 0) (e 2) (e 4) (e 12) (e 75) (e 76) (e 77)))) = (F20_j15 R k1 (e 0) (e 2) (e 4) (e 12) (e 14) (e 15) (e 16) (e 75) (e 76) (e 77)) := (den_join Pg R 0 (cd Try.f20 [1,1,1,1,1,1,1,1,0,1,0,0,1,1,0,0,1,1]) (cd Try.f20 [1,1,1,1,1,1,1,1,0,1,0,0,1,1,0,0,1,1,1]) e (inB 3 (setN (setN (inB 2 (setN (kont Pg R Try.f20) (fun e => F20_j6 R (e 0) (e 2) (e 4) (e 12)))) (fun e => k1 (e 0) (e 2) (e 4) (e 12) (e 75) (e 76) (e 77))) (fun e => F20_j13 R k1 (e 0) (e 2) (e 4) (e 12) (e 75) (e 76) (e 77)))) (fun e => F20_j16 R k1 (e 0) (e 2) (e 4) (e 12) (e 14) (e 15) (e 75) (e 76) (e 77) (e 90)) _ (by kernel_rfl) (fun e => F20_j16_ok R k1 e) (by kernel_rfl))
def F20_j14 (R : ER) (k1 : V7) (x0 x2 x4 x12 x75 x76 x77 : Value) : WP :=
  pv (ixS 5 x75 x77) fun v53 =>
  ldN 5 v53 fun v54 =>
  al Pg 119 fun v55 =>
  stN 5 v55 v54 fun _ =>
  drewV (
  pv (nilO x0) fun v56 =>
  pv (faO 4 v56) fun v57 =>
  ld1 v57 fun v58 =>
  ldN 5 v55 fun v59 =>
  allW [
  (mem fun w61 => valV Pg noR (Instr.lookup 115 v58 v59 true) fun v60 =>
   pv (extO 0 v60) fun v62 =>
   pv (extO 1 v60) fun v63 =>
   mem fun w65 => al Pg 121 fun v64 =>
   rdN 5 v55 v59 <|
   rd1 v57 v58 <|
   mem fun w67 => stN 2 v64 v62 fun v66 =>
   F20_j15 R k1 x0 x2 x4 x12 v55 v64 v63 x75 x76 x77),
  (mem fun w69 => al Pg 121 fun v68 =>
   rdN 5 v55 v59 <|
   rd1 v57 v58 <|
   mem fun w71 => valV Pg noR (Instr.lookup 115 v58 v59 true) fun v70 =>
   pv (extO 0 v70) fun v72 =>
   pv (extO 1 v70) fun v73 =>
   mem fun w75 => stN 2 v68 v72 fun v74 =>
   F20_j15 R k1 x0 x2 x4 x12 v55 v68 v73 x75 x76 x77)])
theorem F20_j14_ok (R : ER) (k1 : V7) (e : Env) : den Pg R (cd Try.f20 [1,1,1,1,1,1,1,1,0,1,0,0,1,1,0]) e (setN (setN (inB 2 (setN (kont Pg R Try.f20) (fun e => F20_j6 R (e 0) (e 2) (e 4) (e 12)))) (fun e => k1 (e 0) (e 2) (e 4) (e 12) (e 75) (e 76) (e 77))) (fun e => F20_j13 R k1 (e 0) (e 2) (e 4) (e 12) (e 75) (e 76) (e 77))) = (F20_j14 R k1 (e 0) (e 2) (e 4) (e 12) (e 75) (e 76) (e 77)) := (den_block Pg R (cd Try.f20 [1,1,1,1,1,1,1,1,0,1,0,0,1,1,0]) 3 (cd Try.f20 [1,1,1,1,1,1,1,1,0,1,0,0,1,1,0,0]) e (setN (setN (inB 2 (setN (kont Pg R Try.f20) (fun e => F20_j6 R (e 0) (e 2) (e 4) (e 12)))) (fun e => k1 (e 0) (e 2) (e 4) (e 12) (e 75) (e 76) (e 77))) (fun e => F20_j13 R k1 (e 0) (e 2) (e 4) (e 12) (e 75) (e 76) (e 77))) _ (by kernel_rfl) (den_join Pg R 1 (cd Try.f20 [1,1,1,1,1,1,1,1,0,1,0,0,1,1,0,0]) (cd Try.f20 [1,1,1,1,1,1,1,1,0,1,0,0,1,1,0,0,1,1]) e (inB 3 (setN (setN (inB 2 (setN (kont Pg R Try.f20) (fun e => F20_j6 R (e 0) (e 2) (e 4) (e 12)))) (fun e => k1 (e 0) (e 2) (e 4) (e 12) (e 75) (e 76) (e 77))) (fun e => F20_j13 R k1 (e 0) (e 2) (e 4) (e 12) (e 75) (e 76) (e 77)))) (fun e => F20_j15 R k1 (e 0) (e 2) (e 4) (e 12) (e 14) (e 15) (e 16) (e 75) (e 76) (e 77)) _ (by kernel_rfl) (fun e => F20_j15_ok R k1 e) (by kernel_rfl)))
def F20_j12 (R : ER) (k1 : V7) (x0 x2 x4 x12 x75 x76 x77 : Value) : WP :=
  F20_j14 R k1 x0 x2 x4 x12 x75 x76 x77
theorem F20_j12_ok (R : ER) (k1 : V7) (e : Env) : den Pg R (cd Try.f20 [1,1,1,1,1,1,1,1,0,1,0,0,1,1]) e (setN (inB 2 (setN (kont Pg R Try.f20) (fun e => F20_j6 R (e 0) (e 2) (e 4) (e 12)))) (fun e => k1 (e 0) (e 2) (e 4) (e 12) (e 75) (e 76) (e 77))) = (F20_j12 R k1 (e 0) (e 2) (e 4) (e 12) (e 75) (e 76) (e 77)) := (den_join Pg R 0 (cd Try.f20 [1,1,1,1,1,1,1,1,0,1,0,0,1,1]) (cd Try.f20 [1,1,1,1,1,1,1,1,0,1,0,0,1,1,1]) e (setN (inB 2 (setN (kont Pg R Try.f20) (fun e => F20_j6 R (e 0) (e 2) (e 4) (e 12)))) (fun e => k1 (e 0) (e 2) (e 4) (e 12) (e 75) (e 76) (e 77))) (fun e => F20_j13 R k1 (e 0) (e 2) (e 4) (e 12) (e 75) (e 76) (e 77)) _ (by kernel_rfl) (fun e => F20_j13_ok R k1 e) (den_conv Pg R (pre 0 (cd Try.f20 [1,1,1,1,1,1,1,1,0,1,0,0,1,1])) (cd Try.f20 [1,1,1,1,1,1,1,1,0,1,0,0,1,1,0]) e (setN (setN (inB 2 (setN (kont Pg R Try.f20) (fun e => F20_j6 R (e 0) (e 2) (e 4) (e 12)))) (fun e => k1 (e 0) (e 2) (e 4) (e 12) (e 75) (e 76) (e 77))) (fun e => F20_j13 R k1 (e 0) (e 2) (e 4) (e 12) (e 75) (e 76) (e 77))) _ (by kernel_rfl) (F20_j14_ok R k1 e)))
def F20_b1 (R : ER) (k1 : V7) (x0 x2 x4 x12 x75 x76 x77 : Value) : WP :=
  pv (bin .lss x77 x76) fun v76 =>
  cnd v76 (
   F20_j12 R k1 x0 x2 x4 x12 x75 x76 x77) (
   F20_j6 R x0 x2 x4 x12)
theorem F20_b1_ok (R : ER) (k1 : V7) (e : Env) : den Pg R (cd Try.f20 [1,1,1,1,1,1,1,1,0,1,0,0]) e (setN (inB 2 (setN (kont Pg R Try.f20) (fun e => F20_j6 R (e 0) (e 2) (e 4) (e 12)))) (fun e => k1 (e 0) (e 2) (e 4) (e 12) (e 75) (e 76) (e 77))) = (F20_b1 R k1 (e 0) (e 2) (e 4) (e 12) (e 75) (e 76) (e 77)) := (den_join Pg R 1 (cd Try.f20 [1,1,1,1,1,1,1,1,0,1,0,0]) (cd Try.f20 [1,1,1,1,1,1,1,1,0,1,0,0,1,1]) e (setN (inB 2 (setN (kont Pg R Try.f20) (fun e => F20_j6 R (e 0) (e 2) (e 4) (e 12)))) (fun e => k1 (e 0) (e 2) (e 4) (e 12) (e 75) (e 76) (e 77))) (fun e => F20_j12 R k1 (e 0) (e 2) (e 4) (e 12) (e 75) (e 76) (e 77)) _ (by kernel_rfl) (fun e => F20_j12_ok R k1 e) (by kernel_rfl))
noncomputable def F20_l1 (R : ER) (n : Nat) : V7 := Nat.rec (motive := fun _ => V7) (fun _ _ _ _ _ _ _ => fun _ => False) (fun _ ih => fun x0 x2 x4 x12 x75 x76 x77 => F20_b1 R ih x0 x2 x4 x12 x75 x76 x77) n
theorem F20_l1_succ (R : ER) (n : Nat) (x0 x2 x4 x12 x75 x76 x77 : Value) : F20_l1 R (n + 1) x0 x2 x4 x12 x75 x76 x77 = F20_b1 R (F20_l1 R n) x0 x2 x4 x12 x75 x76 x77 := rfl
theorem F20_l1_ok (R : ER) : ∀ (n : Nat) (e : Env), iterL (den Pg R (cd Try.f20 [1,1,1,1,1,1,1,1,0,1,0,0])) n e (inB 2 (setN (kont Pg R Try.f20) (fun e => F20_j6 R (e 0) (e 2) (e 4) (e 12)))) = F20_l1 R n (e 0) (e 2) (e 4) (e 12) (e 75) (e 76) (e 77) :=
  iterL_join (den Pg R (cd Try.f20 [1,1,1,1,1,1,1,1,0,1,0,0])) (inB 2 (setN (kont Pg R Try.f20) (fun e => F20_j6 R (e 0) (e 2) (e 4) (e 12)))) (fun n e => F20_l1 R n (e 0) (e 2) (e 4) (e 12) (e 75) (e 76) (e 77)) (fun _ => rfl) (fun n e => (F20_b1_ok R (F20_l1 R n) e).trans (F20_l1_succ R n (e 0) (e 2) (e 4) (e 12) (e 75) (e 76) (e 77)).symm)
def F20_j11 (R : ER) (x0 x2 x4 x12 x75 x76 x77 : Value) : WP :=
  exN fun n => F20_l1 R n x0 x2 x4 x12 x75 x76 x77
theorem F20_j11_ok (R : ER) (e : Env) : den Pg R (cd Try.f20 [1,1,1,1,1,1,1,1,0,1]) e (setN (kont Pg R Try.f20) (fun e => F20_j6 R (e 0) (e 2) (e 4) (e 12))) = (F20_j11 R (e 0) (e 2) (e 4) (e 12) (e 75) (e 76) (e 77)) := (den_block Pg R (cd Try.f20 [1,1,1,1,1,1,1,1,0,1]) 2 (cd Try.f20 [1,1,1,1,1,1,1,1,0,1,0]) e (setN (kont Pg R Try.f20) (fun e => F20_j6 R (e 0) (e 2) (e 4) (e 12))) _ (by kernel_rfl) (den_loop Pg R (cd Try.f20 [1,1,1,1,1,1,1,1,0,1,0]) (cd Try.f20 [1,1,1,1,1,1,1,1,0,1,0,0]) e (inB 2 (setN (kont Pg R Try.f20) (fun e => F20_j6 R (e 0) (e 2) (e 4) (e 12)))) (fun n e => F20_l1 R n (e 0) (e 2) (e 4) (e 12) (e 75) (e 76) (e 77)) _ (by kernel_rfl) (F20_l1_ok R) (by kernel_rfl)))
def F20_j10 (R : ER) (x0 x2 x4 x12 : Value) : WP :=
  drewV (
  ldN 5 x12 fun v77 =>
  ldN 5 x12 fun v78 =>
  mem fun w80 => cal Pg noR 48 ⟨[v78]⟩ fun v79 =>
  rdN 5 x12 v77 <|
  mem fun w82 => valV Pg noR (Instr.buildSlice 123 2 ⟨[(0, v77), (1, v79)]⟩) fun v81 =>
  pv (lenS v81) fun v83 =>
  F20_j11 R x0 x2 x4 x12 v81 v83 (.int .i64 0))
theorem F20_j10_ok (R : ER) (e : Env) : den Pg R (cd Try.f20 [1,1,1,1,1,1,1,1,0]) e (setN (kont Pg R Try.f20) (fun e => F20_j6 R (e 0) (e 2) (e 4) (e 12))) = (F20_j10 R (e 0) (e 2) (e 4) (e 12)) := (den_join Pg R 0 (cd Try.f20 [1,1,1,1,1,1,1,1,0]) (cd Try.f20 [1,1,1,1,1,1,1,1,0,1]) e (setN (kont Pg R Try.f20) (fun e => F20_j6 R (e 0) (e 2) (e 4) (e 12))) (fun e => F20_j11 R (e 0) (e 2) (e 4) (e 12) (e 75) (e 76) (e 77)) _ (by kernel_rfl) (fun e => F20_j11_ok R e) (by kernel_rfl))
def F20_j5 (R : ER) (x0 x2 x4 : Value) : WP :=
  pv (faO 4 x4) fun v84 =>
  ld1 v84 fun v85 =>
  pv (faO 2 x4) fun v86 =>
  ld1 v86 fun v87 =>
  pv (faO 3 x4) fun v88 =>
  ld1 v88 fun v89 =>
  pv (faO 5 x4) fun v90 =>
  ld1 v90 fun v91 =>
  pv (faO 6 x4) fun v92 =>
  ld1 v92 fun v93 =>
  pv (bldO [.int .i64 0, .int .u32 0, .int .u32 0, .int .i64 0, .int .i64 0] [(0,1, v85), (1,1, v87), (2,1, v89), (3,1, v91), (4,1, v93)]) fun v94 =>
  al Pg 119 fun v95 =>
  stN 5 v95 v94 fun _ =>
  F20_j10 R x0 x2 x4 v95
theorem F20_j5_ok (R : ER) (e : Env) : den Pg R (cd Try.f20 [1,1,1,1,1,1,1]) e (kont Pg R Try.f20) = (F20_j5 R (e 0) (e 2) (e 4)) := (den_join Pg R 1 (cd Try.f20 [1,1,1,1,1,1,1]) (cd Try.f20 [1,1,1,1,1,1,1,1,1]) e (kont Pg R Try.f20) (fun e => F20_j6 R (e 0) (e 2) (e 4) (e 12)) _ (by kernel_rfl) (fun e => F20_j6_ok R e) (den_join Pg R 0 (pre 1 (cd Try.f20 [1,1,1,1,1,1,1])) (cd Try.f20 [1,1,1,1,1,1,1,1,0]) e (setN (kont Pg R Try.f20) (fun e => F20_j6 R (e 0) (e 2) (e 4) (e 12))) (fun e => F20_j10 R (e 0) (e 2) (e 4) (e 12)) _ (by kernel_rfl) (fun e => F20_j10_ok R e) (by kernel_rfl)))
def F20_j20 (R : ER) (k1 : V4) (x0 x2 x4 x46 : Value) : WP :=
  valV Pg R (Instr.entry x46) fun v96 =>
  pv (extO 0 v96) fun v97 =>
  pv (extO 1 v96) fun v98 =>
  al Pg 119 fun v99 =>
  al Pg 121 fun v100 =>
  stN 5 v99 v97 fun _ =>
  stN 2 v100 v98 fun _ =>
  pv (faO 0 v100) fun v101 =>
  ld1 v101 fun v102 =>
  pv (bin .leq v102 x2) fun v103 =>
  cnd v103 (
   drewV (
   pv (nilO x0) fun v104 =>
   pv (faO 4 v104) fun v105 =>
   ld1 v105 fun v106 =>
   ldN 5 v99 fun v107 =>
   mem fun w109 => blt Pg noR .delete ⟨[115,119]⟩ 0 ⟨[false, false]⟩ ⟨[v106, v107]⟩ fun v108 =>
   k1 x0 x2 x4 x46)) (
   k1 x0 x2 x4 x46)
theorem F20_j20_ok (R : ER) (k1 : V4) (e : Env) : den Pg R (cd Try.f20 [1,1,1,1,1,1,0,1,0,0,1,1]) e (setN (inB 0 (setN (kont Pg R Try.f20) (fun e => F20_j5 R (e 0) (e 2) (e 4)))) (fun e => k1 (e 0) (e 2) (e 4) (e 46))) = (F20_j20 R k1 (e 0) (e 2) (e 4) (e 46)) := (den_block Pg R (cd Try.f20 [1,1,1,1,1,1,0,1,0,0,1,1]) 1 (cd Try.f20 [1,1,1,1,1,1,0,1,0,0,1,1,0]) e (setN (inB 0 (setN (kont Pg R Try.f20) (fun e => F20_j5 R (e 0) (e 2) (e 4)))) (fun e => k1 (e 0) (e 2) (e 4) (e 46))) _ (by kernel_rfl) (by kernel_rfl))
def F20_b2 (R : ER) (k1 : V4) (x0 x2 x4 x46 : Value) : WP :=
  valV Pg R (Instr.next x46 false 0) fun v110 =>
  pv (extO 0 v110) fun v111 =>
  cnd v111 (
   F20_j20 R k1 x0 x2 x4 x46) (
   F20_j5 R x0 x2 x4)
theorem F20_b2_ok (R : ER) (k1 : V4) (e : Env) : den Pg R (cd Try.f20 [1,1,1,1,1,1,0,1,0,0]) e (setN (inB 0 (setN (kont Pg R Try.f20) (fun e => F20_j5 R (e 0) (e 2) (e 4)))) (fun e => k1 (e 0) (e 2) (e 4) (e 46))) = (F20_b2 R k1 (e 0) (e 2) (e 4) (e 46)) := (den_join Pg R 1 (cd Try.f20 [1,1,1,1,1,1,0,1,0,0]) (cd Try.f20 [1,1,1,1,1,1,0,1,0,0,1,1]) e (setN (inB 0 (setN (kont Pg R Try.f20) (fun e => F20_j5 R (e 0) (e 2) (e 4)))) (fun e => k1 (e 0) (e 2) (e 4) (e 46))) (fun e => F20_j20 R k1 (e 0) (e 2) (e 4) (e 46)) _ (by kernel_rfl) (fun e => F20_j20_ok R k1 e) (by kernel_rfl))
noncomputable def F20_l2 (R : ER) (n : Nat) : V4 := Nat.rec (motive := fun _ => V4) (fun _ _ _ _ => fun _ => False) (fun _ ih => fun x0 x2 x4 x46 => F20_b2 R ih x0 x2 x4 x46) n
theorem F20_l2_succ (R : ER) (n : Nat) (x0 x2 x4 x46 : Value) : F20_l2 R (n + 1) x0 x2 x4 x46 = F20_b2 R (F20_l2 R n) x0 x2 x4 x46 := rfl
theorem F20_l2_ok (R : ER) : ∀ (n : Nat) (e : Env), iterL (den Pg R (cd Try.f20 [1,1,1,1,1,1,0,1,0,0])) n e (inB 0 (setN (kont Pg R Try.f20) (fun e => F20_j5 R (e 0) (e 2) (e 4)))) = F20_l2 R n (e 0) (e 2) (e 4) (e 46) :=
  iterL_join (den Pg R (cd Try.f20 [1,1,1,1,1,1,0,1,0,0])) (inB 0 (setN (kont Pg R Try.f20) (fun e => F20_j5 R (e 0) (e 2) (e 4)))) (fun n e => F20_l2 R n (e 0) (e 2) (e 4) (e 46)) (fun _ => rfl) (fun n e => (F20_b2_ok R (F20_l2 R n) e).trans (F20_l2_succ R n (e 0) (e 2) (e 4) (e 46)).symm)
def F20_j19 (R : ER) (x0 x2 x4 x46 : Value) : WP :=
  exN fun n => F20_l2 R n x0 x2 x4 x46
theorem F20_j19_ok (R : ER) (e : Env) : den Pg R (cd Try.f20 [1,1,1,1,1,1,0,1]) e (setN (kont Pg R Try.f20) (fun e => F20_j5 R (e 0) (e 2) (e 4))) = (F20_j19 R (e 0) (e 2) (e 4) (e 46)) := (den_block Pg R (cd Try.f20 [1,1,1,1,1,1,0,1]) 0 (cd Try.f20 [1,1,1,1,1,1,0,1,0]) e (setN (kont Pg R Try.f20) (fun e => F20_j5 R (e 0) (e 2) (e 4))) _ (by kernel_rfl) (den_loop Pg R (cd Try.f20 [1,1,1,1,1,1,0,1,0]) (cd Try.f20 [1,1,1,1,1,1,0,1,0,0]) e (inB 0 (setN (kont Pg R Try.f20) (fun e => F20_j5 R (e 0) (e 2) (e 4)))) (fun n e => F20_l2 R n (e 0) (e 2) (e 4) (e 46)) _ (by kernel_rfl) (F20_l2_ok R) (by kernel_rfl)))
def F20_j18 (R : ER) (x0 x2 x4 : Value) : WP :=
  pv (nilO x0) fun v112 =>
  pv (faO 4 v112) fun v113 =>
  ld1 v113 fun v114 =>
  valV Pg R (Instr.range 115 v114) fun v115 =>
  F20_j19 R x0 x2 x4 v115
theorem F20_j18_ok (R : ER) (e : Env) : den Pg R (cd Try.f20 [1,1,1,1,1,1,0]) e (setN (kont Pg R Try.f20) (fun e => F20_j5 R (e 0) (e 2) (e 4))) = (F20_j18 R (e 0) (e 2) (e 4)) := (den_join Pg R 0 (cd Try.f20 [1,1,1,1,1,1,0]) (cd Try.f20 [1,1,1,1,1,1,0,1]) e (setN (kont Pg R Try.f20) (fun e => F20_j5 R (e 0) (e 2) (e 4))) (fun e => F20_j19 R (e 0) (e 2) (e 4) (e 46)) _ (by kernel_rfl) (fun e => F20_j19_ok R e) (by kernel_rfl))
def F20_j4 (R : ER) (x0 x2 x4 : Value) : WP :=
  pv (nilO x0) fun v116 =>
  pv (faO 6 v116) fun v117 =>
  st1 v117 x2 fun _ =>
  F20_j18 R x0 x2 x4
theorem F20_j4_ok (R : ER) (e : Env) : den Pg R (cd Try.f20 [1,1,1,1,1]) e (kont Pg R Try.f20) = (F20_j4 R (e 0) (e 2) (e 4)) := (den_join Pg R 1 (cd Try.f20 [1,1,1,1,1]) (cd Try.f20 [1,1,1,1,1,1,1]) e (kont Pg R Try.f20) (fun e => F20_j5 R (e 0) (e 2) (e 4)) _ (by kernel_rfl) (fun e => F20_j5_ok R e) (den_join Pg R 0 (pre 1 (cd Try.f20 [1,1,1,1,1])) (cd Try.f20 [1,1,1,1,1,1,0]) e (setN (kont Pg R Try.f20) (fun e => F20_j5 R (e 0) (e 2) (e 4))) (fun e => F20_j18 R (e 0) (e 2) (e 4)) _ (by kernel_rfl) (fun e => F20_j18_ok R e) (by kernel_rfl)))
def F20_j3 (R : ER) (x0 x2 x4 : Value) : WP :=
  pv (nilO x0) fun v118 =>
  pv (faO 6 v118) fun v119 =>
  ld1 v119 fun v120 =>
  pv (bin .lss x2 v120) fun v121 =>
  cnd v121 (
   R (.returned (.tuple ⟨[(.int .i64 0), (.int .i64 0), (.int .i64 30)]⟩))) (
   F20_j4 R x0 x2 x4)
theorem F20_j3_ok (R : ER) (e : Env) : den Pg R (cd Try.f20 [1,1,1,1]) e (kont Pg R Try.f20) = (F20_j3 R (e 0) (e 2) (e 4)) := (den_join Pg R 0 (cd Try.f20 [1,1,1,1]) (cd Try.f20 [1,1,1,1,1]) e (kont Pg R Try.f20) (fun e => F20_j4 R (e 0) (e 2) (e 4)) _ (by kernel_rfl) (fun e => F20_j4_ok R e) (by kernel_rfl))
def F20_j2 (R : ER) (x0 x2 x4 : Value) : WP :=
  pv (bin .lss x2 (.int .i64 0)) fun v122 =>
  gd v122 false (pv (some x2)) fun v123 =>
  gd v122 false (pv (bin .gtr v123 (.int .i64 1099511627776))) fun v124 =>
  pv (pickO v122 (.bool true) v124) fun v125 =>
  cnd v125 (
   R (.returned (.tuple ⟨[(.int .i64 0), (.int .i64 0), (.int .i64 34)]⟩))) (
   F20_j3 R x0 x2 x4)
theorem F20_j2_ok (R : ER) (e : Env) : den Pg R (cd Try.f20 [1,1,1]) e (kont Pg R Try.f20) = (F20_j2 R (e 0) (e 2) (e 4)) := (den_join Pg R 0 (cd Try.f20 [1,1,1]) (cd Try.f20 [1,1,1,1]) e (kont Pg R Try.f20) (fun e => F20_j3 R (e 0) (e 2) (e 4)) _ (by kernel_rfl) (fun e => F20_j3_ok R e) (by kernel_rfl))
def F20_j1 (R : ER) (x0 x2 x4 : Value) : WP :=
  ldN 8 x4 fun v126 =>
  cal Pg R 45 ⟨[v126]⟩ fun v127 =>
  pv (bin .neq v127 (.int .i64 0)) fun v128 =>
  cnd v128 (
   R (.returned (.tuple ⟨[(.int .i64 0), (.int .i64 0), v127]⟩))) (
   F20_j2 R x0 x2 x4)
theorem F20_j1_ok (R : ER) (e : Env) : den Pg R (cd Try.f20 [1,1]) e (kont Pg R Try.f20) = (F20_j1 R (e 0) (e 2) (e 4)) := (den_join Pg R 0 (cd Try.f20 [1,1]) (cd Try.f20 [1,1,1]) e (kont Pg R Try.f20) (fun e => F20_j2 R (e 0) (e 2) (e 4)) _ (by kernel_rfl) (fun e => F20_j2_ok R e) (by kernel_rfl))
def F20 (R : ER) (x0 x1 x2 : Value) : WP :=
  bx 45 x1 fun v129 =>
  pv (eqNilP x0) fun v130 =>
  cnd v130 (
   R (.returned (.tuple ⟨[(.int .i64 0), (.int .i64 0), (.int .i64 35)]⟩))) (
   F20_j1 R x0 x2 v129)
theorem F20_den (R : ER) (x0 x1 x2 : Value) : den Pg R (cd Try.f20 []) (argsEnv [x0, x1, x2]) (kont Pg R Try.f20) = F20 R x0 x1 x2 :=
  have h : ∀ e, den Pg R (cd Try.f20 []) e (kont Pg R Try.f20) = F20 R (e 0) (e 1) (e 2) := fun e => (den_join Pg R 1 (cd Try.f20 []) (cd Try.f20 [1,1]) e (kont Pg R Try.f20) (fun e => F20_j1 R (e 0) (e 2) (e 4)) _ (by kernel_rfl) (fun e => F20_j1_ok R e) (by kernel_rfl))
  h _
theorem F20_calls {R : ER} {x0 x1 x2 : Value} {w : World} (h : F20 R x0 x1 x2 w) : Calls Pg 20 ⟨[x0, x1, x2]⟩ w R :=
  calls_of_den Try.func20 (by kernel_rfl) (by kernel_rfl) (F20_den R x0 x1 x2) h
/-! ### 21: slices_Reverse -/
def F21_j2 (R : ER) (k1 : V3) (x0 x2 x3 : Value) : WP :=
  drewV (
  pv (ixS 16 x0 x3) fun v1 =>
  ldN 16 v1 fun v2 =>
  pv (ixS 16 x0 x2) fun v3 =>
  ldN 16 v3 fun v4 =>
  pv (ixS 16 x0 x2) fun v5 =>
  mem fun w7 => stN 16 v5 v2 fun v6 =>
  pv (ixS 16 x0 x3) fun v8 =>
  mem fun w10 => stN 16 v8 v4 fun v9 =>
  pv (bin .add x2 (.int .i64 1)) fun v11 =>
  pv (bin .sub x3 (.int .i64 1)) fun v12 =>
  k1 x0 v11 v12)
theorem F21_j2_ok (R : ER) (k1 : V3) (e : Env) : den Pg R (cd Try.f21 [1,0,0,1]) e (setN (inB 0 (kont Pg R Try.f21)) (fun e => k1 (e 0) (e 2) (e 3))) = (F21_j2 R k1 (e 0) (e 2) (e 3)) := by kernel_rfl
def F21_b1 (R : ER) (k1 : V3) (x0 x2 x3 : Value) : WP :=
  pv (bin .lss x2 x3) fun v13 =>
  cnd v13 (
   F21_j2 R k1 x0 x2 x3) (
   R (.returned (.tuple ⟨[]⟩)))
theorem F21_b1_ok (R : ER) (k1 : V3) (e : Env) : den Pg R (cd Try.f21 [1,0,0]) e (setN (inB 0 (kont Pg R Try.f21)) (fun e => k1 (e 0) (e 2) (e 3))) = (F21_b1 R k1 (e 0) (e 2) (e 3)) := (den_join Pg R 0 (cd Try.f21 [1,0,0]) (cd Try.f21 [1,0,0,1]) e (setN (inB 0 (kont Pg R Try.f21)) (fun e => k1 (e 0) (e 2) (e 3))) (fun e => F21_j2 R k1 (e 0) (e 2) (e 3)) _ (by kernel_rfl) (fun e => F21_j2_ok R k1 e) (by kernel_rfl))
noncomputable def F21_l1 (R : ER) (n : Nat) : V3 := Nat.rec (motive := fun _ => V3) (fun _ _ _ => fun _ => False) (fun _ ih => fun x0 x2 x3 => F21_b1 R ih x0 x2 x3) n
theorem F21_l1_succ (R : ER) (n : Nat) (x0 x2 x3 : Value) : F21_l1 R (n + 1) x0 x2 x3 = F21_b1 R (F21_l1 R n) x0 x2 x3 := rfl
theorem F21_l1_ok (R : ER) : ∀ (n : Nat) (e : Env), iterL (den Pg R (cd Try.f21 [1,0,0])) n e (inB 0 (kont Pg R Try.f21)) = F21_l1 R n (e 0) (e 2) (e 3) :=
  iterL_join (den Pg R (cd Try.f21 [1,0,0])) (inB 0 (kont Pg R Try.f21)) (fun n e => F21_l1 R n (e 0) (e 2) (e 3)) (fun _ => rfl) (fun n e => (F21_b1_ok R (F21_l1 R n) e).trans (F21_l1_succ R n (e 0) (e 2) (e 3)).symm)
def F21_j1 (R : ER) (x0 x2 x3 : Value) : WP :=
  exN fun n => F21_l1 R n x0 x2 x3
theorem F21_j1_ok (R : ER) (e : Env) : den Pg R (cd Try.f21 [1]) e (kont Pg R Try.f21) = (F21_j1 R (e 0) (e 2) (e 3)) := (den_block Pg R (cd Try.f21 [1]) 0 (cd Try.f21 [1,0]) e (kont Pg R Try.f21) _ (by kernel_rfl) (den_loop Pg R (cd Try.f21 [1,0]) (cd Try.f21 [1,0,0]) e (inB 0 (kont Pg R Try.f21)) (fun n e => F21_l1 R n (e 0) (e 2) (e 3)) _ (by kernel_rfl) (F21_l1_ok R) (by kernel_rfl)))
def F21 (R : ER) (x0 : Value) : WP :=
  pv (lenS x0) fun v14 =>
  pv (bin .sub v14 (.int .i64 1)) fun v15 =>
  F21_j1 R x0 (.int .i64 0) v15
theorem F21_den (R : ER) (x0 : Value) : den Pg R (cd Try.f21 []) (argsEnv [x0]) (kont Pg R Try.f21) = F21 R x0 :=
  have h : ∀ e, den Pg R (cd Try.f21 []) e (kont Pg R Try.f21) = F21 R (e 0) := fun e => (den_join Pg R 0 (cd Try.f21 []) (cd Try.f21 [1]) e (kont Pg R Try.f21) (fun e => F21_j1 R (e 0) (e 2) (e 3)) _ (by kernel_rfl) (fun e => F21_j1_ok R e) (by kernel_rfl))
  h _
theorem F21_calls {R : ER} {x0 : Value} {w : World} (h : F21 R x0 w) : Calls Pg 21 ⟨[x0]⟩ w R :=
  calls_of_den Try.func21 (by kernel_rfl) (by kernel_rfl) (F21_den R x0) h
/-! ### 22: filter_Filter_States -/
def F22_j2 (R : ER) (x3 : Value) : WP :=
  R (.returned x3)
theorem F22_j2_ok (R : ER) (e : Env) : den Pg R (cd Try.f22 [1,1,1,1]) e (kont Pg R Try.f22) = (F22_j2 R (e 3)) := by kernel_rfl
def F22_j5 (R : ER) (k1 : V5) (x0 x3 x9 x10 x11 : Value) : WP :=
  pv (ixS 5 x9 x11) fun v1 =>
  ldN 5 v1 fun v2 =>
  al Pg 119 fun v3 =>
  stN 5 v3 v2 fun _ =>
  drewV (
  pv (faO 0 v3) fun v4 =>
  ld1 v4 fun v5 =>
  pv (faO 1 v3) fun v6 =>
  ld1 v6 fun v7 =>
  pv (faO 2 v3) fun v8 =>
  ld1 v8 fun v9 =>
  pv (faO 3 v3) fun v10 =>
  ld1 v10 fun v11 =>
  pv (faO 4 v3) fun v12 =>
  ld1 v12 fun v13 =>
  pv (nilO x0) fun v14 =>
  pv (faO 4 v14) fun v15 =>
  ld1 v15 fun v16 =>
  ldN 5 v3 fun v17 =>
  mem fun w19 => valV Pg noR (Instr.lookup 115 v16 v17 false) fun v18 =>
  rd1 v12 v13 <|
  rd1 v10 v11 <|
  rd1 v8 v9 <|
  rd1 v6 v7 <|
  rd1 v4 v5 <|
  pv (fld1 0 v18) fun v20 =>
  pv (bldO [.int .i64 0, .int .u32 0, .int .u32 0, .int .i64 0, .int .i64 0, .int .i64 0] [(0,1, v5), (1,1, v7), (2,1, v9), (3,1, v11), (4,1, v13), (5,1, v20)]) fun v21 =>
  mem fun w23 => valV Pg noR (Instr.buildSlice 63 1 ⟨[(0, v21)]⟩) fun v22 =>
  mem fun w25 => blt Pg noR .append ⟨[63,63]⟩ 63 ⟨[false, false]⟩ ⟨[x3, v22]⟩ fun v24 =>
  pv (bin .add x11 (.int .i64 1)) fun v26 =>
  k1 x0 v24 x9 x10 v26)
theorem F22_j5_ok (R : ER) (k1 : V5) (e : Env) : den Pg R (cd Try.f22 [1,1,1,0,1,0,0,1,1]) e (setN (inB 0 (setN (kont Pg R Try.f22) (fun e => F22_j2 R (e 3)))) (fun e => k1 (e 0) (e 3) (e 9) (e 10) (e 11))) = (F22_j5 R k1 (e 0) (e 3) (e 9) (e 10) (e 11)) := by kernel_rfl
def F22_b1 (R : ER) (k1 : V5) (x0 x3 x9 x10 x11 : Value) : WP :=
  pv (bin .lss x11 x10) fun v27 =>
  cnd v27 (
   F22_j5 R k1 x0 x3 x9 x10 x11) (
   F22_j2 R x3)
theorem F22_b1_ok (R : ER) (k1 : V5) (e : Env) : den Pg R (cd Try.f22 [1,1,1,0,1,0,0]) e (setN (inB 0 (setN (kont Pg R Try.f22) (fun e => F22_j2 R (e 3)))) (fun e => k1 (e 0) (e 3) (e 9) (e 10) (e 11))) = (F22_b1 R k1 (e 0) (e 3) (e 9) (e 10) (e 11)) := (den_join Pg R 1 (cd Try.f22 [1,1,1,0,1,0,0]) (cd Try.f22 [1,1,1,0,1,0,0,1,1]) e (setN (inB 0 (setN (kont Pg R Try.f22) (fun e => F22_j2 R (e 3)))) (fun e => k1 (e 0) (e 3) (e 9) (e 10) (e 11))) (fun e => F22_j5 R k1 (e 0) (e 3) (e 9) (e 10) (e 11)) _ (by kernel_rfl) (fun e => F22_j5_ok R k1 e) (by kernel_rfl))
noncomputable def F22_l1 (R : ER) (n : Nat) : V5 := Nat.rec (motive := fun _ => V5) (fun _ _ _ _ _ => fun _ => False) (fun _ ih => fun x0 x3 x9 x10 x11 => F22_b1 R ih x0 x3 x9 x10 x11) n
theorem F22_l1_succ (R : ER) (n : Nat) (x0 x3 x9 x10 x11 : Value) : F22_l1 R (n + 1) x0 x3 x9 x10 x11 = F22_b1 R (F22_l1 R n) x0 x3 x9 x10 x11 := rfl
theorem F22_l1_ok (R : ER) : ∀ (n : Nat) (e : Env), iterL (den Pg R (cd Try.f22 [1,1,1,0,1,0,0])) n e (inB 0 (setN (kont Pg R Try.f22) (fun e => F22_j2 R (e 3)))) = F22_l1 R n (e 0) (e 3) (e 9) (e 10) (e 11) :=
  iterL_join (den Pg R (cd Try.f22 [1,1,1,0,1,0,0])) (inB 0 (setN (kont Pg R Try.f22) (fun e => F22_j2 R (e 3)))) (fun n e => F22_l1 R n (e 0) (e 3) (e 9) (e 10) (e 11)) (fun _ => rfl) (fun n e => (F22_b1_ok R (F22_l1 R n) e).trans (F22_l1_succ R n (e 0) (e 3) (e 9) (e 10) (e 11)).symm)
def F22_j4 (R : ER) (x0 x3 x9 x10 x11 : Value) : WP :=
  exN fun n => F22_l1 R n x0 x3 x9 x10 x11
theorem F22_j4_ok (R : ER) (e : Env) : den Pg R (cd Try.f22 [1,1,1,0,1]) e (setN (kont Pg R Try.f22) (fun e => F22_j2 R (e 3))) = (F22_j4 R (e 0) (e 3) (e 9) (e 10) (e 11)) := (den_block Pg R (cd Try.f22 [1,1,1,0,1]) 0 (cd Try.f22 [1,1,1,0,1,0]) e (setN (kont Pg R Try.f22) (fun e => F22_j2 R (e 3))) _ (by kernel_rfl) (den_loop Pg R (cd Try.f22 [1,1,1,0,1,0]) (cd Try.f22 [1,1,1,0,1,0,0]) e (inB 0 (setN (kont Pg R Try.f22) (fun e => F22_j2 R (e 3)))) (fun n e => F22_l1 R n (e 0) (e 3) (e 9) (e 10) (e 11)) _ (by kernel_rfl) (F22_l1_ok R) (by kernel_rfl)))
def F22_j3 (R : ER) (x0 x3 : Value) : WP :=
  cal Pg R 51 ⟨[x0, (.func (.func 52) ⟨[]⟩ ⟨[]⟩)]⟩ fun v28 =>
  pv (lenS v28) fun v29 =>
  F22_j4 R x0 x3 v28 v29 (.int .i64 0)
theorem F22_j3_ok (R : ER) (e : Env) : den Pg R (cd Try.f22 [1,1,1,0]) e (setN (kont Pg R Try.f22) (fun e => F22_j2 R (e 3))) = (F22_j3 R (e 0) (e 3)) := (den_join Pg R 0 (cd Try.f22 [1,1,1,0]) (cd Try.f22 [1,1,1,0,1]) e (setN (kont Pg R Try.f22) (fun e => F22_j2 R (e 3))) (fun e => F22_j4 R (e 0) (e 3) (e 9) (e 10) (e 11)) _ (by kernel_rfl) (fun e => F22_j4_ok R e) (by kernel_rfl))
def F22_j1 (R : ER) (x0 : Value) : WP :=
  F22_j3 R x0 (.slice none 0 0)
theorem F22_j1_ok (R : ER) (e : Env) : den Pg R (cd Try.f22 [1,1]) e (kont Pg R Try.f22) = (F22_j1 R (e 0)) := (den_join Pg R 1 (cd Try.f22 [1,1]) (cd Try.f22 [1,1,1,1]) e (kont Pg R Try.f22) (fun e => F22_j2 R (e 3)) _ (by kernel_rfl) (fun e => F22_j2_ok R e) (den_join Pg R 0 (pre 1 (cd Try.f22 [1,1])) (cd Try.f22 [1,1,1,0]) e (setN (kont Pg R Try.f22) (fun e => F22_j2 R (e 3))) (fun e => F22_j3 R (e 0) (e 3)) _ (by kernel_rfl) (fun e => F22_j3_ok R e) (by kernel_rfl)))
def F22 (R : ER) (x0 : Value) : WP :=
  pv (eqNilP x0) fun v30 =>
  cnd v30 (
   R (.returned (.slice none 0 0))) (
   F22_j1 R x0)
theorem F22_den (R : ER) (x0 : Value) : den Pg R (cd Try.f22 []) (argsEnv [x0]) (kont Pg R Try.f22) = F22 R x0 :=
  have h : ∀ e, den Pg R (cd Try.f22 []) e (kont Pg R Try.f22) = F22 R (e 0) := fun e => (den_join Pg R 1 (cd Try.f22 []) (cd Try.f22 [1,1]) e (kont Pg R Try.f22) (fun e => F22_j1 R (e 0)) _ (by kernel_rfl) (fun e => F22_j1_ok R e) (by kernel_rfl))
  h _
theorem F22_calls {R : ER} {x0 : Value} {w : World} (h : F22 R x0 w) : Calls Pg 22 ⟨[x0]⟩ w R :=
  calls_of_den Try.func22 (by kernel_rfl) (by kernel_rfl) (F22_den R x0) h
/-! ### 23: orpimentlaw39_packet -/
def F23 (R : ER) (x0 : Value) : WP :=
  bx 45 x0 fun v1 =>
  al Pg 67 fun v2 =>
  ldN 8 v1 fun v3 =>
  stN 8 v2 v3 fun _ =>
  ldN 8 v2 fun v4 => R (.returned v4)
theorem F23_den (R : ER) (x0 : Value) : den Pg R (cd Try.f23 []) (argsEnv [x0]) (kont Pg R Try.f23) = F23 R x0 :=
  have h : ∀ e, den Pg R (cd Try.f23 []) e (kont Pg R Try.f23) = F23 R (e 0) := fun e => by kernel_rfl
  h _
theorem F23_calls {R : ER} {x0 : Value} {w : World} (h : F23 R x0 w) : Calls Pg 23 ⟨[x0]⟩ w R :=
  calls_of_den Try.func23 (by kernel_rfl) (by kernel_rfl) (F23_den R x0) h
/-! ### 24: filter_Equivalent -/
def F24_j3 (R : ER) (x2 x3 x4 : Value) : WP :=
  cal Pg R 54 ⟨[x2, (.func (.func 55) ⟨[]⟩ ⟨[x3, x4]⟩)]⟩ fun v1 =>
  R (.returned (.tuple ⟨[v1, (.int .i64 0)]⟩))
theorem F24_j3_ok (R : ER) (e : Env) : den Pg R (cd Try.f24 [1,1,1,1]) e (kont Pg R Try.f24) = (F24_j3 R (e 2) (e 3) (e 4)) := by kernel_rfl
def F24_j6 (R : ER) (k1 : V6) (x2 x3 x4 x36 x37 x38 : Value) : WP :=
  pv (ixS 8 x36 x38) fun v2 =>
  ldN 8 v2 fun v3 =>
  al Pg 45 fun v4 =>
  stN 8 v4 v3 fun _ =>
  ldN 8 v4 fun v5 =>
  cal Pg R 45 ⟨[v5]⟩ fun v6 =>
  pv (bin .neq v6 (.int .i64 0)) fun v7 =>
  cnd v7 (
   R (.returned (.tuple ⟨[(.int .i64 0), v6]⟩))) (
   pv (bin .add x38 (.int .i64 1)) fun v8 =>
  k1 x2 x3 x4 x36 x37 v8)
theorem F24_j6_ok (R : ER) (k1 : V6) (e : Env) : den Pg R (cd Try.f24 [1,1,1,0,1,0,0,1,1]) e (setN (inB 2 (setN (kont Pg R Try.f24) (fun e => F24_j3 R (e 2) (e 3) (e 4)))) (fun e => k1 (e 2) (e 3) (e 4) (e 36) (e 37) (e 38))) = (F24_j6 R k1 (e 2) (e 3) (e 4) (e 36) (e 37) (e 38)) := (by kernel_rfl)
def F24_b1 (R : ER) (k1 : V6) (x2 x3 x4 x36 x37 x38 : Value) : WP :=
  pv (bin .lss x38 x37) fun v9 =>
  cnd v9 (
   F24_j6 R k1 x2 x3 x4 x36 x37 x38) (
   F24_j3 R x2 x3 x4)
theorem F24_b1_ok (R : ER) (k1 : V6) (e : Env) : den Pg R (cd Try.f24 [1,1,1,0,1,0,0]) e (setN (inB 2 (setN (kont Pg R Try.f24) (fun e => F24_j3 R (e 2) (e 3) (e 4)))) (fun e => k1 (e 2) (e 3) (e 4) (e 36) (e 37) (e 38))) = (F24_b1 R k1 (e 2) (e 3) (e 4) (e 36) (e 37) (e 38)) := (den_join Pg R 1 (cd Try.f24 [1,1,1,0,1,0,0]) (cd Try.f24 [1,1,1,0,1,0,0,1,1]) e (setN (inB 2 (setN (kont Pg R Try.f24) (fun e => F24_j3 R (e 2) (e 3) (e 4)))) (fun e => k1 (e 2) (e 3) (e 4) (e 36) (e 37) (e 38))) (fun e => F24_j6 R k1 (e 2) (e 3) (e 4) (e 36) (e 37) (e 38)) _ (by kernel_rfl) (fun e => F24_j6_ok R k1 e) (by kernel_rfl))
noncomputable def F24_l1 (R : ER) (n : Nat) : V6 := Nat.rec (motive := fun _ => V6) (fun _ _ _ _ _ _ => fun _ => False) (fun _ ih => fun x2 x3 x4 x36 x37 x38 => F24_b1 R ih x2 x3 x4 x36 x37 x38) n
theorem F24_l1_succ (R : ER) (n : Nat) (x2 x3 x4 x36 x37 x38 : Value) : F24_l1 R (n + 1) x2 x3 x4 x36 x37 x38 = F24_b1 R (F24_l1 R n) x2 x3 x4 x36 x37 x38 := rfl
theorem F24_l1_ok (R : ER) : ∀ (n : Nat) (e : Env), iterL (den Pg R (cd Try.f24 [1,1,1,0,1,0,0])) n e (inB 2 (setN (kont Pg R Try.f24) (fun e => F24_j3 R (e 2) (e 3) (e 4)))) = F24_l1 R n (e 2) (e 3) (e 4) (e 36) (e 37) (e 38) :=
  iterL_join (den Pg R (cd Try.f24 [1,1,1,0,1,0,0])) (inB 2 (setN (kont Pg R Try.f24) (fun e => F24_j3 R (e 2) (e 3) (e 4)))) (fun n e => F24_l1 R n (e 2) (e 3) (e 4) (e 36) (e 37) (e 38)) (fun _ => rfl) (fun n e => (F24_b1_ok R (F24_l1 R n) e).trans (F24_l1_succ R n (e 2) (e 3) (e 4) (e 36) (e 37) (e 38)).symm)
def F24_j5 (R : ER) (x2 x3 x4 x36 x37 x38 : Value) : WP :=
  exN fun n => F24_l1 R n x2 x3 x4 x36 x37 x38
theorem F24_j5_ok (R : ER) (e : Env) : den Pg R (cd Try.f24 [1,1,1,0,1]) e (setN (kont Pg R Try.f24) (fun e => F24_j3 R (e 2) (e 3) (e 4))) = (F24_j5 R (e 2) (e 3) (e 4) (e 36) (e 37) (e 38)) := (den_block Pg R (cd Try.f24 [1,1,1,0,1]) 2 (cd Try.f24 [1,1,1,0,1,0]) e (setN (kont Pg R Try.f24) (fun e => F24_j3 R (e 2) (e 3) (e 4))) _ (by kernel_rfl) (den_loop Pg R (cd Try.f24 [1,1,1,0,1,0]) (cd Try.f24 [1,1,1,0,1,0,0]) e (inB 2 (setN (kont Pg R Try.f24) (fun e => F24_j3 R (e 2) (e 3) (e 4)))) (fun n e => F24_l1 R n (e 2) (e 3) (e 4) (e 36) (e 37) (e 38)) _ (by kernel_rfl) (F24_l1_ok R) (by kernel_rfl)))
def F24_j4 (R : ER) (x2 x3 x4 : Value) : WP :=
  pv (lenS x2) fun v10 =>
  F24_j5 R x2 x3 x4 x2 v10 (.int .i64 0)
theorem F24_j4_ok (R : ER) (e : Env) : den Pg R (cd Try.f24 [1,1,1,0]) e (setN (kont Pg R Try.f24) (fun e => F24_j3 R (e 2) (e 3) (e 4))) = (F24_j4 R (e 2) (e 3) (e 4)) := (den_join Pg R 0 (cd Try.f24 [1,1,1,0]) (cd Try.f24 [1,1,1,0,1]) e (setN (kont Pg R Try.f24) (fun e => F24_j3 R (e 2) (e 3) (e 4))) (fun e => F24_j5 R (e 2) (e 3) (e 4) (e 36) (e 37) (e 38)) _ (by kernel_rfl) (fun e => F24_j5_ok R e) (by kernel_rfl))
def F24_j2 (R : ER) (x2 x3 x4 : Value) : WP :=
  F24_j4 R x2 x3 x4
theorem F24_j2_ok (R : ER) (e : Env) : den Pg R (cd Try.f24 [1,1,1]) e (kont Pg R Try.f24) = (F24_j2 R (e 2) (e 3) (e 4)) := (den_join Pg R 0 (cd Try.f24 [1,1,1]) (cd Try.f24 [1,1,1,1]) e (kont Pg R Try.f24) (fun e => F24_j3 R (e 2) (e 3) (e 4)) _ (by kernel_rfl) (fun e => F24_j3_ok R e) (den_conv Pg R (pre 0 (cd Try.f24 [1,1,1])) (cd Try.f24 [1,1,1,0]) e (setN (kont Pg R Try.f24) (fun e => F24_j3 R (e 2) (e 3) (e 4))) _ (by kernel_rfl) (F24_j4_ok R e)))
def F24_j9 (R : ER) (k1 : V6) (x2 x3 x4 x24 x25 x26 : Value) : WP :=
  pv (ixS 1 x24 x26) fun v11 =>
  ld1 v11 fun v12 =>
  cal Pg R 47 ⟨[v12]⟩ fun v13 =>
  pv (bin .neq v13 (.int .i64 0)) fun v14 =>
  cnd v14 (
   R (.returned (.tuple ⟨[(.int .i64 0), v13]⟩))) (
   pv (bin .add x26 (.int .i64 1)) fun v15 =>
  k1 x2 x3 x4 x24 x25 v15)
theorem F24_j9_ok (R : ER) (k1 : V6) (e : Env) : den Pg R (cd Try.f24 [1,1,0,1,0,0,1,1]) e (setN (inB 0 (setN (kont Pg R Try.f24) (fun e => F24_j2 R (e 2) (e 3) (e 4)))) (fun e => k1 (e 2) (e 3) (e 4) (e 24) (e 25) (e 26))) = (F24_j9 R k1 (e 2) (e 3) (e 4) (e 24) (e 25) (e 26)) := (by kernel_rfl)
def F24_b2 (R : ER) (k1 : V6) (x2 x3 x4 x24 x25 x26 : Value) : WP :=
  pv (bin .lss x26 x25) fun v16 =>
  cnd v16 (
   F24_j9 R k1 x2 x3 x4 x24 x25 x26) (
   F24_j2 R x2 x3 x4)
theorem F24_b2_ok (R : ER) (k1 : V6) (e : Env) : den Pg R (cd Try.f24 [1,1,0,1,0,0]) e (setN (inB 0 (setN (kont Pg R Try.f24) (fun e => F24_j2 R (e 2) (e 3) (e 4)))) (fun e => k1 (e 2) (e 3) (e 4) (e 24) (e 25) (e 26))) = (F24_b2 R k1 (e 2) (e 3) (e 4) (e 24) (e 25) (e 26)) := (den_join Pg R 1 (cd Try.f24 [1,1,0,1,0,0]) (cd Try.f24 [1,1,0,1,0,0,1,1]) e (setN (inB 0 (setN (kont Pg R Try.f24) (fun e => F24_j2 R (e 2) (e 3) (e 4)))) (fun e => k1 (e 2) (e 3) (e 4) (e 24) (e 25) (e 26))) (fun e => F24_j9 R k1 (e 2) (e 3) (e 4) (e 24) (e 25) (e 26)) _ (by kernel_rfl) (fun e => F24_j9_ok R k1 e) (by kernel_rfl))
noncomputable def F24_l2 (R : ER) (n : Nat) : V6 := Nat.rec (motive := fun _ => V6) (fun _ _ _ _ _ _ => fun _ => False) (fun _ ih => fun x2 x3 x4 x24 x25 x26 => F24_b2 R ih x2 x3 x4 x24 x25 x26) n
theorem F24_l2_succ (R : ER) (n : Nat) (x2 x3 x4 x24 x25 x26 : Value) : F24_l2 R (n + 1) x2 x3 x4 x24 x25 x26 = F24_b2 R (F24_l2 R n) x2 x3 x4 x24 x25 x26 := rfl
theorem F24_l2_ok (R : ER) : ∀ (n : Nat) (e : Env), iterL (den Pg R (cd Try.f24 [1,1,0,1,0,0])) n e (inB 0 (setN (kont Pg R Try.f24) (fun e => F24_j2 R (e 2) (e 3) (e 4)))) = F24_l2 R n (e 2) (e 3) (e 4) (e 24) (e 25) (e 26) :=
  iterL_join (den Pg R (cd Try.f24 [1,1,0,1,0,0])) (inB 0 (setN (kont Pg R Try.f24) (fun e => F24_j2 R (e 2) (e 3) (e 4)))) (fun n e => F24_l2 R n (e 2) (e 3) (e 4) (e 24) (e 25) (e 26)) (fun _ => rfl) (fun n e => (F24_b2_ok R (F24_l2 R n) e).trans (F24_l2_succ R n (e 2) (e 3) (e 4) (e 24) (e 25) (e 26)).symm)
def F24_j8 (R : ER) (x2 x3 x4 x24 x25 x26 : Value) : WP :=
  exN fun n => F24_l2 R n x2 x3 x4 x24 x25 x26
theorem F24_j8_ok (R : ER) (e : Env) : den Pg R (cd Try.f24 [1,1,0,1]) e (setN (kont Pg R Try.f24) (fun e => F24_j2 R (e 2) (e 3) (e 4))) = (F24_j8 R (e 2) (e 3) (e 4) (e 24) (e 25) (e 26)) := (den_block Pg R (cd Try.f24 [1,1,0,1]) 0 (cd Try.f24 [1,1,0,1,0]) e (setN (kont Pg R Try.f24) (fun e => F24_j2 R (e 2) (e 3) (e 4))) _ (by kernel_rfl) (den_loop Pg R (cd Try.f24 [1,1,0,1,0]) (cd Try.f24 [1,1,0,1,0,0]) e (inB 0 (setN (kont Pg R Try.f24) (fun e => F24_j2 R (e 2) (e 3) (e 4)))) (fun n e => F24_l2 R n (e 2) (e 3) (e 4) (e 24) (e 25) (e 26)) _ (by kernel_rfl) (F24_l2_ok R) (by kernel_rfl)))
def F24_j7 (R : ER) (x2 x3 x4 : Value) : WP :=
  ld1 x3 fun v17 =>
  ld1 x4 fun v18 =>
  valV Pg R (Instr.buildSlice 130 2 ⟨[(0, v17), (1, v18)]⟩) fun v19 =>
  pv (lenS v19) fun v20 =>
  F24_j8 R x2 x3 x4 v19 v20 (.int .i64 0)
theorem F24_j7_ok (R : ER) (e : Env) : den Pg R (cd Try.f24 [1,1,0]) e (setN (kont Pg R Try.f24) (fun e => F24_j2 R (e 2) (e 3) (e 4))) = (F24_j7 R (e 2) (e 3) (e 4)) := (den_join Pg R 0 (cd Try.f24 [1,1,0]) (cd Try.f24 [1,1,0,1]) e (setN (kont Pg R Try.f24) (fun e => F24_j2 R (e 2) (e 3) (e 4))) (fun e => F24_j8 R (e 2) (e 3) (e 4) (e 24) (e 25) (e 26)) _ (by kernel_rfl) (fun e => F24_j8_ok R e) (by kernel_rfl))
def F24_j1 (R : ER) (x2 x3 x4 : Value) : WP :=
  F24_j7 R x2 x3 x4
theorem F24_j1_ok (R : ER) (e : Env) : den Pg R (cd Try.f24 [1,1]) e (kont Pg R Try.f24) = (F24_j1 R (e 2) (e 3) (e 4)) := (den_join Pg R 0 (cd Try.f24 [1,1]) (cd Try.f24 [1,1,1]) e (kont Pg R Try.f24) (fun e => F24_j2 R (e 2) (e 3) (e 4)) _ (by kernel_rfl) (fun e => F24_j2_ok R e) (den_conv Pg R (pre 0 (cd Try.f24 [1,1])) (cd Try.f24 [1,1,0]) e (setN (kont Pg R Try.f24) (fun e => F24_j2 R (e 2) (e 3) (e 4))) _ (by kernel_rfl) (F24_j7_ok R e)))
def F24 (R : ER) (x0 x1 x2 : Value) : WP :=
  bx 43 x0 fun v21 =>
  bx 43 x1 fun v22 =>
  ld1 v21 fun v23 =>
  pv (lenS v23) fun v24 =>
  pv (bin .gtr v24 (.int .i64 200)) fun v25 =>
  gd v25 false (ld1 v22) fun v26 =>
  gd v25 false (pv (lenS v26)) fun v27 =>
  gd v25 false (pv (bin .gtr v27 (.int .i64 200))) fun v28 =>
  pv (pickO v25 (.bool true) v28) fun v29 =>
  cnd v29 (
   R (.returned (.tuple ⟨[(.int .i64 0), (.int .i64 18)]⟩))) (
   F24_j1 R x2 v21 v22)
theorem F24_den (R : ER) (x0 x1 x2 : Value) : den Pg R (cd Try.f24 []) (argsEnv [x0, x1, x2]) (kont Pg R Try.f24) = F24 R x0 x1 x2 :=
  have h : ∀ e, den Pg R (cd Try.f24 []) e (kont Pg R Try.f24) = F24 R (e 0) (e 1) (e 2) := fun e => (den_join Pg R 1 (cd Try.f24 []) (cd Try.f24 [1,1]) e (kont Pg R Try.f24) (fun e => F24_j1 R (e 2) (e 3) (e 4)) _ (by kernel_rfl) (fun e => F24_j1_ok R e) (by kernel_rfl))
  h _
theorem F24_calls {R : ER} {x0 x1 x2 : Value} {w : World} (h : F24 R x0 x1 x2 w) : Calls Pg 24 ⟨[x0, x1, x2]⟩ w R :=
  calls_of_den Try.func24 (by kernel_rfl) (by kernel_rfl) (F24_den R x0 x1 x2) h
/-! ### 25: orpimentref39_Equivalent -/
def F25_j4 (R : ER) : WP :=
  R (.returned (.tuple ⟨[(.int .i64 (-1)), (.int .i64 0)]⟩))
theorem F25_j4_ok (R : ER) (e : Env) : den Pg R (cd Try.f25 [1,1,1,1,1,1]) e (kont Pg R Try.f25) = (F25_j4 R) := by kernel_rfl
def F25_j7 (R : ER) (k1 : V4) (x0 x1 x2 x14 : Value) : WP :=
  drewV (
  pv (ixS 8 x2 x14) fun v1 =>
  ldN 8 v1 fun v2 =>
  mem fun w4 => cal Pg noR 59 ⟨[x0, v2]⟩ fun v3 =>
  pv (ixS 8 x2 x14) fun v5 =>
  ldNS [w4] 8 v5 fun v6 =>
  mem fun w8 => cal Pg noR 59 ⟨[x1, v6]⟩ fun v7 =>
  drewV (
  pv (bin .geq v3 (.int .i64 0)) fun v9 =>
  gd v9 true (pv (some x0)) fun v10 =>
  gd v9 true (pv (some v3)) fun v11 =>
  gd v9 true (pv (ixS 16 v10 v11)) fun v12 =>
  gd v9 true (pv (faO 0 v12)) fun v13 =>
  gd v9 true (ld1 v13) fun v14 =>
  gd v9 true (pv (bin .eql v14 (.int .i64 2))) fun v15 =>
  pv (pickO v9 v15 (.bool false)) fun v16 =>
  pv (bin .geq v7 (.int .i64 0)) fun v17 =>
  gd v17 true (pv (some x1)) fun v18 =>
  gd v17 true (pv (some v7)) fun v19 =>
  gd v17 true (pv (ixS 16 v18 v19)) fun v20 =>
  gd v17 true (pv (faO 0 v20)) fun v21 =>
  gd v17 true (ld1 v21) fun v22 =>
  gd v17 true (pv (bin .eql v22 (.int .i64 2))) fun v23 =>
  pv (pickO v17 v23 (.bool false)) fun v24 =>
  pv (binB .neq v16 v24) fun v25 =>
  cnd v25 (
   R (.returned (.tuple ⟨[x14, (.int .i64 0)]⟩))) (
   pv (bin .add x14 (.int .i64 1)) fun v26 =>
  k1 x0 x1 x2 v26)))
theorem F25_j7_ok (R : ER) (k1 : V4) (e : Env) : den Pg R (cd Try.f25 [1,1,1,1,1,0,1,0,0,1]) e (setN (inB 6 (setN (kont Pg R Try.f25) (fun e => F25_j4 R))) (fun e => k1 (e 0) (e 1) (e 2) (e 14))) = (F25_j7 R k1 (e 0) (e 1) (e 2) (e 14)) := (by kernel_rfl)
def F25_b1 (R : ER) (k1 : V4) (x0 x1 x2 x14 : Value) : WP :=
  pv (lenS x2) fun v27 =>
  pv (bin .lss x14 v27) fun v28 =>
  cnd v28 (
   F25_j7 R k1 x0 x1 x2 x14) (
   F25_j4 R)
theorem F25_b1_ok (R : ER) (k1 : V4) (e : Env) : den Pg R (cd Try.f25 [1,1,1,1,1,0,1,0,0]) e (setN (inB 6 (setN (kont Pg R Try.f25) (fun e => F25_j4 R))) (fun e => k1 (e 0) (e 1) (e 2) (e 14))) = (F25_b1 R k1 (e 0) (e 1) (e 2) (e 14)) := (den_join Pg R 0 (cd Try.f25 [1,1,1,1,1,0,1,0,0]) (cd Try.f25 [1,1,1,1,1,0,1,0,0,1]) e (setN (inB 6 (setN (kont Pg R Try.f25) (fun e => F25_j4 R))) (fun e => k1 (e 0) (e 1) (e 2) (e 14))) (fun e => F25_j7 R k1 (e 0) (e 1) (e 2) (e 14)) _ (by kernel_rfl) (fun e => F25_j7_ok R k1 e) (by kernel_rfl))
noncomputable def F25_l1 (R : ER) (n : Nat) : V4 := Nat.rec (motive := fun _ => V4) (fun _ _ _ _ => fun _ => False) (fun _ ih => fun x0 x1 x2 x14 => F25_b1 R ih x0 x1 x2 x14) n
theorem F25_l1_succ (R : ER) (n : Nat) (x0 x1 x2 x14 : Value) : F25_l1 R (n + 1) x0 x1 x2 x14 = F25_b1 R (F25_l1 R n) x0 x1 x2 x14 := rfl
theorem F25_l1_ok (R : ER) : ∀ (n : Nat) (e : Env), iterL (den Pg R (cd Try.f25 [1,1,1,1,1,0,1,0,0])) n e (inB 6 (setN (kont Pg R Try.f25) (fun e => F25_j4 R))) = F25_l1 R n (e 0) (e 1) (e 2) (e 14) :=
  iterL_join (den Pg R (cd Try.f25 [1,1,1,1,1,0,1,0,0])) (inB 6 (setN (kont Pg R Try.f25) (fun e => F25_j4 R))) (fun n e => F25_l1 R n (e 0) (e 1) (e 2) (e 14)) (fun _ => rfl) (fun n e => (F25_b1_ok R (F25_l1 R n) e).trans (F25_l1_succ R n (e 0) (e 1) (e 2) (e 14)).symm)
def F25_j6 (R : ER) (x0 x1 x2 x14 : Value) : WP :=
  exN fun n => F25_l1 R n x0 x1 x2 x14
theorem F25_j6_ok (R : ER) (e : Env) : den Pg R (cd Try.f25 [1,1,1,1,1,0,1]) e (setN (kont Pg R Try.f25) (fun e => F25_j4 R)) = (F25_j6 R (e 0) (e 1) (e 2) (e 14)) := (den_block Pg R (cd Try.f25 [1,1,1,1,1,0,1]) 6 (cd Try.f25 [1,1,1,1,1,0,1,0]) e (setN (kont Pg R Try.f25) (fun e => F25_j4 R)) _ (by kernel_rfl) (den_loop Pg R (cd Try.f25 [1,1,1,1,1,0,1,0]) (cd Try.f25 [1,1,1,1,1,0,1,0,0]) e (inB 6 (setN (kont Pg R Try.f25) (fun e => F25_j4 R))) (fun n e => F25_l1 R n (e 0) (e 1) (e 2) (e 14)) _ (by kernel_rfl) (F25_l1_ok R) (by kernel_rfl)))
def F25_j5 (R : ER) (x0 x1 x2 : Value) : WP :=
  F25_j6 R x0 x1 x2 (.int .i64 0)
theorem F25_j5_ok (R : ER) (e : Env) : den Pg R (cd Try.f25 [1,1,1,1,1,0]) e (setN (kont Pg R Try.f25) (fun e => F25_j4 R)) = (F25_j5 R (e 0) (e 1) (e 2)) := (den_join Pg R 0 (cd Try.f25 [1,1,1,1,1,0]) (cd Try.f25 [1,1,1,1,1,0,1]) e (setN (kont Pg R Try.f25) (fun e => F25_j4 R)) (fun e => F25_j6 R (e 0) (e 1) (e 2) (e 14)) _ (by kernel_rfl) (fun e => F25_j6_ok R e) (by kernel_rfl))
def F25_j3 (R : ER) (x0 x1 x2 : Value) : WP :=
  F25_j5 R x0 x1 x2
theorem F25_j3_ok (R : ER) (e : Env) : den Pg R (cd Try.f25 [1,1,1,1,1]) e (kont Pg R Try.f25) = (F25_j3 R (e 0) (e 1) (e 2)) := (den_join Pg R 0 (cd Try.f25 [1,1,1,1,1]) (cd Try.f25 [1,1,1,1,1,1]) e (kont Pg R Try.f25) (fun e => F25_j4 R) _ (by kernel_rfl) (fun e => F25_j4_ok R e) (den_conv Pg R (pre 0 (cd Try.f25 [1,1,1,1,1])) (cd Try.f25 [1,1,1,1,1,0]) e (setN (kont Pg R Try.f25) (fun e => F25_j4 R)) _ (by kernel_rfl) (F25_j5_ok R e)))
def F25_j10 (R : ER) (k1 : V4) (x0 x1 x2 x12 : Value) : WP :=
  pv (ixS 8 x2 x12) fun v29 =>
  ldN 8 v29 fun v30 =>
  cal Pg R 58 ⟨[v30]⟩ fun v31 =>
  pv (bin .neq v31 (.int .i64 0)) fun v32 =>
  cnd v32 (
   R (.returned (.tuple ⟨[(.int .i64 0), v31]⟩))) (
   pv (bin .add x12 (.int .i64 1)) fun v33 =>
  k1 x0 x1 x2 v33)
theorem F25_j10_ok (R : ER) (k1 : V4) (e : Env) : den Pg R (cd Try.f25 [1,1,1,1,0,1,0,0,1]) e (setN (inB 4 (setN (kont Pg R Try.f25) (fun e => F25_j3 R (e 0) (e 1) (e 2)))) (fun e => k1 (e 0) (e 1) (e 2) (e 12))) = (F25_j10 R k1 (e 0) (e 1) (e 2) (e 12)) := (by kernel_rfl)
def F25_b2 (R : ER) (k1 : V4) (x0 x1 x2 x12 : Value) : WP :=
  pv (lenS x2) fun v34 =>
  pv (bin .lss x12 v34) fun v35 =>
  cnd v35 (
   F25_j10 R k1 x0 x1 x2 x12) (
   F25_j3 R x0 x1 x2)
theorem F25_b2_ok (R : ER) (k1 : V4) (e : Env) : den Pg R (cd Try.f25 [1,1,1,1,0,1,0,0]) e (setN (inB 4 (setN (kont Pg R Try.f25) (fun e => F25_j3 R (e 0) (e 1) (e 2)))) (fun e => k1 (e 0) (e 1) (e 2) (e 12))) = (F25_b2 R k1 (e 0) (e 1) (e 2) (e 12)) := (den_join Pg R 0 (cd Try.f25 [1,1,1,1,0,1,0,0]) (cd Try.f25 [1,1,1,1,0,1,0,0,1]) e (setN (inB 4 (setN (kont Pg R Try.f25) (fun e => F25_j3 R (e 0) (e 1) (e 2)))) (fun e => k1 (e 0) (e 1) (e 2) (e 12))) (fun e => F25_j10 R k1 (e 0) (e 1) (e 2) (e 12)) _ (by kernel_rfl) (fun e => F25_j10_ok R k1 e) (by kernel_rfl))
noncomputable def F25_l2 (R : ER) (n : Nat) : V4 := Nat.rec (motive := fun _ => V4) (fun _ _ _ _ => fun _ => False) (fun _ ih => fun x0 x1 x2 x12 => F25_b2 R ih x0 x1 x2 x12) n
theorem F25_l2_succ (R : ER) (n : Nat) (x0 x1 x2 x12 : Value) : F25_l2 R (n + 1) x0 x1 x2 x12 = F25_b2 R (F25_l2 R n) x0 x1 x2 x12 := rfl
theorem F25_l2_ok (R : ER) : ∀ (n : Nat) (e : Env), iterL (den Pg R (cd Try.f25 [1,1,1,1,0,1,0,0])) n e (inB 4 (setN (kont Pg R Try.f25) (fun e => F25_j3 R (e 0) (e 1) (e 2)))) = F25_l2 R n (e 0) (e 1) (e 2) (e 12) :=
  iterL_join (den Pg R (cd Try.f25 [1,1,1,1,0,1,0,0])) (inB 4 (setN (kont Pg R Try.f25) (fun e => F25_j3 R (e 0) (e 1) (e 2)))) (fun n e => F25_l2 R n (e 0) (e 1) (e 2) (e 12)) (fun _ => rfl) (fun n e => (F25_b2_ok R (F25_l2 R n) e).trans (F25_l2_succ R n (e 0) (e 1) (e 2) (e 12)).symm)
def F25_j9 (R : ER) (x0 x1 x2 x12 : Value) : WP :=
  exN fun n => F25_l2 R n x0 x1 x2 x12
theorem F25_j9_ok (R : ER) (e : Env) : den Pg R (cd Try.f25 [1,1,1,1,0,1]) e (setN (kont Pg R Try.f25) (fun e => F25_j3 R (e 0) (e 1) (e 2))) = (F25_j9 R (e 0) (e 1) (e 2) (e 12)) := (den_block Pg R (cd Try.f25 [1,1,1,1,0,1]) 4 (cd Try.f25 [1,1,1,1,0,1,0]) e (setN (kont Pg R Try.f25) (fun e => F25_j3 R (e 0) (e 1) (e 2))) _ (by kernel_rfl) (den_loop Pg R (cd Try.f25 [1,1,1,1,0,1,0]) (cd Try.f25 [1,1,1,1,0,1,0,0]) e (inB 4 (setN (kont Pg R Try.f25) (fun e => F25_j3 R (e 0) (e 1) (e 2)))) (fun n e => F25_l2 R n (e 0) (e 1) (e 2) (e 12)) _ (by kernel_rfl) (F25_l2_ok R) (by kernel_rfl)))
def F25_j8 (R : ER) (x0 x1 x2 : Value) : WP :=
  F25_j9 R x0 x1 x2 (.int .i64 0)
theorem F25_j8_ok (R : ER) (e : Env) : den Pg R (cd Try.f25 [1,1,1,1,0]) e (setN (kont Pg R Try.f25) (fun e => F25_j3 R (e 0) (e 1) (e 2))) = (F25_j8 R (e 0) (e 1) (e 2)) := (den_join Pg R 0 (cd Try.f25 [1,1,1,1,0]) (cd Try.f25 [1,1,1,1,0,1]) e (setN (kont Pg R Try.f25) (fun e => F25_j3 R (e 0) (e 1) (e 2))) (fun e => F25_j9 R (e 0) (e 1) (e 2) (e 12)) _ (by kernel_rfl) (fun e => F25_j9_ok R e) (by kernel_rfl))
def F25_j2 (R : ER) (x0 x1 x2 : Value) : WP :=
  F25_j8 R x0 x1 x2
theorem F25_j2_ok (R : ER) (e : Env) : den Pg R (cd Try.f25 [1,1,1,1]) e (kont Pg R Try.f25) = (F25_j2 R (e 0) (e 1) (e 2)) := (den_join Pg R 0 (cd Try.f25 [1,1,1,1]) (cd Try.f25 [1,1,1,1,1]) e (kont Pg R Try.f25) (fun e => F25_j3 R (e 0) (e 1) (e 2)) _ (by kernel_rfl) (fun e => F25_j3_ok R e) (den_conv Pg R (pre 0 (cd Try.f25 [1,1,1,1])) (cd Try.f25 [1,1,1,1,0]) e (setN (kont Pg R Try.f25) (fun e => F25_j3 R (e 0) (e 1) (e 2))) _ (by kernel_rfl) (F25_j8_ok R e)))
def F25_j14 (R : ER) (k1 : V5) (x0 x1 x2 x8 x9 : Value) : WP :=
  pv (bin .add x9 (.int .i64 1)) fun v36 =>
  k1 x0 x1 x2 x8 v36
theorem F25_j14_ok (R : ER) (k1 : V5) (e : Env) : den Pg R (cd Try.f25 [1,1,1,0,1,0,0,1,1]) e (setN (inB 0 (setN (kont Pg R Try.f25) (fun e => F25_j2 R (e 0) (e 1) (e 2)))) (fun e => k1 (e 0) (e 1) (e 2) (e 8) (e 9))) = (F25_j14 R k1 (e 0) (e 1) (e 2) (e 8) (e 9)) := by kernel_rfl
def F25_j17 (R : ER) (k1 : V5) (k2 : V6) (x0 x1 x2 x8 x9 x10 : Value) : WP :=
  pv (ixS 1 x8 x9) fun v37 =>
  ld1 v37 fun v38 =>
  pv (ixS 16 v38 x10) fun v39 =>
  ldN 16 v39 fun v40 =>
  cal Pg R 57 ⟨[v40]⟩ fun v41 =>
  pv (bin .neq v41 (.int .i64 0)) fun v42 =>
  cnd v42 (
   R (.returned (.tuple ⟨[(.int .i64 0), v41]⟩))) (
   pv (bin .add x10 (.int .i64 1)) fun v43 =>
  k2 x0 x1 x2 x8 x9 v43)
theorem F25_j17_ok (R : ER) (k1 : V5) (k2 : V6) (e : Env) : den Pg R (cd Try.f25 [1,1,1,0,1,0,0,1,0,0,1,0,0,1]) e (setN (inB 2 (inB 1 (setN (setN (inB 0 (setN (kont Pg R Try.f25) (fun e => F25_j2 R (e 0) (e 1) (e 2)))) (fun e => k1 (e 0) (e 1) (e 2) (e 8) (e 9))) (fun e => F25_j14 R k1 (e 0) (e 1) (e 2) (e 8) (e 9))))) (fun e => k2 (e 0) (e 1) (e 2) (e 8) (e 9) (e 10))) = (F25_j17 R k1 k2 (e 0) (e 1) (e 2) (e 8) (e 9) (e 10)) := (by kernel_rfl)
def F25_b4 (R : ER) (k1 : V5) (k2 : V6) (x0 x1 x2 x8 x9 x10 : Value) : WP :=
  pv (ixS 1 x8 x9) fun v44 =>
  ld1 v44 fun v45 =>
  pv (lenS v45) fun v46 =>
  pv (bin .lss x10 v46) fun v47 =>
  cnd v47 (
   F25_j17 R k1 k2 x0 x1 x2 x8 x9 x10) (
   F25_j14 R k1 x0 x1 x2 x8 x9)
theorem F25_b4_ok (R : ER) (k1 : V5) (k2 : V6) (e : Env) : den Pg R (cd Try.f25 [1,1,1,0,1,0,0,1,0,0,1,0,0]) e (setN (inB 2 (inB 1 (setN (setN (inB 0 (setN (kont Pg R Try.f25) (fun e => F25_j2 R (e 0) (e 1) (e 2)))) (fun e => k1 (e 0) (e 1) (e 2) (e 8) (e 9))) (fun e => F25_j14 R k1 (e 0) (e 1) (e 2) (e 8) (e 9))))) (fun e => k2 (e 0) (e 1) (e 2) (e 8) (e 9) (e 10))) = (F25_b4 R k1 k2 (e 0) (e 1) (e 2) (e 8) (e 9) (e 10)) := (den_join Pg R 0 (cd Try.f25 [1,1,1,0,1,0,0,1,0,0,1,0,0]) (cd Try.f25 [1,1,1,0,1,0,0,1,0,0,1,0,0,1]) e (setN (inB 2 (inB 1 (setN (setN (inB 0 (setN (kont Pg R Try.f25) (fun e => F25_j2 R (e 0) (e 1) (e 2)))) (fun e => k1 (e 0) (e 1) (e 2) (e 8) (e 9))) (fun e => F25_j14 R k1 (e 0) (e 1) (e 2) (e 8) (e 9))))) (fun e => k2 (e 0) (e 1) (e 2) (e 8) (e 9) (e 10))) (fun e => F25_j17 R k1 k2 (e 0) (e 1) (e 2) (e 8) (e 9) (e 10)) _ (by kernel_rfl) (fun e => F25_j17_ok R k1 k2 e) (by kernel_rfl))
noncomputable def F25_l3 (R : ER) (k1 : V5) (n : Nat) : V6 := Nat.rec (motive := fun _ => V6) (fun _ _ _ _ _ _ => fun _ => False) (fun _ ih => fun x0 x1 x2 x8 x9 x10 => F25_b4 R k1 ih x0 x1 x2 x8 x9 x10) n
theorem F25_l3_succ (R : ER) (k1 : V5) (n : Nat) (x0 x1 x2 x8 x9 x10 : Value) : F25_l3 R k1 (n + 1) x0 x1 x2 x8 x9 x10 = F25_b4 R k1 (F25_l3 R k1 n) x0 x1 x2 x8 x9 x10 := rfl
theorem F25_l3_ok (R : ER) (k1 : V5) : ∀ (n : Nat) (e : Env), iterL (den Pg R (cd Try.f25 [1,1,1,0,1,0,0,1,0,0,1,0,0])) n e (inB 2 (inB 1 (setN (setN (inB 0 (setN (kont Pg R Try.f25) (fun e => F25_j2 R (e 0) (e 1) (e 2)))) (fun e => k1 (e 0) (e 1) (e 2) (e 8) (e 9))) (fun e => F25_j14 R k1 (e 0) (e 1) (e 2) (e 8) (e 9))))) = F25_l3 R k1 n (e 0) (e 1) (e 2) (e 8) (e 9) (e 10) :=
  iterL_join (den Pg R (cd Try.f25 [1,1,1,0,1,0,0,1,0,0,1,0,0])) (inB 2 (inB 1 (setN (setN (inB 0 (setN (kont Pg R Try.f25) (fun e => F25_j2 R (e 0) (e 1) (e 2)))) (fun e => k1 (e 0) (e 1) (e 2) (e 8) (e 9))) (fun e => F25_j14 R k1 (e 0) (e 1) (e 2) (e 8) (e 9))))) (fun n e => F25_l3 R k1 n (e 0) (e 1) (e 2) (e 8) (e 9) (e 10)) (fun _ => rfl) (fun n e => (F25_b4_ok R k1 (F25_l3 R k1 n) e).trans (F25_l3_succ R k1 n (e 0) (e 1) (e 2) (e 8) (e 9) (e 10)).symm)
def F25_j16 (R : ER) (k1 : V5) (x0 x1 x2 x8 x9 x10 : Value) : WP :=
  exN fun n => F25_l3 R k1 n x0 x1 x2 x8 x9 x10
theorem F25_j16_ok (R : ER) (k1 : V5) (e : Env) : den Pg R (cd Try.f25 [1,1,1,0,1,0,0,1,0,0,1]) e (inB 1 (setN (setN (inB 0 (setN (kont Pg R Try.f25) (fun e => F25_j2 R (e 0) (e 1) (e 2)))) (fun e => k1 (e 0) (e 1) (e 2) (e 8) (e 9))) (fun e => F25_j14 R k1 (e 0) (e 1) (e 2) (e 8) (e 9)))) = (F25_j16 R k1 (e 0) (e 1) (e 2) (e 8) (e 9) (e 10)) := (den_block Pg R (cd Try.f25 [1,1,1,0,1,0,0,1,0,0,1]) 2 (cd Try.f25 [1,1,1,0,1,0,0,1,0,0,1,0]) e (inB 1 (setN (setN (inB 0 (setN (kont Pg R Try.f25) (fun e => F25_j2 R (e 0) (e 1) (e 2)))) (fun e => k1 (e 0) (e 1) (e 2) (e 8) (e 9))) (fun e => F25_j14 R k1 (e 0) (e 1) (e 2) (e 8) (e 9)))) _ (by kernel_rfl) (den_loop Pg R (cd Try.f25 [1,1,1,0,1,0,0,1,0,0,1,0]) (cd Try.f25 [1,1,1,0,1,0,0,1,0,0,1,0,0]) e (inB 2 (inB 1 (setN (setN (inB 0 (setN (kont Pg R Try.f25) (fun e => F25_j2 R (e 0) (e 1) (e 2)))) (fun e => k1 (e 0) (e 1) (e 2) (e 8) (e 9))) (fun e => F25_j14 R k1 (e 0) (e 1) (e 2) (e 8) (e 9))))) (fun n e => F25_l3 R k1 n (e 0) (e 1) (e 2) (e 8) (e 9) (e 10)) _ (by kernel_rfl) (F25_l3_ok R k1) (by kernel_rfl)))
def F25_j15 (R : ER) (k1 : V5) (x0 x1 x2 x8 x9 : Value) : WP :=
  F25_j16 R k1 x0 x1 x2 x8 x9 (.int .i64 0)
theorem F25_j15_ok (R : ER) (k1 : V5) (e : Env) : den Pg R (cd Try.f25 [1,1,1,0,1,0,0,1,0]) e (setN (setN (inB 0 (setN (kont Pg R Try.f25) (fun e => F25_j2 R (e 0) (e 1) (e 2)))) (fun e => k1 (e 0) (e 1) (e 2) (e 8) (e 9))) (fun e => F25_j14 R k1 (e 0) (e 1) (e 2) (e 8) (e 9))) = (F25_j15 R k1 (e 0) (e 1) (e 2) (e 8) (e 9)) := (den_block Pg R (cd Try.f25 [1,1,1,0,1,0,0,1,0]) 1 (cd Try.f25 [1,1,1,0,1,0,0,1,0,0]) e (setN (setN (inB 0 (setN (kont Pg R Try.f25) (fun e => F25_j2 R (e 0) (e 1) (e 2)))) (fun e => k1 (e 0) (e 1) (e 2) (e 8) (e 9))) (fun e => F25_j14 R k1 (e 0) (e 1) (e 2) (e 8) (e 9))) _ (by kernel_rfl) (den_join Pg R 0 (cd Try.f25 [1,1,1,0,1,0,0,1,0,0]) (cd Try.f25 [1,1,1,0,1,0,0,1,0,0,1]) e (inB 1 (setN (setN (inB 0 (setN (kont Pg R Try.f25) (fun e => F25_j2 R (e 0) (e 1) (e 2)))) (fun e => k1 (e 0) (e 1) (e 2) (e 8) (e 9))) (fun e => F25_j14 R k1 (e 0) (e 1) (e 2) (e 8) (e 9)))) (fun e => F25_j16 R k1 (e 0) (e 1) (e 2) (e 8) (e 9) (e 10)) _ (by kernel_rfl) (fun e => F25_j16_ok R k1 e) (by kernel_rfl)))
def F25_j13 (R : ER) (k1 : V5) (x0 x1 x2 x8 x9 : Value) : WP :=
  F25_j15 R k1 x0 x1 x2 x8 x9
theorem F25_j13_ok (R : ER) (k1 : V5) (e : Env) : den Pg R (cd Try.f25 [1,1,1,0,1,0,0,1]) e (setN (inB 0 (setN (kont Pg R Try.f25) (fun e => F25_j2 R (e 0) (e 1) (e 2)))) (fun e => k1 (e 0) (e 1) (e 2) (e 8) (e 9))) = (F25_j13 R k1 (e 0) (e 1) (e 2) (e 8) (e 9)) := (den_join Pg R 0 (cd Try.f25 [1,1,1,0,1,0,0,1]) (cd Try.f25 [1,1,1,0,1,0,0,1,1]) e (setN (inB 0 (setN (kont Pg R Try.f25) (fun e => F25_j2 R (e 0) (e 1) (e 2)))) (fun e => k1 (e 0) (e 1) (e 2) (e 8) (e 9))) (fun e => F25_j14 R k1 (e 0) (e 1) (e 2) (e 8) (e 9)) _ (by kernel_rfl) (fun e => F25_j14_ok R k1 e) (den_conv Pg R (pre 0 (cd Try.f25 [1,1,1,0,1,0,0,1])) (cd Try.f25 [1,1,1,0,1,0,0,1,0]) e (setN (setN (inB 0 (setN (kont Pg R Try.f25) (fun e => F25_j2 R (e 0) (e 1) (e 2)))) (fun e => k1 (e 0) (e 1) (e 2) (e 8) (e 9))) (fun e => F25_j14 R k1 (e 0) (e 1) (e 2) (e 8) (e 9))) _ (by kernel_rfl) (F25_j15_ok R k1 e)))
def F25_b3 (R : ER) (k1 : V5) (x0 x1 x2 x8 x9 : Value) : WP :=
  pv (bin .lss x9 (.int .i64 2)) fun v48 =>
  cnd v48 (
   F25_j13 R k1 x0 x1 x2 x8 x9) (
   F25_j2 R x0 x1 x2)
theorem F25_b3_ok (R : ER) (k1 : V5) (e : Env) : den Pg R (cd Try.f25 [1,1,1,0,1,0,0]) e (setN (inB 0 (setN (kont Pg R Try.f25) (fun e => F25_j2 R (e 0) (e 1) (e 2)))) (fun e => k1 (e 0) (e 1) (e 2) (e 8) (e 9))) = (F25_b3 R k1 (e 0) (e 1) (e 2) (e 8) (e 9)) := (den_join Pg R 0 (cd Try.f25 [1,1,1,0,1,0,0]) (cd Try.f25 [1,1,1,0,1,0,0,1]) e (setN (inB 0 (setN (kont Pg R Try.f25) (fun e => F25_j2 R (e 0) (e 1) (e 2)))) (fun e => k1 (e 0) (e 1) (e 2) (e 8) (e 9))) (fun e => F25_j13 R k1 (e 0) (e 1) (e 2) (e 8) (e 9)) _ (by kernel_rfl) (fun e => F25_j13_ok R k1 e) (by kernel_rfl))
noncomputable def F25_l4 (R : ER) (n : Nat) : V5 := Nat.rec (motive := fun _ => V5) (fun _ _ _ _ _ => fun _ => False) (fun _ ih => fun x0 x1 x2 x8 x9 => F25_b3 R ih x0 x1 x2 x8 x9) n
theorem F25_l4_succ (R : ER) (n : Nat) (x0 x1 x2 x8 x9 : Value) : F25_l4 R (n + 1) x0 x1 x2 x8 x9 = F25_b3 R (F25_l4 R n) x0 x1 x2 x8 x9 := rfl
theorem F25_l4_ok (R : ER) : ∀ (n : Nat) (e : Env), iterL (den Pg R (cd Try.f25 [1,1,1,0,1,0,0])) n e (inB 0 (setN (kont Pg R Try.f25) (fun e => F25_j2 R (e 0) (e 1) (e 2)))) = F25_l4 R n (e 0) (e 1) (e 2) (e 8) (e 9) :=
  iterL_join (den Pg R (cd Try.f25 [1,1,1,0,1,0,0])) (inB 0 (setN (kont Pg R Try.f25) (fun e => F25_j2 R (e 0) (e 1) (e 2)))) (fun n e => F25_l4 R n (e 0) (e 1) (e 2) (e 8) (e 9)) (fun _ => rfl) (fun n e => (F25_b3_ok R (F25_l4 R n) e).trans (F25_l4_succ R n (e 0) (e 1) (e 2) (e 8) (e 9)).symm)
def F25_j12 (R : ER) (x0 x1 x2 x8 x9 : Value) : WP :=
  exN fun n => F25_l4 R n x0 x1 x2 x8 x9
theorem F25_j12_ok (R : ER) (e : Env) : den Pg R (cd Try.f25 [1,1,1,0,1]) e (setN (kont Pg R Try.f25) (fun e => F25_j2 R (e 0) (e 1) (e 2))) = (F25_j12 R (e 0) (e 1) (e 2) (e 8) (e 9)) := (den_block Pg R (cd Try.f25 [1,1,1,0,1]) 0 (cd Try.f25 [1,1,1,0,1,0]) e (setN (kont Pg R Try.f25) (fun e => F25_j2 R (e 0) (e 1) (e 2))) _ (by kernel_rfl) (den_loop Pg R (cd Try.f25 [1,1,1,0,1,0]) (cd Try.f25 [1,1,1,0,1,0,0]) e (inB 0 (setN (kont Pg R Try.f25) (fun e => F25_j2 R (e 0) (e 1) (e 2)))) (fun n e => F25_l4 R n (e 0) (e 1) (e 2) (e 8) (e 9)) _ (by kernel_rfl) (F25_l4_ok R) (by kernel_rfl)))
def F25_j11 (R : ER) (x0 x1 x2 x8 : Value) : WP :=
  F25_j12 R x0 x1 x2 x8 (.int .i64 0)
theorem F25_j11_ok (R : ER) (e : Env) : den Pg R (cd Try.f25 [1,1,1,0]) e (setN (kont Pg R Try.f25) (fun e => F25_j2 R (e 0) (e 1) (e 2))) = (F25_j11 R (e 0) (e 1) (e 2) (e 8)) := (den_join Pg R 0 (cd Try.f25 [1,1,1,0]) (cd Try.f25 [1,1,1,0,1]) e (setN (kont Pg R Try.f25) (fun e => F25_j2 R (e 0) (e 1) (e 2))) (fun e => F25_j12 R (e 0) (e 1) (e 2) (e 8) (e 9)) _ (by kernel_rfl) (fun e => F25_j12_ok R e) (by kernel_rfl))
def F25_j1 (R : ER) (x0 x1 x2 x8 : Value) : WP :=
  F25_j11 R x0 x1 x2 x8
theorem F25_j1_ok (R : ER) (e : Env) : den Pg R (cd Try.f25 [1,1,1]) e (kont Pg R Try.f25) = (F25_j1 R (e 0) (e 1) (e 2) (e 8)) := (den_join Pg R 0 (cd Try.f25 [1,1,1]) (cd Try.f25 [1,1,1,1]) e (kont Pg R Try.f25) (fun e => F25_j2 R (e 0) (e 1) (e 2)) _ (by kernel_rfl) (fun e => F25_j2_ok R e) (den_conv Pg R (pre 0 (cd Try.f25 [1,1,1])) (cd Try.f25 [1,1,1,0]) e (setN (kont Pg R Try.f25) (fun e => F25_j2 R (e 0) (e 1) (e 2))) _ (by kernel_rfl) (F25_j11_ok R e)))
def F25 (R : ER) (x0 x1 x2 : Value) : WP :=
  valV Pg R (Instr.buildSlice 132 2 ⟨[(0, x0), (1, x1)]⟩) fun v49 =>
  pv (lenS x0) fun v50 =>
  pv (bin .gtr v50 (.int .i64 200)) fun v51 =>
  gd v51 false (pv (some x1)) fun v52 =>
  gd v51 false (pv (lenS v52)) fun v53 =>
  gd v51 false (pv (bin .gtr v53 (.int .i64 200))) fun v54 =>
  pv (pickO v51 (.bool true) v54) fun v55 =>
  cnd v55 (
   R (.returned (.tuple ⟨[(.int .i64 0), (.int .i64 18)]⟩))) (
   F25_j1 R x0 x1 x2 v49)
theorem F25_den (R : ER) (x0 x1 x2 : Value) : den Pg R (cd Try.f25 []) (argsEnv [x0, x1, x2]) (kont Pg R Try.f25) = F25 R x0 x1 x2 :=
  have h : ∀ e, den Pg R (cd Try.f25 []) e (kont Pg R Try.f25) = F25 R (e 0) (e 1) (e 2) := fun e => (den_join Pg R 2 (cd Try.f25 []) (cd Try.f25 [1,1,1]) e (kont Pg R Try.f25) (fun e => F25_j1 R (e 0) (e 1) (e 2) (e 8)) _ (by kernel_rfl) (fun e => F25_j1_ok R e) (by kernel_rfl))
  h _
theorem F25_calls {R : ER} {x0 x1 x2 : Value} {w : World} (h : F25 R x0 x1 x2 w) : Calls Pg 25 ⟨[x0, x1, x2]⟩ w R :=
  calls_of_den Try.func25 (by kernel_rfl) (by kernel_rfl) (F25_den R x0 x1 x2) h
/-! ### 26: orpimentlaw39_rules -/
def F26_j1 (R : ER) (x3 : Value) : WP :=
  R (.returned x3)
theorem F26_j1_ok (R : ER) (e : Env) : den Pg R (cd Try.f26 [1,1,1]) e (kont Pg R Try.f26) = (F26_j1 R (e 3)) := by kernel_rfl
def F26_j4 (R : ER) (k1 : V4) (x3 x7 x8 x9 : Value) : WP :=
  pv (ixS 16 x7 x9) fun v1 =>
  ldN 16 v1 fun v2 =>
  al Pg 29 fun v3 =>
  stN 16 v3 v2 fun _ =>
  ldN 16 v3 fun v4 =>
  cal Pg R 13 ⟨[v4]⟩ fun v5 =>
  valV Pg R (Instr.buildSlice 72 1 ⟨[(0, v5)]⟩) fun v6 =>
  blt Pg R .append ⟨[72,72]⟩ 72 ⟨[false, false]⟩ ⟨[x3, v6]⟩ fun v7 =>
  pv (bin .add x9 (.int .i64 1)) fun v8 =>
  k1 v7 x7 x8 v8
theorem F26_j4_ok (R : ER) (k1 : V4) (e : Env) : den Pg R (cd Try.f26 [1,1,0,1,0,0,1,1]) e (setN (inB 0 (setN (kont Pg R Try.f26) (fun e => F26_j1 R (e 3)))) (fun e => k1 (e 3) (e 7) (e 8) (e 9))) = (F26_j4 R k1 (e 3) (e 7) (e 8) (e 9)) := by kernel_rfl
def F26_b1 (R : ER) (k1 : V4) (x3 x7 x8 x9 : Value) : WP :=
  pv (bin .lss x9 x8) fun v9 =>
  cnd v9 (
   F26_j4 R k1 x3 x7 x8 x9) (
   F26_j1 R x3)
theorem F26_b1_ok (R : ER) (k1 : V4) (e : Env) : den Pg R (cd Try.f26 [1,1,0,1,0,0]) e (setN (inB 0 (setN (kont Pg R Try.f26) (fun e => F26_j1 R (e 3)))) (fun e => k1 (e 3) (e 7) (e 8) (e 9))) = (F26_b1 R k1 (e 3) (e 7) (e 8) (e 9)) := (den_join Pg R 1 (cd Try.f26 [1,1,0,1,0,0]) (cd Try.f26 [1,1,0,1,0,0,1,1]) e (setN (inB 0 (setN (kont Pg R Try.f26) (fun e => F26_j1 R (e 3)))) (fun e => k1 (e 3) (e 7) (e 8) (e 9))) (fun e => F26_j4 R k1 (e 3) (e 7) (e 8) (e 9)) _ (by kernel_rfl) (fun e => F26_j4_ok R k1 e) (by kernel_rfl))
noncomputable def F26_l1 (R : ER) (n : Nat) : V4 := Nat.rec (motive := fun _ => V4) (fun _ _ _ _ => fun _ => False) (fun _ ih => fun x3 x7 x8 x9 => F26_b1 R ih x3 x7 x8 x9) n
theorem F26_l1_succ (R : ER) (n : Nat) (x3 x7 x8 x9 : Value) : F26_l1 R (n + 1) x3 x7 x8 x9 = F26_b1 R (F26_l1 R n) x3 x7 x8 x9 := rfl
theorem F26_l1_ok (R : ER) : ∀ (n : Nat) (e : Env), iterL (den Pg R (cd Try.f26 [1,1,0,1,0,0])) n e (inB 0 (setN (kont Pg R Try.f26) (fun e => F26_j1 R (e 3)))) = F26_l1 R n (e 3) (e 7) (e 8) (e 9) :=
  iterL_join (den Pg R (cd Try.f26 [1,1,0,1,0,0])) (inB 0 (setN (kont Pg R Try.f26) (fun e => F26_j1 R (e 3)))) (fun n e => F26_l1 R n (e 3) (e 7) (e 8) (e 9)) (fun _ => rfl) (fun n e => (F26_b1_ok R (F26_l1 R n) e).trans (F26_l1_succ R n (e 3) (e 7) (e 8) (e 9)).symm)
def F26_j3 (R : ER) (x3 x7 x8 x9 : Value) : WP :=
  exN fun n => F26_l1 R n x3 x7 x8 x9
theorem F26_j3_ok (R : ER) (e : Env) : den Pg R (cd Try.f26 [1,1,0,1]) e (setN (kont Pg R Try.f26) (fun e => F26_j1 R (e 3))) = (F26_j3 R (e 3) (e 7) (e 8) (e 9)) := (den_block Pg R (cd Try.f26 [1,1,0,1]) 0 (cd Try.f26 [1,1,0,1,0]) e (setN (kont Pg R Try.f26) (fun e => F26_j1 R (e 3))) _ (by kernel_rfl) (den_loop Pg R (cd Try.f26 [1,1,0,1,0]) (cd Try.f26 [1,1,0,1,0,0]) e (inB 0 (setN (kont Pg R Try.f26) (fun e => F26_j1 R (e 3)))) (fun n e => F26_l1 R n (e 3) (e 7) (e 8) (e 9)) _ (by kernel_rfl) (F26_l1_ok R) (by kernel_rfl)))
def F26_j2 (R : ER) (x0 x3 : Value) : WP :=
  pv (lenS x0) fun v10 =>
  F26_j3 R x3 x0 v10 (.int .i64 0)
theorem F26_j2_ok (R : ER) (e : Env) : den Pg R (cd Try.f26 [1,1,0]) e (setN (kont Pg R Try.f26) (fun e => F26_j1 R (e 3))) = (F26_j2 R (e 0) (e 3)) := (den_join Pg R 0 (cd Try.f26 [1,1,0]) (cd Try.f26 [1,1,0,1]) e (setN (kont Pg R Try.f26) (fun e => F26_j1 R (e 3))) (fun e => F26_j3 R (e 3) (e 7) (e 8) (e 9)) _ (by kernel_rfl) (fun e => F26_j3_ok R e) (by kernel_rfl))
def F26 (R : ER) (x0 : Value) : WP :=
  valV Pg R (Instr.buildSlice 72 0 ⟨[]⟩) fun v11 =>
  F26_j2 R x0 v11
theorem F26_den (R : ER) (x0 : Value) : den Pg R (cd Try.f26 []) (argsEnv [x0]) (kont Pg R Try.f26) = F26 R x0 :=
  have h : ∀ e, den Pg R (cd Try.f26 []) e (kont Pg R Try.f26) = F26 R (e 0) := fun e => (den_join Pg R 2 (cd Try.f26 []) (cd Try.f26 [1,1,1]) e (kont Pg R Try.f26) (fun e => F26_j1 R (e 3)) _ (by kernel_rfl) (fun e => F26_j1_ok R e) (den_join Pg R 1 (pre 2 (cd Try.f26 [])) (cd Try.f26 [1,1,0]) e (setN (kont Pg R Try.f26) (fun e => F26_j1 R (e 3))) (fun e => F26_j2 R (e 0) (e 3)) _ (by kernel_rfl) (fun e => F26_j2_ok R e) (by kernel_rfl)))
  h _
theorem F26_calls {R : ER} {x0 : Value} {w : World} (h : F26 R x0 w) : Calls Pg 26 ⟨[x0]⟩ w R :=
  calls_of_den Try.func26 (by kernel_rfl) (by kernel_rfl) (F26_den R x0) h
/-! ### 27: orpimentref39_New -/
def F27_j3 (R : ER) (x0 x1 x2 : Value) : WP :=
  drewV (
  pv (lenS x0) fun v1 =>
  allW [
  (mem fun w3 => valV Pg noR (Instr.buildSlice 72 0 ⟨[]⟩) fun v2 =>
   allW [
   (mem fun w5 => blt Pg noR .append ⟨[72,72]⟩ 72 ⟨[false, false]⟩ ⟨[v2, x0]⟩ fun v4 =>
    mem fun w7 => valV Pg noR (Instr.makeSlice 91 v1 v1) fun v6 =>
    pv (bldO [.slice none 0 0, .int .i64 0, .int .i64 0, .slice none 0 0, .slice none 0 0, .int .i64 0] [(0,1, v4), (1,1, x1), (2,1, x2), (4,1, v6)]) fun v8 =>
    mem fun w10 => bx 95 v8 fun v9 =>
    R (.returned (.tuple ⟨[v9, (.int .i64 0)]⟩))),
   (mem fun w12 => valV Pg noR (Instr.makeSlice 91 v1 v1) fun v11 =>
    mem fun w14 => blt Pg noR .append ⟨[72,72]⟩ 72 ⟨[false, false]⟩ ⟨[v2, x0]⟩ fun v13 =>
    pv (bldO [.slice none 0 0, .int .i64 0, .int .i64 0, .slice none 0 0, .slice none 0 0, .int .i64 0] [(0,1, v13), (1,1, x1), (2,1, x2), (4,1, v11)]) fun v15 =>
    mem fun w17 => bx 95 v15 fun v16 =>
    R (.returned (.tuple ⟨[v16, (.int .i64 0)]⟩)))]),
  (mem fun w19 => valV Pg noR (Instr.makeSlice 91 v1 v1) fun v18 =>
   mem fun w21 => valV Pg noR (Instr.buildSlice 72 0 ⟨[]⟩) fun v20 =>
   mem fun w23 => blt Pg noR .append ⟨[72,72]⟩ 72 ⟨[false, false]⟩ ⟨[v20, x0]⟩ fun v22 =>
   pv (bldO [.slice none 0 0, .int .i64 0, .int .i64 0, .slice none 0 0, .slice none 0 0, .int .i64 0] [(0,1, v22), (1,1, x1), (2,1, x2), (4,1, v18)]) fun v24 =>
   mem fun w26 => bx 95 v24 fun v25 =>
   R (.returned (.tuple ⟨[v25, (.int .i64 0)]⟩)))])
theorem F27_j3_ok (R : ER) (e : Env) : den Pg R (cd Try.f27 [1,1,1,1]) e (kont Pg R Try.f27) = (F27_j3 R (e 0) (e 1) (e 2)) := by kernel_rfl
def F27_j4 (R : ER) (x0 x1 x2 : Value) : WP :=
  pv (bin .lss x1 (.int .i64 1)) fun v27 =>
  gd v27 false (pv (some x1)) fun v28 =>
  gd v27 false (pv (bin .gtr v28 (.int .i64 100))) fun v29 =>
  pv (pickO v27 (.bool true) v29) fun v30 =>
  gd v30 false (pv (some x2)) fun v31 =>
  gd v30 false (pv (bin .lss v31 (.int .i64 1))) fun v32 =>
  pv (pickO v30 (.bool true) v32) fun v33 =>
  gd v33 false (pv (some x2)) fun v34 =>
  gd v33 false (pv (bin .gtr v34 (.int .i64 1099511627776))) fun v35 =>
  pv (pickO v33 (.bool true) v35) fun v36 =>
  cnd v36 (
   R (.returned (.tuple ⟨[(.pointer none), (.int .i64 34)]⟩))) (
   F27_j3 R x0 x1 x2)
theorem F27_j4_ok (R : ER) (e : Env) : den Pg R (cd Try.f27 [1,1,1,0]) e (setN (kont Pg R Try.f27) (fun e => F27_j3 R (e 0) (e 1) (e 2))) = (F27_j4 R (e 0) (e 1) (e 2)) := (by kernel_rfl)
def F27_j2 (R : ER) (x0 x1 x2 : Value) : WP :=
  F27_j4 R x0 x1 x2
theorem F27_j2_ok (R : ER) (e : Env) : den Pg R (cd Try.f27 [1,1,1]) e (kont Pg R Try.f27) = (F27_j2 R (e 0) (e 1) (e 2)) := (den_join Pg R 0 (cd Try.f27 [1,1,1]) (cd Try.f27 [1,1,1,1]) e (kont Pg R Try.f27) (fun e => F27_j3 R (e 0) (e 1) (e 2)) _ (by kernel_rfl) (fun e => F27_j3_ok R e) (den_conv Pg R (pre 0 (cd Try.f27 [1,1,1])) (cd Try.f27 [1,1,1,0]) e (setN (kont Pg R Try.f27) (fun e => F27_j3 R (e 0) (e 1) (e 2))) _ (by kernel_rfl) (F27_j4_ok R e)))
def F27_j7 (R : ER) (k1 : V4) (x0 x1 x2 x8 : Value) : WP :=
  pv (ixS 16 x0 x8) fun v37 =>
  ldN 16 v37 fun v38 =>
  cal Pg R 57 ⟨[v38]⟩ fun v39 =>
  pv (bin .neq v39 (.int .i64 0)) fun v40 =>
  cnd v40 (
   R (.returned (.tuple ⟨[(.pointer none), v39]⟩))) (
   pv (bin .add x8 (.int .i64 1)) fun v41 =>
  k1 x0 x1 x2 v41)
theorem F27_j7_ok (R : ER) (k1 : V4) (e : Env) : den Pg R (cd Try.f27 [1,1,0,1,0,0,1]) e (setN (inB 0 (setN (kont Pg R Try.f27) (fun e => F27_j2 R (e 0) (e 1) (e 2)))) (fun e => k1 (e 0) (e 1) (e 2) (e 8))) = (F27_j7 R k1 (e 0) (e 1) (e 2) (e 8)) := (by kernel_rfl)
def F27_b1 (R : ER) (k1 : V4) (x0 x1 x2 x8 : Value) : WP :=
  pv (lenS x0) fun v42 =>
  pv (bin .lss x8 v42) fun v43 =>
  cnd v43 (
   F27_j7 R k1 x0 x1 x2 x8) (
   F27_j2 R x0 x1 x2)
theorem F27_b1_ok (R : ER) (k1 : V4) (e : Env) : den Pg R (cd Try.f27 [1,1,0,1,0,0]) e (setN (inB 0 (setN (kont Pg R Try.f27) (fun e => F27_j2 R (e 0) (e 1) (e 2)))) (fun e => k1 (e 0) (e 1) (e 2) (e 8))) = (F27_b1 R k1 (e 0) (e 1) (e 2) (e 8)) := (den_join Pg R 0 (cd Try.f27 [1,1,0,1,0,0]) (cd Try.f27 [1,1,0,1,0,0,1]) e (setN (inB 0 (setN (kont Pg R Try.f27) (fun e => F27_j2 R (e 0) (e 1) (e 2)))) (fun e => k1 (e 0) (e 1) (e 2) (e 8))) (fun e => F27_j7 R k1 (e 0) (e 1) (e 2) (e 8)) _ (by kernel_rfl) (fun e => F27_j7_ok R k1 e) (by kernel_rfl))
noncomputable def F27_l1 (R : ER) (n : Nat) : V4 := Nat.rec (motive := fun _ => V4) (fun _ _ _ _ => fun _ => False) (fun _ ih => fun x0 x1 x2 x8 => F27_b1 R ih x0 x1 x2 x8) n
theorem F27_l1_succ (R : ER) (n : Nat) (x0 x1 x2 x8 : Value) : F27_l1 R (n + 1) x0 x1 x2 x8 = F27_b1 R (F27_l1 R n) x0 x1 x2 x8 := rfl
theorem F27_l1_ok (R : ER) : ∀ (n : Nat) (e : Env), iterL (den Pg R (cd Try.f27 [1,1,0,1,0,0])) n e (inB 0 (setN (kont Pg R Try.f27) (fun e => F27_j2 R (e 0) (e 1) (e 2)))) = F27_l1 R n (e 0) (e 1) (e 2) (e 8) :=
  iterL_join (den Pg R (cd Try.f27 [1,1,0,1,0,0])) (inB 0 (setN (kont Pg R Try.f27) (fun e => F27_j2 R (e 0) (e 1) (e 2)))) (fun n e => F27_l1 R n (e 0) (e 1) (e 2) (e 8)) (fun _ => rfl) (fun n e => (F27_b1_ok R (F27_l1 R n) e).trans (F27_l1_succ R n (e 0) (e 1) (e 2) (e 8)).symm)
def F27_j6 (R : ER) (x0 x1 x2 x8 : Value) : WP :=
  exN fun n => F27_l1 R n x0 x1 x2 x8
theorem F27_j6_ok (R : ER) (e : Env) : den Pg R (cd Try.f27 [1,1,0,1]) e (setN (kont Pg R Try.f27) (fun e => F27_j2 R (e 0) (e 1) (e 2))) = (F27_j6 R (e 0) (e 1) (e 2) (e 8)) := (den_block Pg R (cd Try.f27 [1,1,0,1]) 0 (cd Try.f27 [1,1,0,1,0]) e (setN (kont Pg R Try.f27) (fun e => F27_j2 R (e 0) (e 1) (e 2))) _ (by kernel_rfl) (den_loop Pg R (cd Try.f27 [1,1,0,1,0]) (cd Try.f27 [1,1,0,1,0,0]) e (inB 0 (setN (kont Pg R Try.f27) (fun e => F27_j2 R (e 0) (e 1) (e 2)))) (fun n e => F27_l1 R n (e 0) (e 1) (e 2) (e 8)) _ (by kernel_rfl) (F27_l1_ok R) (by kernel_rfl)))
def F27_j5 (R : ER) (x0 x1 x2 : Value) : WP :=
  F27_j6 R x0 x1 x2 (.int .i64 0)
theorem F27_j5_ok (R : ER) (e : Env) : den Pg R (cd Try.f27 [1,1,0]) e (setN (kont Pg R Try.f27) (fun e => F27_j2 R (e 0) (e 1) (e 2))) = (F27_j5 R (e 0) (e 1) (e 2)) := (den_join Pg R 0 (cd Try.f27 [1,1,0]) (cd Try.f27 [1,1,0,1]) e (setN (kont Pg R Try.f27) (fun e => F27_j2 R (e 0) (e 1) (e 2))) (fun e => F27_j6 R (e 0) (e 1) (e 2) (e 8)) _ (by kernel_rfl) (fun e => F27_j6_ok R e) (by kernel_rfl))
def F27_j1 (R : ER) (x0 x1 x2 : Value) : WP :=
  F27_j5 R x0 x1 x2
theorem F27_j1_ok (R : ER) (e : Env) : den Pg R (cd Try.f27 [1,1]) e (kont Pg R Try.f27) = (F27_j1 R (e 0) (e 1) (e 2)) := (den_join Pg R 0 (cd Try.f27 [1,1]) (cd Try.f27 [1,1,1]) e (kont Pg R Try.f27) (fun e => F27_j2 R (e 0) (e 1) (e 2)) _ (by kernel_rfl) (fun e => F27_j2_ok R e) (den_conv Pg R (pre 0 (cd Try.f27 [1,1])) (cd Try.f27 [1,1,0]) e (setN (kont Pg R Try.f27) (fun e => F27_j2 R (e 0) (e 1) (e 2))) _ (by kernel_rfl) (F27_j5_ok R e)))
def F27 (R : ER) (x0 x1 x2 : Value) : WP :=
  pv (lenS x0) fun v44 =>
  pv (bin .gtr v44 (.int .i64 200)) fun v45 =>
  cnd v45 (
   R (.returned (.tuple ⟨[(.pointer none), (.int .i64 18)]⟩))) (
   F27_j1 R x0 x1 x2)
theorem F27_den (R : ER) (x0 x1 x2 : Value) : den Pg R (cd Try.f27 []) (argsEnv [x0, x1, x2]) (kont Pg R Try.f27) = F27 R x0 x1 x2 :=
  have h : ∀ e, den Pg R (cd Try.f27 []) e (kont Pg R Try.f27) = F27 R (e 0) (e 1) (e 2) := fun e => (den_join Pg R 1 (cd Try.f27 []) (cd Try.f27 [1,1]) e (kont Pg R Try.f27) (fun e => F27_j1 R (e 0) (e 1) (e 2)) _ (by kernel_rfl) (fun e => F27_j1_ok R e) (by kernel_rfl))
  h _
theorem F27_calls {R : ER} {x0 x1 x2 : Value} {w : World} (h : F27 R x0 x1 x2 w) : Calls Pg 27 ⟨[x0, x1, x2]⟩ w R :=
  calls_of_den Try.func27 (by kernel_rfl) (by kernel_rfl) (F27_den R x0 x1 x2) h
/-! ### 28: filter_Filter_Drop -/
def F28_j2 (R : ER) (x0 x5 x7 : Value) : WP :=
  drewV (
  pv (nilO x0) fun v1 =>
  pv (faO 4 v1) fun v2 =>
  ld1 v2 fun v3 =>
  ldN 5 x5 fun v4 =>
  mem fun w6 => blt Pg noR .delete ⟨[115,119]⟩ 0 ⟨[false, false]⟩ ⟨[v3, v4]⟩ fun v5 =>
  R (.returned x7))
theorem F28_j2_ok (R : ER) (e : Env) : den Pg R (cd Try.f28 [1,1,1,1]) e (kont Pg R Try.f28) = (F28_j2 R (e 0) (e 5) (e 7)) := by kernel_rfl
def F28_j1 (R : ER) (x0 x3 : Value) : WP :=
  pv (faO 0 x3) fun v7 =>
  ld1 v7 fun v8 =>
  pv (faO 1 x3) fun v9 =>
  ld1 v9 fun v10 =>
  pv (faO 2 x3) fun v11 =>
  ld1 v11 fun v12 =>
  pv (faO 3 x3) fun v13 =>
  ld1 v13 fun v14 =>
  pv (faO 4 x3) fun v15 =>
  ld1 v15 fun v16 =>
  pv (bldO [.int .i64 0, .int .u32 0, .int .u32 0, .int .i64 0, .int .i64 0] [(0,1, v8), (1,1, v10), (2,1, v12), (3,1, v14), (4,1, v16)]) fun v17 =>
  al Pg 119 fun v18 =>
  stN 5 v18 v17 fun _ =>
  drewV (
  pv (nilO x0) fun v19 =>
  pv (faO 4 v19) fun v20 =>
  ld1 v20 fun v21 =>
  ldN 5 v18 fun v22 =>
  allW [
  (mem fun w24 => valV Pg noR (Instr.lookup 115 v21 v22 true) fun v23 =>
   pv (extO 0 v23) fun v25 =>
   pv (extO 1 v23) fun v26 =>
   mem fun w28 => al Pg 121 fun v27 =>
   rdN 5 v18 v22 <|
   rd1 v20 v21 <|
   mem fun w30 => stN 2 v27 v25 fun v29 =>
   F28_j2 R x0 v18 v26),
  (mem fun w32 => al Pg 121 fun v31 =>
   rdN 5 v18 v22 <|
   rd1 v20 v21 <|
   mem fun w34 => valV Pg noR (Instr.lookup 115 v21 v22 true) fun v33 =>
   pv (extO 0 v33) fun v35 =>
   pv (extO 1 v33) fun v36 =>
   mem fun w38 => stN 2 v31 v35 fun v37 =>
   F28_j2 R x0 v18 v36)])
theorem F28_j1_ok (R : ER) (e : Env) : den Pg R (cd Try.f28 [1,1]) e (kont Pg R Try.f28) = (F28_j1 R (e 0) (e 3)) := (den_join Pg R 1 (cd Try.f28 [1,1]) (cd Try.f28 [1,1,1,1]) e (kont Pg R Try.f28) (fun e => F28_j2 R (e 0) (e 5) (e 7)) _ (by kernel_rfl) (fun e => F28_j2_ok R e) (by kernel_rfl))
def F28 (R : ER) (x0 x1 : Value) : WP :=
  bx 84 x1 fun v39 =>
  pv (eqNilP x0) fun v40 =>
  cnd v40 (
   R (.returned (.bool false))) (
   F28_j1 R x0 v39)
theorem F28_den (R : ER) (x0 x1 : Value) : den Pg R (cd Try.f28 []) (argsEnv [x0, x1]) (kont Pg R Try.f28) = F28 R x0 x1 :=
  have h : ∀ e, den Pg R (cd Try.f28 []) e (kont Pg R Try.f28) = F28 R (e 0) (e 1) := fun e => (den_join Pg R 1 (cd Try.f28 []) (cd Try.f28 [1,1]) e (kont Pg R Try.f28) (fun e => F28_j1 R (e 0) (e 3)) _ (by kernel_rfl) (fun e => F28_j1_ok R e) (by kernel_rfl))
  h _
theorem F28_calls {R : ER} {x0 x1 : Value} {w : World} (h : F28 R x0 x1 w) : Calls Pg 28 ⟨[x0, x1]⟩ w R :=
  calls_of_den Try.func28 (by kernel_rfl) (by kernel_rfl) (F28_den R x0 x1) h
/-! ### 29: orpimentref39_Filter_Drop -/
def F29_j1 (R : ER) : WP :=
  R (.returned (.bool false))
theorem F29_j1_ok (R : ER) (e : Env) : den Pg R (cd Try.f29 [1,1]) e (kont Pg R Try.f29) = (F29_j1 R) := by kernel_rfl
def F29_j4 (R : ER) (k1 : V3) (x0 x3 x5 : Value) : WP :=
  pv (nilO x0) fun v1 =>
  pv (faO 3 v1) fun v2 =>
  ld1 v2 fun v3 =>
  pv (ixS 6 v3 x5) fun v4 =>
  ldN 6 v4 fun v5 =>
  al Pg 87 fun v6 =>
  stN 6 v6 v5 fun _ =>
  pv (faO 5 x3) fun v7 =>
  ld1 v7 fun v8 =>
  pv (faO 5 v6) fun v9 =>
  st1 v9 v8 fun _ =>
  ldN 6 v6 fun v10 =>
  ldN 6 x3 fun v11 =>
  pv (eqAgg [0,0,0,0,0,0] v10 v11) fun v12 =>
  cnd v12 (
   cal Pg R 60 ⟨[x0, x5]⟩ fun v13 =>
   R (.returned (.bool true))) (
   pv (bin .add x5 (.int .i64 1)) fun v14 =>
  k1 x0 x3 v14)
theorem F29_j4_ok (R : ER) (k1 : V3) (e : Env) : den Pg R (cd Try.f29 [1,0,1,0,0,1]) e (setN (inB 0 (setN (kont Pg R Try.f29) (fun e => F29_j1 R))) (fun e => k1 (e 0) (e 3) (e 5))) = (F29_j4 R k1 (e 0) (e 3) (e 5)) := (by kernel_rfl)
def F29_b1 (R : ER) (k1 : V3) (x0 x3 x5 : Value) : WP :=
  pv (nilO x0) fun v15 =>
  pv (faO 3 v15) fun v16 =>
  ld1 v16 fun v17 =>
  pv (lenS v17) fun v18 =>
  pv (bin .lss x5 v18) fun v19 =>
  cnd v19 (
   F29_j4 R k1 x0 x3 x5) (
   F29_j1 R)
theorem F29_b1_ok (R : ER) (k1 : V3) (e : Env) : den Pg R (cd Try.f29 [1,0,1,0,0]) e (setN (inB 0 (setN (kont Pg R Try.f29) (fun e => F29_j1 R))) (fun e => k1 (e 0) (e 3) (e 5))) = (F29_b1 R k1 (e 0) (e 3) (e 5)) := (den_join Pg R 0 (cd Try.f29 [1,0,1,0,0]) (cd Try.f29 [1,0,1,0,0,1]) e (setN (inB 0 (setN (kont Pg R Try.f29) (fun e => F29_j1 R))) (fun e => k1 (e 0) (e 3) (e 5))) (fun e => F29_j4 R k1 (e 0) (e 3) (e 5)) _ (by kernel_rfl) (fun e => F29_j4_ok R k1 e) (by kernel_rfl))
noncomputable def F29_l1 (R : ER) (n : Nat) : V3 := Nat.rec (motive := fun _ => V3) (fun _ _ _ => fun _ => False) (fun _ ih => fun x0 x3 x5 => F29_b1 R ih x0 x3 x5) n
theorem F29_l1_succ (R : ER) (n : Nat) (x0 x3 x5 : Value) : F29_l1 R (n + 1) x0 x3 x5 = F29_b1 R (F29_l1 R n) x0 x3 x5 := rfl
theorem F29_l1_ok (R : ER) : ∀ (n : Nat) (e : Env), iterL (den Pg R (cd Try.f29 [1,0,1,0,0])) n e (inB 0 (setN (kont Pg R Try.f29) (fun e => F29_j1 R))) = F29_l1 R n (e 0) (e 3) (e 5) :=
  iterL_join (den Pg R (cd Try.f29 [1,0,1,0,0])) (inB 0 (setN (kont Pg R Try.f29) (fun e => F29_j1 R))) (fun n e => F29_l1 R n (e 0) (e 3) (e 5)) (fun _ => rfl) (fun n e => (F29_b1_ok R (F29_l1 R n) e).trans (F29_l1_succ R n (e 0) (e 3) (e 5)).symm)
def F29_j3 (R : ER) (x0 x3 x5 : Value) : WP :=
  exN fun n => F29_l1 R n x0 x3 x5
theorem F29_j3_ok (R : ER) (e : Env) : den Pg R (cd Try.f29 [1,0,1]) e (setN (kont Pg R Try.f29) (fun e => F29_j1 R)) = (F29_j3 R (e 0) (e 3) (e 5)) := (den_block Pg R (cd Try.f29 [1,0,1]) 0 (cd Try.f29 [1,0,1,0]) e (setN (kont Pg R Try.f29) (fun e => F29_j1 R)) _ (by kernel_rfl) (den_loop Pg R (cd Try.f29 [1,0,1,0]) (cd Try.f29 [1,0,1,0,0]) e (inB 0 (setN (kont Pg R Try.f29) (fun e => F29_j1 R))) (fun n e => F29_l1 R n (e 0) (e 3) (e 5)) _ (by kernel_rfl) (F29_l1_ok R) (by kernel_rfl)))
def F29_j2 (R : ER) (x0 x3 : Value) : WP :=
  F29_j3 R x0 x3 (.int .i64 0)
theorem F29_j2_ok (R : ER) (e : Env) : den Pg R (cd Try.f29 [1,0]) e (setN (kont Pg R Try.f29) (fun e => F29_j1 R)) = (F29_j2 R (e 0) (e 3)) := (den_join Pg R 0 (cd Try.f29 [1,0]) (cd Try.f29 [1,0,1]) e (setN (kont Pg R Try.f29) (fun e => F29_j1 R)) (fun e => F29_j3 R (e 0) (e 3) (e 5)) _ (by kernel_rfl) (fun e => F29_j3_ok R e) (by kernel_rfl))
def F29 (R : ER) (x0 x1 : Value) : WP :=
  bx 87 x1 fun v20 =>
  F29_j2 R x0 v20
theorem F29_den (R : ER) (x0 x1 : Value) : den Pg R (cd Try.f29 []) (argsEnv [x0, x1]) (kont Pg R Try.f29) = F29 R x0 x1 :=
  have h : ∀ e, den Pg R (cd Try.f29 []) e (kont Pg R Try.f29) = F29 R (e 0) (e 1) := fun e => (den_join Pg R 1 (cd Try.f29 []) (cd Try.f29 [1,1]) e (kont Pg R Try.f29) (fun e => F29_j1 R) _ (by kernel_rfl) (fun e => F29_j1_ok R e) (den_join Pg R 0 (pre 1 (cd Try.f29 [])) (cd Try.f29 [1,0]) e (setN (kont Pg R Try.f29) (fun e => F29_j1 R)) (fun e => F29_j2 R (e 0) (e 3)) _ (by kernel_rfl) (fun e => F29_j2_ok R e) (by kernel_rfl)))
  h _
theorem F29_calls {R : ER} {x0 x1 : Value} {w : World} (h : F29 R x0 x1 w) : Calls Pg 29 ⟨[x0, x1]⟩ w R :=
  calls_of_den Try.func29 (by kernel_rfl) (by kernel_rfl) (F29_den R x0 x1) h
/-! ### 30: orpimentlaw39_state -/
def F30 (R : ER) (x0 : Value) : WP :=
  bx 84 x0 fun v1 =>
  al Pg 87 fun v2 =>
  ldN 6 v1 fun v3 =>
  stN 6 v2 v3 fun _ =>
  ldN 6 v2 fun v4 => R (.returned v4)
theorem F30_den (R : ER) (x0 : Value) : den Pg R (cd Try.f30 []) (argsEnv [x0]) (kont Pg R Try.f30) = F30 R x0 :=
  have h : ∀ e, den Pg R (cd Try.f30 []) e (kont Pg R Try.f30) = F30 R (e 0) := fun e => by kernel_rfl
  h _
theorem F30_calls {R : ER} {x0 : Value} {w : World} (h : F30 R x0 w) : Calls Pg 30 ⟨[x0]⟩ w R :=
  calls_of_den Try.func30 (by kernel_rfl) (by kernel_rfl) (F30_den R x0) h
/-! ### 31: orpimentref39_Filter_Decide -/
def F31_j7 (R : ER) (x0 x12 : Value) : WP :=
  pv (nilO x0) fun v1 =>
  pv (faO 0 v1) fun v2 =>
  ld1 v2 fun v3 =>
  pv (ixS 16 v3 x12) fun v4 =>
  pv (faO 0 v4) fun v5 =>
  ld1 v5 fun v6 =>
  R (.returned (.tuple ⟨[v6, x12, (.int .i64 0)]⟩))
theorem F31_j7_ok (R : ER) (e : Env) : den Pg R (cd Try.f31 [1,1,1,1,1,1,1,1,1,1,1]) e (kont Pg R Try.f31) = (F31_j7 R (e 0) (e 12)) := by kernel_rfl
def F31_j11 (R : ER) (x0 x2 x4 x12 : Value) : WP :=
  drewV (
  pv (nilO x0) fun v7 =>
  pv (faO 3 v7) fun v8 =>
  ld1 v8 fun v9 =>
  pv (faO 4 x4) fun v10 =>
  ld1 v10 fun v11 =>
  pv (faO 2 x4) fun v12 =>
  ld1 v12 fun v13 =>
  pv (faO 3 x4) fun v14 =>
  ld1 v14 fun v15 =>
  pv (faO 5 x4) fun v16 =>
  ld1 v16 fun v17 =>
  pv (faO 6 x4) fun v18 =>
  ld1 v18 fun v19 =>
  pv (nilO x0) fun v20 =>
  pv (faO 2 v20) fun v21 =>
  ld1 v21 fun v22 =>
  pv (bin .add x2 v22) fun v23 =>
  pv (bldO [.int .i64 0, .int .u32 0, .int .u32 0, .int .i64 0, .int .i64 0, .int .i64 0] [(0,1, v11), (1,1, v13), (2,1, v15), (3,1, v17), (4,1, v19), (5,1, v23)]) fun v24 =>
  allW [
  (mem fun w26 => valV Pg noR (Instr.buildSlice 93 0 ⟨[]⟩) fun v25 =>
   rd1 v21 v22 <|
   rd1 v18 v19 <|
   rd1 v16 v17 <|
   rd1 v14 v15 <|
   rd1 v12 v13 <|
   rd1 v10 v11 <|
   rd1 v8 v9 <|
   allW [
   (mem fun w28 => blt Pg noR .append ⟨[93,93]⟩ 93 ⟨[false, false]⟩ ⟨[v25, v9]⟩ fun v27 =>
    rd1 v21 v22 <|
    rd1 v18 v19 <|
    rd1 v16 v17 <|
    rd1 v14 v15 <|
    rd1 v12 v13 <|
    rd1 v10 v11 <|
    mem fun w30 => valV Pg noR (Instr.buildSlice 93 1 ⟨[(0, v24)]⟩) fun v29 =>
    rd1 v8 v9 <|
    mem fun w32 => blt Pg noR .append ⟨[93,93]⟩ 93 ⟨[false, false]⟩ ⟨[v27, v29]⟩ fun v31 =>
    pv (nilO x0) fun v33 =>
    pv (faO 3 v33) fun v34 =>
    mem fun w36 => st1 v34 v31 fun v35 =>
    F31_j7 R x0 x12),
   (mem fun w38 => valV Pg noR (Instr.buildSlice 93 1 ⟨[(0, v24)]⟩) fun v37 =>
    rd1 v8 v9 <|
    mem fun w40 => blt Pg noR .append ⟨[93,93]⟩ 93 ⟨[false, false]⟩ ⟨[v25, v9]⟩ fun v39 =>
    rd1 v21 v22 <|
    rd1 v18 v19 <|
    rd1 v16 v17 <|
    rd1 v14 v15 <|
    rd1 v12 v13 <|
    rd1 v10 v11 <|
    mem fun w42 => blt Pg noR .append ⟨[93,93]⟩ 93 ⟨[false, false]⟩ ⟨[v39, v37]⟩ fun v41 =>
    pv (nilO x0) fun v43 =>
    pv (faO 3 v43) fun v44 =>
    mem fun w46 => st1 v44 v41 fun v45 =>
    F31_j7 R x0 x12)]),
  (mem fun w48 => valV Pg noR (Instr.buildSlice 93 1 ⟨[(0, v24)]⟩) fun v47 =>
   rd1 v8 v9 <|
   mem fun w50 => valV Pg noR (Instr.buildSlice 93 0 ⟨[]⟩) fun v49 =>
   rd1 v21 v22 <|
   rd1 v18 v19 <|
   rd1 v16 v17 <|
   rd1 v14 v15 <|
   rd1 v12 v13 <|
   rd1 v10 v11 <|
   rd1 v8 v9 <|
   mem fun w52 => blt Pg noR .append ⟨[93,93]⟩ 93 ⟨[false, false]⟩ ⟨[v49, v9]⟩ fun v51 =>
   rd1 v21 v22 <|
   rd1 v18 v19 <|
   rd1 v16 v17 <|
   rd1 v14 v15 <|
   rd1 v12 v13 <|
   rd1 v10 v11 <|
   mem fun w54 => blt Pg noR .append ⟨[93,93]⟩ 93 ⟨[false, false]⟩ ⟨[v51, v47]⟩ fun v53 =>
   pv (nilO x0) fun v55 =>
   pv (faO 3 v55) fun v56 =>
   mem fun w58 => st1 v56 v53 fun v57 =>
   F31_j7 R x0 x12)])
theorem F31_j11_ok (R : ER) (e : Env) : den Pg R (cd Try.f31 [1,1,1,1,1,1,1,1,1,1,0,1,1,0,1]) e (setN (kont Pg R Try.f31) (fun e => F31_j7 R (e 0) (e 12))) = (F31_j11 R (e 0) (e 2) (e 4) (e 12)) := by kernel_rfl
def F31_j15 (R : ER) (x0 x2 x4 x12 x14 : Value) : WP :=
  cal Pg R 60 ⟨[x0, x14]⟩ fun v59 =>
  F31_j11 R x0 x2 x4 x12
theorem F31_j15_ok (R : ER) (e : Env) : den Pg R (cd Try.f31 [1,1,1,1,1,1,1,1,1,1,0,1,1,0,0,1,0,1,1]) e (setN (setN (kont Pg R Try.f31) (fun e => F31_j7 R (e 0) (e 12))) (fun e => F31_j11 R (e 0) (e 2) (e 4) (e 12))) = (F31_j15 R (e 0) (e 2) (e 4) (e 12) (e 14)) := by kernel_rfl
def F31_j19 (R : ER) (k1 : V6) (x0 x2 x4 x12 x14 x15 : Value) : WP :=
  pv (bin .add x15 (.int .i64 1)) fun v60 =>
  k1 x0 x2 x4 x12 x14 v60
theorem F31_j19_ok (R : ER) (k1 : V6) (e : Env) : den Pg R (cd Try.f31 [1,1,1,1,1,1,1,1,1,1,0,1,1,0,0,1,0,1,0,1,0,0,1,1]) e (setN (inB 4 (setN (setN (setN (kont Pg R Try.f31) (fun e => F31_j7 R (e 0) (e 12))) (fun e => F31_j11 R (e 0) (e 2) (e 4) (e 12))) (fun e => F31_j15 R (e 0) (e 2) (e 4) (e 12) (e 14)))) (fun e => k1 (e 0) (e 2) (e 4) (e 12) (e 14) (e 15))) = (F31_j19 R k1 (e 0) (e 2) (e 4) (e 12) (e 14) (e 15)) := by kernel_rfl
def F31_j20 (R : ER) (k1 : V6) (x0 x2 x4 x12 x14 x15 : Value) : WP :=
  drewV (
  pv (nilO x0) fun v61 =>
  pv (faO 3 v61) fun v62 =>
  ld1 v62 fun v63 =>
  pv (ixS 6 v63 x15) fun v64 =>
  pv (faO 5 v64) fun v65 =>
  ld1 v65 fun v66 =>
  pv (nilO x0) fun v67 =>
  pv (faO 3 v67) fun v68 =>
  ld1 v68 fun v69 =>
  pv (ixS 6 v69 x14) fun v70 =>
  pv (faO 5 v70) fun v71 =>
  ld1 v71 fun v72 =>
  pv (bin .lss v66 v72) fun v73 =>
  cnd v73 (
   F31_j19 R k1 x0 x2 x4 x12 x15 x15) (
   F31_j19 R k1 x0 x2 x4 x12 x14 x15))
theorem F31_j20_ok (R : ER) (k1 : V6) (e : Env) : den Pg R (cd Try.f31 [1,1,1,1,1,1,1,1,1,1,0,1,1,0,0,1,0,1,0,1,0,0,1,0]) e (setN (setN (inB 4 (setN (setN (setN (kont Pg R Try.f31) (fun e => F31_j7 R (e 0) (e 12))) (fun e => F31_j11 R (e 0) (e 2) (e 4) (e 12))) (fun e => F31_j15 R (e 0) (e 2) (e 4) (e 12) (e 14)))) (fun e => k1 (e 0) (e 2) (e 4) (e 12) (e 14) (e 15))) (fun e => F31_j19 R k1 (e 0) (e 2) (e 4) (e 12) (e 14) (e 15))) = (F31_j20 R k1 (e 0) (e 2) (e 4) (e 12) (e 14) (e 15)) := (den_block Pg R (cd Try.f31 [1,1,1,1,1,1,1,1,1,1,0,1,1,0,0,1,0,1,0,1,0,0,1,0]) 5 (cd Try.f31 [1,1,1,1,1,1,1,1,1,1,0,1,1,0,0,1,0,1,0,1,0,0,1,0,0]) e (setN (setN (inB 4 (setN (setN (setN (kont Pg R Try.f31) (fun e => F31_j7 R (e 0) (e 12))) (fun e => F31_j11 R (e 0) (e 2) (e 4) (e 12))) (fun e => F31_j15 R (e 0) (e 2) (e 4) (e 12) (e 14)))) (fun e => k1 (e 0) (e 2) (e 4) (e 12) (e 14) (e 15))) (fun e => F31_j19 R k1 (e 0) (e 2) (e 4) (e 12) (e 14) (e 15))) _ (by kernel_rfl) (by kernel_rfl))
def F31_j18 (R : ER) (k1 : V6) (x0 x2 x4 x12 x14 x15 : Value) : WP :=
  F31_j20 R k1 x0 x2 x4 x12 x14 x15
theorem F31_j18_ok (R : ER) (k1 : V6) (e : Env) : den Pg R (cd Try.f31 [1,1,1,1,1,1,1,1,1,1,0,1,1,0,0,1,0,1,0,1,0,0,1]) e (setN (inB 4 (setN (setN (setN (kont Pg R Try.f31) (fun e => F31_j7 R (e 0) (e 12))) (fun e => F31_j11 R (e 0) (e 2) (e 4) (e 12))) (fun e => F31_j15 R (e 0) (e 2) (e 4) (e 12) (e 14)))) (fun e => k1 (e 0) (e 2) (e 4) (e 12) (e 14) (e 15))) = (F31_j18 R k1 (e 0) (e 2) (e 4) (e 12) (e 14) (e 15)) := (den_join Pg R 0 (cd Try.f31 [1,1,1,1,1,1,1,1,1,1,0,1,1,0,0,1,0,1,0,1,0,0,1]) (cd Try.f31 [1,1,1,1,1,1,1,1,1,1,0,1,1,0,0,1,0,1,0,1,0,0,1,1]) e (setN (inB 4 (setN (setN (setN (kont Pg R Try.f31) (fun e => F31_j7 R (e 0) (e 12))) (fun e => F31_j11 R (e 0) (e 2) (e 4) (e 12))) (fun e => F31_j15 R (e 0) (e 2) (e 4) (e 12) (e 14)))) (fun e => k1 (e 0) (e 2) (e 4) (e 12) (e 14) (e 15))) (fun e => F31_j19 R k1 (e 0) (e 2) (e 4) (e 12) (e 14) (e 15)) _ (by kernel_rfl) (fun e => F31_j19_ok R k1 e) (den_conv Pg R (pre 0 (cd Try.f31 [1,1,1,1,1,1,1,1,1,1,0,1,1,0,0,1,0,1,0,1,0,0,1])) (cd Try.f31 [1,1,1,1,1,1,1,1,1,1,0,1,1,0,0,1,0,1,0,1,0,0,1,0]) e (setN (setN (inB 4 (setN (setN (setN (kont Pg R Try.f31) (fun e => F31_j7 R (e 0) (e 12))) (fun e => F31_j11 R (e 0) (e 2) (e 4) (e 12))) (fun e => F31_j15 R (e 0) (e 2) (e 4) (e 12) (e 14)))) (fun e => k1 (e 0) (e 2) (e 4) (e 12) (e 14) (e 15))) (fun e => F31_j19 R k1 (e 0) (e 2) (e 4) (e 12) (e 14) (e 15))) _ (by kernel_rfl) (F31_j20_ok R k1 e)))
def F31_b1 (R : ER) (k1 : V6) (x0 x2 x4 x12 x14 x15 : Value) : WP :=
  pv (nilO x0) fun v74 =>
  pv (faO 3 v74) fun v75 =>
  ld1 v75 fun v76 =>
  pv (lenS v76) fun v77 =>
  pv (bin .lss x15 v77) fun v78 =>
  cnd v78 (
   F31_j18 R k1 x0 x2 x4 x12 x14 x15) (
   F31_j15 R x0 x2 x4 x12 x14)
theorem F31_b1_ok (R : ER) (k1 : V6) (e : Env) : den Pg R (cd Try.f31 [1,1,1,1,1,1,1,1,1,1,0,1,1,0,0,1,0,1,0,1,0,0]) e (setN (inB 4 (setN (setN (setN (kont Pg R Try.f31) (fun e => F31_j7 R (e 0) (e 12))) (fun e => F31_j11 R (e 0) (e 2) (e 4) (e 12))) (fun e => F31_j15 R (e 0) (e 2) (e 4) (e 12) (e 14)))) (fun e => k1 (e 0) (e 2) (e 4) (e 12) (e 14) (e 15))) = (F31_b1 R k1 (e 0) (e 2) (e 4) (e 12) (e 14) (e 15)) := (den_join Pg R 0 (cd Try.f31 [1,1,1,1,1,1,1,1,1,1,0,1,1,0,0,1,0,1,0,1,0,0]) (cd Try.f31 [1,1,1,1,1,1,1,1,1,1,0,1,1,0,0,1,0,1,0,1,0,0,1]) e (setN (inB 4 (setN (setN (setN (kont Pg R Try.f31) (fun e => F31_j7 R (e 0) (e 12))) (fun e => F31_j11 R (e 0) (e 2) (e 4) (e 12))) (fun e => F31_j15 R (e 0) (e 2) (e 4) (e 12) (e 14)))) (fun e => k1 (e 0) (e 2) (e 4) (e 12) (e 14) (e 15))) (fun e => F31_j18 R k1 (e 0) (e 2) (e 4) (e 12) (e 14) (e 15)) _ (by kernel_rfl) (fun e => F31_j18_ok R k1 e) (by kernel_rfl))
noncomputable def F31_l1 (R : ER) (n : Nat) : V6 := Nat.rec (motive := fun _ => V6) (fun _ _ _ _ _ _ => fun _ => False) (fun _ ih => fun x0 x2 x4 x12 x14 x15 => F31_b1 R ih x0 x2 x4 x12 x14 x15) n
theorem F31_l1_succ (R : ER) (n : Nat) (x0 x2 x4 x12 x14 x15 : Value) : F31_l1 R (n + 1) x0 x2 x4 x12 x14 x15 = F31_b1 R (F31_l1 R n) x0 x2 x4 x12 x14 x15 := rfl
theorem F31_l1_ok (R : ER) : ∀ (n : Nat) (e : Env), iterL (den Pg R (cd Try.f31 [1,1,1,1,1,1,1,1,1,1,0,1,1,0,0,1,0,1,0,1,0,0])) n e (inB 4 (setN (setN (setN (kont Pg R Try.f31) (fun e => F31_j7 R (e 0) (e 12))) (fun e => F31_j11 R (e 0) (e 2) (e 4) (e 12))) (fun e => F31_j15 R (e 0) (e 2) (e 4) (e 12) (e 14)))) = F31_l1 R n (e 0) (e 2) (e 4) (e 12) (e 14) (e 15) :=
  iterL_join (den Pg R (cd Try.f31 [1,1,1,1,1,1,1,1,1,1,0,1,1,0,0,1,0,1,0,1,0,0])) (inB 4 (setN (setN (setN (kont Pg R Try.f31) (fun e => F31_j7 R (e 0) (e 12))) (fun e => F31_j11 R (e 0) (e 2) (e 4) (e 12))) (fun e => F31_j15 R (e 0) (e 2) (e 4) (e 12) (e 14)))) (fun n e => F31_l1 R n (e 0) (e 2) (e 4) (e 12) (e 14) (e 15)) (fun _ => rfl) (fun n e => (F31_b1_ok R (F31_l1 R n) e).trans (F31_l1_succ R n (e 0) (e 2) (e 4) (e 12) (e 14) (e 15)).symm)
def F31_j17 (R : ER) (x0 x2 x4 x12 x14 x15 : Value) : WP :=
  exN fun n => F31_l1 R n x0 x2 x4 x12 x14 x15
theorem F31_j17_ok (R : ER) (e : Env) : den Pg R (cd Try.f31 [1,1,1,1,1,1,1,1,1,1,0,1,1,0,0,1,0,1,0,1]) e (setN (setN (setN (kont Pg R Try.f31) (fun e => F31_j7 R (e 0) (e 12))) (fun e => F31_j11 R (e 0) (e 2) (e 4) (e 12))) (fun e => F31_j15 R (e 0) (e 2) (e 4) (e 12) (e 14))) = (F31_j17 R (e 0) (e 2) (e 4) (e 12) (e 14) (e 15)) := (den_block Pg R (cd Try.f31 [1,1,1,1,1,1,1,1,1,1,0,1,1,0,0,1,0,1,0,1]) 4 (cd Try.f31 [1,1,1,1,1,1,1,1,1,1,0,1,1,0,0,1,0,1,0,1,0]) e (setN (setN (setN (kont Pg R Try.f31) (fun e => F31_j7 R (e 0) (e 12))) (fun e => F31_j11 R (e 0) (e 2) (e 4) (e 12))) (fun e => F31_j15 R (e 0) (e 2) (e 4) (e 12) (e 14))) _ (by kernel_rfl) (den_loop Pg R (cd Try.f31 [1,1,1,1,1,1,1,1,1,1,0,1,1,0,0,1,0,1,0,1,0]) (cd Try.f31 [1,1,1,1,1,1,1,1,1,1,0,1,1,0,0,1,0,1,0,1,0,0]) e (inB 4 (setN (setN (setN (kont Pg R Try.f31) (fun e => F31_j7 R (e 0) (e 12))) (fun e => F31_j11 R (e 0) (e 2) (e 4) (e 12))) (fun e => F31_j15 R (e 0) (e 2) (e 4) (e 12) (e 14)))) (fun n e => F31_l1 R n (e 0) (e 2) (e 4) (e 12) (e 14) (e 15)) _ (by kernel_rfl) (F31_l1_ok R) (by kernel_rfl)))
def F31_j16 (R : ER) (x0 x2 x4 x12 x14 : Value) : WP :=
  F31_j17 R x0 x2 x4 x12 x14 (.int .i64 1)
theorem F31_j16_ok (R : ER) (e : Env) : den Pg R (cd Try.f31 [1,1,1,1,1,1,1,1,1,1,0,1,1,0,0,1,0,1,0]) e (setN (setN (setN (kont Pg R Try.f31) (fun e => F31_j7 R (e 0) (e 12))) (fun e => F31_j11 R (e 0) (e 2) (e 4) (e 12))) (fun e => F31_j15 R (e 0) (e 2) (e 4) (e 12) (e 14))) = (F31_j16 R (e 0) (e 2) (e 4) (e 12) (e 14)) := (den_join Pg R 0 (cd Try.f31 [1,1,1,1,1,1,1,1,1,1,0,1,1,0,0,1,0,1,0]) (cd Try.f31 [1,1,1,1,1,1,1,1,1,1,0,1,1,0,0,1,0,1,0,1]) e (setN (setN (setN (kont Pg R Try.f31) (fun e => F31_j7 R (e 0) (e 12))) (fun e => F31_j11 R (e 0) (e 2) (e 4) (e 12))) (fun e => F31_j15 R (e 0) (e 2) (e 4) (e 12) (e 14))) (fun e => F31_j17 R (e 0) (e 2) (e 4) (e 12) (e 14) (e 15)) _ (by kernel_rfl) (fun e => F31_j17_ok R e) (by kernel_rfl))
def F31_j14 (R : ER) (x0 x2 x4 x12 : Value) : WP :=
  F31_j16 R x0 x2 x4 x12 (.int .i64 0)
theorem F31_j14_ok (R : ER) (e : Env) : den Pg R (cd Try.f31 [1,1,1,1,1,1,1,1,1,1,0,1,1,0,0,1,0]) e (setN (setN (kont Pg R Try.f31) (fun e => F31_j7 R (e 0) (e 12))) (fun e => F31_j11 R (e 0) (e 2) (e 4) (e 12))) = (F31_j14 R (e 0) (e 2) (e 4) (e 12)) := (den_join Pg R 1 (cd Try.f31 [1,1,1,1,1,1,1,1,1,1,0,1,1,0,0,1,0]) (cd Try.f31 [1,1,1,1,1,1,1,1,1,1,0,1,1,0,0,1,0,1,1]) e (setN (setN (kont Pg R Try.f31) (fun e => F31_j7 R (e 0) (e 12))) (fun e => F31_j11 R (e 0) (e 2) (e 4) (e 12))) (fun e => F31_j15 R (e 0) (e 2) (e 4) (e 12) (e 14)) _ (by kernel_rfl) (fun e => F31_j15_ok R e) (den_join Pg R 0 (pre 1 (cd Try.f31 [1,1,1,1,1,1,1,1,1,1,0,1,1,0,0,1,0])) (cd Try.f31 [1,1,1,1,1,1,1,1,1,1,0,1,1,0,0,1,0,1,0]) e (setN (setN (setN (kont Pg R Try.f31) (fun e => F31_j7 R (e 0) (e 12))) (fun e => F31_j11 R (e 0) (e 2) (e 4) (e 12))) (fun e => F31_j15 R (e 0) (e 2) (e 4) (e 12) (e 14))) (fun e => F31_j16 R (e 0) (e 2) (e 4) (e 12) (e 14)) _ (by kernel_rfl) (fun e => F31_j16_ok R e) (by kernel_rfl)))
def F31_j13 (R : ER) (x0 x2 x4 x12 x138 : Value) : WP :=
  cnd x138 (F31_j14 R x0 x2 x4 x12) (F31_j11 R x0 x2 x4 x12)
theorem F31_j13_ok (R : ER) (e : Env) : den Pg R (cd Try.f31 [1,1,1,1,1,1,1,1,1,1,0,1,1,0,0,1]) e (setN (setN (kont Pg R Try.f31) (fun e => F31_j7 R (e 0) (e 12))) (fun e => F31_j11 R (e 0) (e 2) (e 4) (e 12))) = (F31_j13 R (e 0) (e 2) (e 4) (e 12) (e 138)) := (den_if Pg R (cd Try.f31 [1,1,1,1,1,1,1,1,1,1,0,1,1,0,0,1]) (cd Try.f31 [1,1,1,1,1,1,1,1,1,1,0,1,1,0,0,1,0]) (cd Try.f31 [1,1,1,1,1,1,1,1,1,1,0,1,1,0,0,1,1]) e (setN (setN (kont Pg R Try.f31) (fun e => F31_j7 R (e 0) (e 12))) (fun e => F31_j11 R (e 0) (e 2) (e 4) (e 12))) (F31_j14 R (e 0) (e 2) (e 4) (e 12)) _ _ (by kernel_rfl) (F31_j14_ok R e) rfl (by kernel_rfl))
def F31_j12 (R : ER) (x0 x2 x4 x12 : Value) : WP :=
  drewV (
  pv (nilO x0) fun v79 =>
  pv (faO 3 v79) fun v80 =>
  ld1 v80 fun v81 =>
  pv (lenS v81) fun v82 =>
  pv (nilO x0) fun v83 =>
  pv (faO 1 v83) fun v84 =>
  ld1 v84 fun v85 =>
  pv (bin .eql v82 v85) fun v86 =>
  F31_j13 R x0 x2 x4 x12 v86)
theorem F31_j12_ok (R : ER) (e : Env) : den Pg R (cd Try.f31 [1,1,1,1,1,1,1,1,1,1,0,1,1,0,0]) e (setN (setN (kont Pg R Try.f31) (fun e => F31_j7 R (e 0) (e 12))) (fun e => F31_j11 R (e 0) (e 2) (e 4) (e 12))) = (F31_j12 R (e 0) (e 2) (e 4) (e 12)) := (den_join Pg R 0 (cd Try.f31 [1,1,1,1,1,1,1,1,1,1,0,1,1,0,0]) (cd Try.f31 [1,1,1,1,1,1,1,1,1,1,0,1,1,0,0,1]) e (setN (setN (kont Pg R Try.f31) (fun e => F31_j7 R (e 0) (e 12))) (fun e => F31_j11 R (e 0) (e 2) (e 4) (e 12))) (fun e => F31_j13 R (e 0) (e 2) (e 4) (e 12) (e 138)) _ (by kernel_rfl) (fun e => F31_j13_ok R e) (by kernel_rfl))
def F31_j10 (R : ER) (x0 x2 x4 x12 : Value) : WP :=
  F31_j12 R x0 x2 x4 x12
theorem F31_j10_ok (R : ER) (e : Env) : den Pg R (cd Try.f31 [1,1,1,1,1,1,1,1,1,1,0,1,1,0]) e (setN (kont Pg R Try.f31) (fun e => F31_j7 R (e 0) (e 12))) = (F31_j10 R (e 0) (e 2) (e 4) (e 12)) := (den_join Pg R 0 (cd Try.f31 [1,1,1,1,1,1,1,1,1,1,0,1,1,0]) (cd Try.f31 [1,1,1,1,1,1,1,1,1,1,0,1,1,0,1]) e (setN (kont Pg R Try.f31) (fun e => F31_j7 R (e 0) (e 12))) (fun e => F31_j11 R (e 0) (e 2) (e 4) (e 12)) _ (by kernel_rfl) (fun e => F31_j11_ok R e) (den_conv Pg R (pre 0 (cd Try.f31 [1,1,1,1,1,1,1,1,1,1,0,1,1,0])) (cd Try.f31 [1,1,1,1,1,1,1,1,1,1,0,1,1,0,0]) e (setN (setN (kont Pg R Try.f31) (fun e => F31_j7 R (e 0) (e 12))) (fun e => F31_j11 R (e 0) (e 2) (e 4) (e 12))) _ (by kernel_rfl) (F31_j12_ok R e)))
def F31_j9 (R : ER) (x0 x2 x4 x12 x128 : Value) : WP :=
  cnd x128 (F31_j10 R x0 x2 x4 x12) (F31_j7 R x0 x12)
theorem F31_j9_ok (R : ER) (e : Env) : den Pg R (cd Try.f31 [1,1,1,1,1,1,1,1,1,1,0,1,1]) e (setN (kont Pg R Try.f31) (fun e => F31_j7 R (e 0) (e 12))) = (F31_j9 R (e 0) (e 2) (e 4) (e 12) (e 128)) := (den_if Pg R (cd Try.f31 [1,1,1,1,1,1,1,1,1,1,0,1,1]) (cd Try.f31 [1,1,1,1,1,1,1,1,1,1,0,1,1,0]) (cd Try.f31 [1,1,1,1,1,1,1,1,1,1,0,1,1,1]) e (setN (kont Pg R Try.f31) (fun e => F31_j7 R (e 0) (e 12))) (F31_j10 R (e 0) (e 2) (e 4) (e 12)) _ _ (by kernel_rfl) (F31_j10_ok R e) rfl (by kernel_rfl))
def F31_j8 (R : ER) (x0 x2 x4 x12 : Value) : WP :=
  pv (nilO x0) fun v87 =>
  pv (faO 0 v87) fun v88 =>
  ld1 v88 fun v89 =>
  pv (ixS 16 v89 x12) fun v90 =>
  ldN 16 v90 fun v91 =>
  al Pg 38 fun v92 =>
  stN 16 v92 v91 fun _ =>
  pv (faO 2 v92) fun v93 =>
  ld1 v93 fun v94 =>
  gd v94 true (pv (faO 7 x4)) fun v95 =>
  gd v94 true (ld1 v95) fun v96 =>
  pv (pickO v94 v96 (.bool false)) fun v97 =>
  F31_j9 R x0 x2 x4 x12 v97
theorem F31_j8_ok (R : ER) (e : Env) : den Pg R (cd Try.f31 [1,1,1,1,1,1,1,1,1,1,0]) e (setN (kont Pg R Try.f31) (fun e => F31_j7 R (e 0) (e 12))) = (F31_j8 R (e 0) (e 2) (e 4) (e 12)) := (den_join Pg R 1 (cd Try.f31 [1,1,1,1,1,1,1,1,1,1,0]) (cd Try.f31 [1,1,1,1,1,1,1,1,1,1,0,1,1]) e (setN (kont Pg R Try.f31) (fun e => F31_j7 R (e 0) (e 12))) (fun e => F31_j9 R (e 0) (e 2) (e 4) (e 12) (e 128)) _ (by kernel_rfl) (fun e => F31_j9_ok R e) (by kernel_rfl))
def F31_j6 (R : ER) (x0 x2 x4 x12 : Value) : WP :=
  pv (nilO x0) fun v98 =>
  pv (faO 4 v98) fun v99 =>
  ld1 v99 fun v100 =>
  pv (ixS 1 v100 x12) fun v101 =>
  ld1 v101 fun v102 =>
  pv (bin .add v102 (.int .i64 1)) fun v103 =>
  pv (ixS 1 v100 x12) fun v104 =>
  st1 v104 v103 fun _ =>
  F31_j8 R x0 x2 x4 x12
theorem F31_j6_ok (R : ER) (e : Env) : den Pg R (cd Try.f31 [1,1,1,1,1,1,1,1,1]) e (kont Pg R Try.f31) = (F31_j6 R (e 0) (e 2) (e 4) (e 12)) := (den_join Pg R 1 (cd Try.f31 [1,1,1,1,1,1,1,1,1]) (cd Try.f31 [1,1,1,1,1,1,1,1,1,1,1]) e (kont Pg R Try.f31) (fun e => F31_j7 R (e 0) (e 12)) _ (by kernel_rfl) (fun e => F31_j7_ok R e) (den_join Pg R 0 (pre 1 (cd Try.f31 [1,1,1,1,1,1,1,1,1])) (cd Try.f31 [1,1,1,1,1,1,1,1,1,1,0]) e (setN (kont Pg R Try.f31) (fun e => F31_j7 R (e 0) (e 12))) (fun e => F31_j8 R (e 0) (e 2) (e 4) (e 12)) _ (by kernel_rfl) (fun e => F31_j8_ok R e) (by kernel_rfl)))
def F31_j5 (R : ER) (x0 x2 x4 : Value) : WP :=
  drewV (
  pv (nilO x0) fun v105 =>
  pv (faO 0 v105) fun v106 =>
  ld1 v106 fun v107 =>
  ldN 8 x4 fun v108 =>
  mem fun w110 => cal Pg noR 59 ⟨[v107, v108]⟩ fun v109 =>
  pv (bin .lss v109 (.int .i64 0)) fun v111 =>
  cnd v111 (
   R (.returned (.tuple ⟨[(.int .i64 1), (.int .i64 (-2)), (.int .i64 0)]⟩))) (
   F31_j6 R x0 x2 x4 v109))
theorem F31_j5_ok (R : ER) (e : Env) : den Pg R (cd Try.f31 [1,1,1,1,1,1,1]) e (kont Pg R Try.f31) = (F31_j5 R (e 0) (e 2) (e 4)) := (den_join Pg R 1 (cd Try.f31 [1,1,1,1,1,1,1]) (cd Try.f31 [1,1,1,1,1,1,1,1,1]) e (kont Pg R Try.f31) (fun e => F31_j6 R (e 0) (e 2) (e 4) (e 12)) _ (by kernel_rfl) (fun e => F31_j6_ok R e) (by kernel_rfl))
def F31_j23 (R : ER) (k1 : V4) (x0 x2 x4 x11 : Value) : WP :=
  drewV (
  ldN 8 x4 fun v112 =>
  pv (nilO x0) fun v113 =>
  pv (faO 3 v113) fun v114 =>
  ld1 v114 fun v115 =>
  pv (ixS 6 v115 x11) fun v116 =>
  ldN 6 v116 fun v117 =>
  mem fun w119 => cal Pg noR 61 ⟨[v112, v117]⟩ fun v118 =>
  cnd v118 (
   valV Pg R (Instr.buildSlice 93 0 ⟨[]⟩) fun v120 =>
   pv (nilO x0) fun v121 =>
   pv (faO 3 v121) fun v122 =>
   ld1 v122 fun v123 =>
   blt Pg R .append ⟨[93,93]⟩ 93 ⟨[false, false]⟩ ⟨[v120, v123]⟩ fun v124 =>
   pv (nilO x0) fun v125 =>
   pv (faO 3 v125) fun v126 =>
   st1 v126 v124 fun _ =>
   drewV (
   pv (nilO x0) fun v127 =>
   pv (faO 3 v127) fun v128 =>
   ld1 v128 fun v129 =>
   pv (nilO x0) fun v130 =>
   pv (faO 2 v130) fun v131 =>
   ld1 v131 fun v132 =>
   pv (bin .add x2 v132) fun v133 =>
   pv (ixS 6 v129 x11) fun v134 =>
   pv (faO 5 v134) fun v135 =>
   mem fun w137 => st1 v135 v133 fun v136 =>
   R (.returned (.tuple ⟨[(.int .i64 1), (.int .i64 (-1)), (.int .i64 0)]⟩)))) (
   pv (bin .add x11 (.int .i64 1)) fun v138 =>
  k1 x0 x2 x4 v138))
theorem F31_j23_ok (R : ER) (k1 : V4) (e : Env) : den Pg R (cd Try.f31 [1,1,1,1,1,1,0,1,0,0,1]) e (setN (inB 2 (setN (kont Pg R Try.f31) (fun e => F31_j5 R (e 0) (e 2) (e 4)))) (fun e => k1 (e 0) (e 2) (e 4) (e 11))) = (F31_j23 R k1 (e 0) (e 2) (e 4) (e 11)) := (by kernel_rfl)
def F31_b2 (R : ER) (k1 : V4) (x0 x2 x4 x11 : Value) : WP :=
  pv (nilO x0) fun v139 =>
  pv (faO 3 v139) fun v140 =>
  ld1 v140 fun v141 =>
  pv (lenS v141) fun v142 =>
  pv (bin .lss x11 v142) fun v143 =>
  cnd v143 (
   F31_j23 R k1 x0 x2 x4 x11) (
   F31_j5 R x0 x2 x4)
theorem F31_b2_ok (R : ER) (k1 : V4) (e : Env) : den Pg R (cd Try.f31 [1,1,1,1,1,1,0,1,0,0]) e (setN (inB 2 (setN (kont Pg R Try.f31) (fun e => F31_j5 R (e 0) (e 2) (e 4)))) (fun e => k1 (e 0) (e 2) (e 4) (e 11))) = (F31_b2 R k1 (e 0) (e 2) (e 4) (e 11)) := (den_join Pg R 0 (cd Try.f31 [1,1,1,1,1,1,0,1,0,0]) (cd Try.f31 [1,1,1,1,1,1,0,1,0,0,1]) e (setN (inB 2 (setN (kont Pg R Try.f31) (fun e => F31_j5 R (e 0) (e 2) (e 4)))) (fun e => k1 (e 0) (e 2) (e 4) (e 11))) (fun e => F31_j23 R k1 (e 0) (e 2) (e 4) (e 11)) _ (by kernel_rfl) (fun e => F31_j23_ok R k1 e) (by kernel_rfl))
noncomputable def F31_l2 (R : ER) (n : Nat) : V4 := Nat.rec (motive := fun _ => V4) (fun _ _ _ _ => fun _ => False) (fun _ ih => fun x0 x2 x4 x11 => F31_b2 R ih x0 x2 x4 x11) n
theorem F31_l2_succ (R : ER) (n : Nat) (x0 x2 x4 x11 : Value) : F31_l2 R (n + 1) x0 x2 x4 x11 = F31_b2 R (F31_l2 R n) x0 x2 x4 x11 := rfl
theorem F31_l2_ok (R : ER) : ∀ (n : Nat) (e : Env), iterL (den Pg R (cd Try.f31 [1,1,1,1,1,1,0,1,0,0])) n e (inB 2 (setN (kont Pg R Try.f31) (fun e => F31_j5 R (e 0) (e 2) (e 4)))) = F31_l2 R n (e 0) (e 2) (e 4) (e 11) :=
  iterL_join (den Pg R (cd Try.f31 [1,1,1,1,1,1,0,1,0,0])) (inB 2 (setN (kont Pg R Try.f31) (fun e => F31_j5 R (e 0) (e 2) (e 4)))) (fun n e => F31_l2 R n (e 0) (e 2) (e 4) (e 11)) (fun _ => rfl) (fun n e => (F31_b2_ok R (F31_l2 R n) e).trans (F31_l2_succ R n (e 0) (e 2) (e 4) (e 11)).symm)
def F31_j22 (R : ER) (x0 x2 x4 x11 : Value) : WP :=
  exN fun n => F31_l2 R n x0 x2 x4 x11
theorem F31_j22_ok (R : ER) (e : Env) : den Pg R (cd Try.f31 [1,1,1,1,1,1,0,1]) e (setN (kont Pg R Try.f31) (fun e => F31_j5 R (e 0) (e 2) (e 4))) = (F31_j22 R (e 0) (e 2) (e 4) (e 11)) := (den_block Pg R (cd Try.f31 [1,1,1,1,1,1,0,1]) 2 (cd Try.f31 [1,1,1,1,1,1,0,1,0]) e (setN (kont Pg R Try.f31) (fun e => F31_j5 R (e 0) (e 2) (e 4))) _ (by kernel_rfl) (den_loop Pg R (cd Try.f31 [1,1,1,1,1,1,0,1,0]) (cd Try.f31 [1,1,1,1,1,1,0,1,0,0]) e (inB 2 (setN (kont Pg R Try.f31) (fun e => F31_j5 R (e 0) (e 2) (e 4)))) (fun n e => F31_l2 R n (e 0) (e 2) (e 4) (e 11)) _ (by kernel_rfl) (F31_l2_ok R) (by kernel_rfl)))
def F31_j21 (R : ER) (x0 x2 x4 : Value) : WP :=
  F31_j22 R x0 x2 x4 (.int .i64 0)
theorem F31_j21_ok (R : ER) (e : Env) : den Pg R (cd Try.f31 [1,1,1,1,1,1,0]) e (setN (kont Pg R Try.f31) (fun e => F31_j5 R (e 0) (e 2) (e 4))) = (F31_j21 R (e 0) (e 2) (e 4)) := (den_join Pg R 0 (cd Try.f31 [1,1,1,1,1,1,0]) (cd Try.f31 [1,1,1,1,1,1,0,1]) e (setN (kont Pg R Try.f31) (fun e => F31_j5 R (e 0) (e 2) (e 4))) (fun e => F31_j22 R (e 0) (e 2) (e 4) (e 11)) _ (by kernel_rfl) (fun e => F31_j22_ok R e) (by kernel_rfl))
def F31_j4 (R : ER) (x0 x2 x4 : Value) : WP :=
  F31_j21 R x0 x2 x4
theorem F31_j4_ok (R : ER) (e : Env) : den Pg R (cd Try.f31 [1,1,1,1,1,1]) e (kont Pg R Try.f31) = (F31_j4 R (e 0) (e 2) (e 4)) := (den_join Pg R 0 (cd Try.f31 [1,1,1,1,1,1]) (cd Try.f31 [1,1,1,1,1,1,1]) e (kont Pg R Try.f31) (fun e => F31_j5 R (e 0) (e 2) (e 4)) _ (by kernel_rfl) (fun e => F31_j5_ok R e) (den_conv Pg R (pre 0 (cd Try.f31 [1,1,1,1,1,1])) (cd Try.f31 [1,1,1,1,1,1,0]) e (setN (kont Pg R Try.f31) (fun e => F31_j5 R (e 0) (e 2) (e 4))) _ (by kernel_rfl) (F31_j21_ok R e)))
def F31_j26 (R : ER) (k1 : V4) (x0 x2 x4 x10 : Value) : WP :=
  pv (nilO x0) fun v144 =>
  pv (faO 3 v144) fun v145 =>
  ld1 v145 fun v146 =>
  pv (ixS 6 v146 x10) fun v147 =>
  pv (faO 5 v147) fun v148 =>
  ld1 v148 fun v149 =>
  pv (bin .leq v149 x2) fun v150 =>
  cnd v150 (
   cal Pg R 60 ⟨[x0, x10]⟩ fun v151 =>
   k1 x0 x2 x4 x10) (
   pv (bin .add x10 (.int .i64 1)) fun v152 =>
   k1 x0 x2 x4 v152)
theorem F31_j26_ok (R : ER) (k1 : V4) (e : Env) : den Pg R (cd Try.f31 [1,1,1,1,1,0,1,0,0,1]) e (setN (inB 0 (setN (kont Pg R Try.f31) (fun e => F31_j4 R (e 0) (e 2) (e 4)))) (fun e => k1 (e 0) (e 2) (e 4) (e 10))) = (F31_j26 R k1 (e 0) (e 2) (e 4) (e 10)) := (den_block Pg R (cd Try.f31 [1,1,1,1,1,0,1,0,0,1]) 1 (cd Try.f31 [1,1,1,1,1,0,1,0,0,1,0]) e (setN (inB 0 (setN (kont Pg R Try.f31) (fun e => F31_j4 R (e 0) (e 2) (e 4)))) (fun e => k1 (e 0) (e 2) (e 4) (e 10))) _ (by kernel_rfl) (by kernel_rfl))
def F31_b3 (R : ER) (k1 : V4) (x0 x2 x4 x10 : Value) : WP :=
  pv (nilO x0) fun v153 =>
  pv (faO 3 v153) fun v154 =>
  ld1 v154 fun v155 =>
  pv (lenS v155) fun v156 =>
  pv (bin .lss x10 v156) fun v157 =>
  cnd v157 (
   F31_j26 R k1 x0 x2 x4 x10) (
   F31_j4 R x0 x2 x4)
theorem F31_b3_ok (R : ER) (k1 : V4) (e : Env) : den Pg R (cd Try.f31 [1,1,1,1,1,0,1,0,0]) e (setN (inB 0 (setN (kont Pg R Try.f31) (fun e => F31_j4 R (e 0) (e 2) (e 4)))) (fun e => k1 (e 0) (e 2) (e 4) (e 10))) = (F31_b3 R k1 (e 0) (e 2) (e 4) (e 10)) := (den_join Pg R 0 (cd Try.f31 [1,1,1,1,1,0,1,0,0]) (cd Try.f31 [1,1,1,1,1,0,1,0,0,1]) e (setN (inB 0 (setN (kont Pg R Try.f31) (fun e => F31_j4 R (e 0) (e 2) (e 4)))) (fun e => k1 (e 0) (e 2) (e 4) (e 10))) (fun e => F31_j26 R k1 (e 0) (e 2) (e 4) (e 10)) _ (by kernel_rfl) (fun e => F31_j26_ok R k1 e) (by kernel_rfl))
noncomputable def F31_l3 (R : ER) (n : Nat) : V4 := Nat.rec (motive := fun _ => V4) (fun _ _ _ _ => fun _ => False) (fun _ ih => fun x0 x2 x4 x10 => F31_b3 R ih x0 x2 x4 x10) n
theorem F31_l3_succ (R : ER) (n : Nat) (x0 x2 x4 x10 : Value) : F31_l3 R (n + 1) x0 x2 x4 x10 = F31_b3 R (F31_l3 R n) x0 x2 x4 x10 := rfl
theorem F31_l3_ok (R : ER) : ∀ (n : Nat) (e : Env), iterL (den Pg R (cd Try.f31 [1,1,1,1,1,0,1,0,0])) n e (inB 0 (setN (kont Pg R Try.f31) (fun e => F31_j4 R (e 0) (e 2) (e 4)))) = F31_l3 R n (e 0) (e 2) (e 4) (e 10) :=
  iterL_join (den Pg R (cd Try.f31 [1,1,1,1,1,0,1,0,0])) (inB 0 (setN (kont Pg R Try.f31) (fun e => F31_j4 R (e 0) (e 2) (e 4)))) (fun n e => F31_l3 R n (e 0) (e 2) (e 4) (e 10)) (fun _ => rfl) (fun n e => (F31_b3_ok R (F31_l3 R n) e).trans (F31_l3_succ R n (e 0) (e 2) (e 4) (e 10)).symm)
def F31_j25 (R : ER) (x0 x2 x4 x10 : Value) : WP :=
  exN fun n => F31_l3 R n x0 x2 x4 x10
theorem F31_j25_ok (R : ER) (e : Env) : den Pg R (cd Try.f31 [1,1,1,1,1,0,1]) e (setN (kont Pg R Try.f31) (fun e => F31_j4 R (e 0) (e 2) (e 4))) = (F31_j25 R (e 0) (e 2) (e 4) (e 10)) := (den_block Pg R (cd Try.f31 [1,1,1,1,1,0,1]) 0 (cd Try.f31 [1,1,1,1,1,0,1,0]) e (setN (kont Pg R Try.f31) (fun e => F31_j4 R (e 0) (e 2) (e 4))) _ (by kernel_rfl) (den_loop Pg R (cd Try.f31 [1,1,1,1,1,0,1,0]) (cd Try.f31 [1,1,1,1,1,0,1,0,0]) e (inB 0 (setN (kont Pg R Try.f31) (fun e => F31_j4 R (e 0) (e 2) (e 4)))) (fun n e => F31_l3 R n (e 0) (e 2) (e 4) (e 10)) _ (by kernel_rfl) (F31_l3_ok R) (by kernel_rfl)))
def F31_j24 (R : ER) (x0 x2 x4 : Value) : WP :=
  F31_j25 R x0 x2 x4 (.int .i64 0)
theorem F31_j24_ok (R : ER) (e : Env) : den Pg R (cd Try.f31 [1,1,1,1,1,0]) e (setN (kont Pg R Try.f31) (fun e => F31_j4 R (e 0) (e 2) (e 4))) = (F31_j24 R (e 0) (e 2) (e 4)) := (den_join Pg R 0 (cd Try.f31 [1,1,1,1,1,0]) (cd Try.f31 [1,1,1,1,1,0,1]) e (setN (kont Pg R Try.f31) (fun e => F31_j4 R (e 0) (e 2) (e 4))) (fun e => F31_j25 R (e 0) (e 2) (e 4) (e 10)) _ (by kernel_rfl) (fun e => F31_j25_ok R e) (by kernel_rfl))
def F31_j3 (R : ER) (x0 x2 x4 : Value) : WP :=
  pv (nilO x0) fun v158 =>
  pv (faO 5 v158) fun v159 =>
  st1 v159 x2 fun _ =>
  F31_j24 R x0 x2 x4
theorem F31_j3_ok (R : ER) (e : Env) : den Pg R (cd Try.f31 [1,1,1,1]) e (kont Pg R Try.f31) = (F31_j3 R (e 0) (e 2) (e 4)) := (den_join Pg R 1 (cd Try.f31 [1,1,1,1]) (cd Try.f31 [1,1,1,1,1,1]) e (kont Pg R Try.f31) (fun e => F31_j4 R (e 0) (e 2) (e 4)) _ (by kernel_rfl) (fun e => F31_j4_ok R e) (den_join Pg R 0 (pre 1 (cd Try.f31 [1,1,1,1])) (cd Try.f31 [1,1,1,1,1,0]) e (setN (kont Pg R Try.f31) (fun e => F31_j4 R (e 0) (e 2) (e 4))) (fun e => F31_j24 R (e 0) (e 2) (e 4)) _ (by kernel_rfl) (fun e => F31_j24_ok R e) (by kernel_rfl)))
def F31_j2 (R : ER) (x0 x2 x4 : Value) : WP :=
  pv (nilO x0) fun v160 =>
  pv (faO 5 v160) fun v161 =>
  ld1 v161 fun v162 =>
  pv (bin .lss x2 v162) fun v163 =>
  cnd v163 (
   R (.returned (.tuple ⟨[(.int .i64 0), (.int .i64 0), (.int .i64 30)]⟩))) (
   F31_j3 R x0 x2 x4)
theorem F31_j2_ok (R : ER) (e : Env) : den Pg R (cd Try.f31 [1,1,1]) e (kont Pg R Try.f31) = (F31_j2 R (e 0) (e 2) (e 4)) := (den_join Pg R 0 (cd Try.f31 [1,1,1]) (cd Try.f31 [1,1,1,1]) e (kont Pg R Try.f31) (fun e => F31_j3 R (e 0) (e 2) (e 4)) _ (by kernel_rfl) (fun e => F31_j3_ok R e) (by kernel_rfl))
def F31_j1 (R : ER) (x0 x2 x4 : Value) : WP :=
  pv (bin .lss x2 (.int .i64 0)) fun v164 =>
  gd v164 false (pv (some x2)) fun v165 =>
  gd v164 false (pv (bin .gtr v165 (.int .i64 1099511627776))) fun v166 =>
  pv (pickO v164 (.bool true) v166) fun v167 =>
  cnd v167 (
   R (.returned (.tuple ⟨[(.int .i64 0), (.int .i64 0), (.int .i64 34)]⟩))) (
   F31_j2 R x0 x2 x4)
theorem F31_j1_ok (R : ER) (e : Env) : den Pg R (cd Try.f31 [1,1]) e (kont Pg R Try.f31) = (F31_j1 R (e 0) (e 2) (e 4)) := (den_join Pg R 0 (cd Try.f31 [1,1]) (cd Try.f31 [1,1,1]) e (kont Pg R Try.f31) (fun e => F31_j2 R (e 0) (e 2) (e 4)) _ (by kernel_rfl) (fun e => F31_j2_ok R e) (by kernel_rfl))
def F31 (R : ER) (x0 x1 x2 : Value) : WP :=
  bx 67 x1 fun v168 =>
  ldN 8 v168 fun v169 =>
  cal Pg R 58 ⟨[v169]⟩ fun v170 =>
  pv (bin .neq v170 (.int .i64 0)) fun v171 =>
  cnd v171 (
   R (.returned (.tuple ⟨[(.int .i64 0), (.int .i64 0), v170]⟩))) (
   F31_j1 R x0 x2 v168)
theorem F31_den (R : ER) (x0 x1 x2 : Value) : den Pg R (cd Try.f31 []) (argsEnv [x0, x1, x2]) (kont Pg R Try.f31) = F31 R x0 x1 x2 :=
  have h : ∀ e, den Pg R (cd Try.f31 []) e (kont Pg R Try.f31) = F31 R (e 0) (e 1) (e 2) := fun e => (den_join Pg R 1 (cd Try.f31 []) (cd Try.f31 [1,1]) e (kont Pg R Try.f31) (fun e => F31_j1 R (e 0) (e 2) (e 4)) _ (by kernel_rfl) (fun e => F31_j1_ok R e) (by kernel_rfl))
  h _
theorem F31_calls {R : ER} {x0 x1 x2 : Value} {w : World} (h : F31 R x0 x1 x2 w) : Calls Pg 31 ⟨[x0, x1, x2]⟩ w R :=
  calls_of_den Try.func31 (by kernel_rfl) (by kernel_rfl) (F31_den R x0 x1 x2) h
end Go.Proofs.Ytmmbepdghpjgeaa.Den
end
