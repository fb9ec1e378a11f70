/- Printed by a program of this session: what the functions mean, and that the model means just that. Conditions: none. -/
import Derived.Test.YtmnpndgmfmjfhaaQ3
section
set_option linter.unusedVariables false
set_option maxRecDepth 100000
namespace Go.Proofs.Ytmnpndgmfmjfhaa.Den
open Go
/-! ### 6: F6 -/
def F6 (R : ER) (x0 : Value) : WP :=
  bx 65 x0 fun v1 =>
  pv (faO 3 v1) fun v2 =>
  ld1 v2 fun v3 =>
  pv (faO 4 v1) fun v4 =>
  ld1 v4 fun v5 =>
  cal Pg R 12 ⟨[(.pointer none), v3, v5]⟩ fun v6 =>
  pv (extO 0 v6) fun v7 =>
  pv (extO 1 v6) fun v8 =>
  pv (faO 1 v1) fun v9 =>
  ld1 v9 fun v10 =>
  pv (faO 3 v1) fun v11 =>
  ld1 v11 fun v12 =>
  pv (faO 4 v1) fun v13 =>
  ld1 v13 fun v14 =>
  cal Pg R 23 ⟨[(.pointer none), v10, v12, v14]⟩ fun v15 =>
  pv (extO 0 v15) fun v16 =>
  pv (extO 1 v15) fun v17 =>
  pv (faO 4 v1) fun v18 =>
  ld1 v18 fun v19 =>
  cal Pg R 14 ⟨[(.pointer none), v19]⟩ fun v20 =>
  pv (extO 0 v20) fun v21 =>
  pv (extO 1 v20) fun v22 =>
  cal Pg R 13 ⟨[(.pointer none)]⟩ fun v23 =>
  pv (extO 0 v23) fun v24 =>
  pv (extO 1 v23) fun v25 =>
  pv (bin .eql v8 (.int .i64 35)) fun v26 =>
  gd v26 true (pv (some v17)) fun v27 =>
  gd v26 true (pv (some v8)) fun v28 =>
  gd v26 true (pv (bin .eql v27 v28)) fun v29 =>
  pv (pickO v26 v29 (.bool false)) fun v30 =>
  gd v30 true (pv (some v22)) fun v31 =>
  gd v30 true (pv (some v8)) fun v32 =>
  gd v30 true (pv (bin .eql v31 v32)) fun v33 =>
  pv (pickO v30 v33 (.bool false)) fun v34 =>
  gd v34 true (pv (some (.pointer none))) fun v35 =>
  gd v34 true (pv (faO 1 v1)) fun v36 =>
  gd v34 true (ld1 v36) fun v37 =>
  gd v34 true (pv (faO 2 v1)) fun v38 =>
  gd v34 true (ld1 v38) fun v39 =>
  gd v34 true (cal Pg R 24 ⟨[v35, v37, v39]⟩) fun v40 =>
  gd v34 true (pv (some v8)) fun v41 =>
  gd v34 true (pv (bin .eql v40 v41)) fun v42 =>
  pv (pickO v34 v42 (.bool false)) fun v43 =>
  gd v43 true (pv (some v25)) fun v44 =>
  gd v43 true (pv (unO .not v44)) fun v45 =>
  pv (pickO v43 v45 (.bool false)) fun v46 =>
  gd v46 true (pv (some (.pointer none))) fun v47 =>
  gd v46 true (cal Pg R 25 ⟨[v47]⟩) fun v48 =>
  gd v46 true (pv (bin .eql v48 (.int .i64 0))) fun v49 =>
  pv (pickO v46 v49 (.bool false)) fun v50 =>
  gd v50 true (pv (some (.pointer none))) fun v51 =>
  gd v50 true (cal Pg R 15 ⟨[v51]⟩) fun v52 =>
  gd v50 true (pv (unO .not v52)) fun v53 =>
  pv (pickO v50 v53 (.bool false)) fun v54 =>
  gd v54 true (cal Pg R 11 ⟨[]⟩) fun v55 =>
  pv (pickO v54 v55 (.bool false)) fun v56 =>
  R (.returned v56)
theorem orpimentlaw35_LinksNil_den (R : ER) (x0 : Value) : den Pg R (cd Try.f6 []) (argsEnv [x0]) (kont Pg R Try.f6) = F6 R x0 :=
  have h : ∀ e, den Pg R (cd Try.f6 []) e (kont Pg R Try.f6) = F6 R (e 0) := fun e => by kernel_rfl
  h _
theorem F6_calls {R : ER} {x0 : Value} {w : World} (h : F6 R x0 w) : Calls Pg 6 ⟨[x0]⟩ w R :=
  calls_of_den Try.func6 (by kernel_rfl) (by kernel_rfl) (orpimentlaw35_LinksNil_den R x0) h
/-! ### 8: F8 -/
def F8_j4 (R : ER) : WP :=
  cal Pg R 11 ⟨[]⟩ fun v1 =>
  R (.returned v1)
theorem F8_j4_ok (R : ER) (e : Env) : den Pg R (cd Try.f8 [1,1,1,1,1,1,1]) e (kont Pg R Try.f8) = (F8_j4 R) := by kernel_rfl
def F8_j7 (R : ER) (k1 : V5) (x5 x7 x51 x52 x53 : Value) : WP :=
  pv (ixS 5 x51 x53) fun v2 =>
  ldN 5 v2 fun v3 =>
  al Pg 65 fun v4 =>
  stN 5 v4 v3 fun _ =>
  ldN 5 v4 fun v5 =>
  cal Pg R 31 ⟨[x5, x7, v5]⟩ fun v6 =>
  pv (unO .not v6) fun v7 =>
  gd v7 false (pv (some x5)) fun v8 =>
  gd v7 false (pv (some x7)) fun v9 =>
  gd v7 false (cal Pg R 32 ⟨[v8, v9]⟩) fun v10 =>
  gd v7 false (pv (unO .not v10)) fun v11 =>
  pv (pickO v7 (.bool true) v11) fun v12 =>
  cnd v12 (
   R (.returned (.bool false))) (
   pv (bin .add x53 (.int .i64 1)) fun v13 =>
  k1 x5 x7 x51 x52 v13)
theorem F8_j7_ok (R : ER) (k1 : V5) (e : Env) : den Pg R (cd Try.f8 [1,1,1,1,1,1,0,1,0,0,1,1]) e (setN (inB 0 (setN (kont Pg R Try.f8) (fun e => F8_j4 R))) (fun e => k1 (e 5) (e 7) (e 51) (e 52) (e 53))) = (F8_j7 R k1 (e 5) (e 7) (e 51) (e 52) (e 53)) := (by kernel_rfl)
def F8_b1 (R : ER) (k1 : V5) (x5 x7 x51 x52 x53 : Value) : WP :=
  pv (bin .lss x53 x52) fun v14 =>
  cnd v14 (
   F8_j7 R k1 x5 x7 x51 x52 x53) (
   F8_j4 R)
theorem F8_b1_ok (R : ER) (k1 : V5) (e : Env) : den Pg R (cd Try.f8 [1,1,1,1,1,1,0,1,0,0]) e (setN (inB 0 (setN (kont Pg R Try.f8) (fun e => F8_j4 R))) (fun e => k1 (e 5) (e 7) (e 51) (e 52) (e 53))) = (F8_b1 R k1 (e 5) (e 7) (e 51) (e 52) (e 53)) := (den_join Pg R 1 (cd Try.f8 [1,1,1,1,1,1,0,1,0,0]) (cd Try.f8 [1,1,1,1,1,1,0,1,0,0,1,1]) e (setN (inB 0 (setN (kont Pg R Try.f8) (fun e => F8_j4 R))) (fun e => k1 (e 5) (e 7) (e 51) (e 52) (e 53))) (fun e => F8_j7 R k1 (e 5) (e 7) (e 51) (e 52) (e 53)) _ (by kernel_rfl) (fun e => F8_j7_ok R k1 e) (by kernel_rfl))
noncomputable def F8_l1 (R : ER) (n : Nat) : V5 := Nat.rec (motive := fun _ => V5) (fun _ _ _ _ _ => fun _ => False) (fun _ ih => fun x5 x7 x51 x52 x53 => F8_b1 R ih x5 x7 x51 x52 x53) n
theorem F8_l1_succ (R : ER) (n : Nat) (x5 x7 x51 x52 x53 : Value) : F8_l1 R (n + 1) x5 x7 x51 x52 x53 = F8_b1 R (F8_l1 R n) x5 x7 x51 x52 x53 := rfl
theorem F8_l1_ok (R : ER) : ∀ (n : Nat) (e : Env), iterL (den Pg R (cd Try.f8 [1,1,1,1,1,1,0,1,0,0])) n e (inB 0 (setN (kont Pg R Try.f8) (fun e => F8_j4 R))) = F8_l1 R n (e 5) (e 7) (e 51) (e 52) (e 53) :=
  iterL_join (den Pg R (cd Try.f8 [1,1,1,1,1,1,0,1,0,0])) (inB 0 (setN (kont Pg R Try.f8) (fun e => F8_j4 R))) (fun n e => F8_l1 R n (e 5) (e 7) (e 51) (e 52) (e 53)) (fun _ => rfl) (fun n e => (F8_b1_ok R (F8_l1 R n) e).trans (F8_l1_succ R n (e 5) (e 7) (e 51) (e 52) (e 53)).symm)
def F8_j6 (R : ER) (x5 x7 x51 x52 x53 : Value) : WP :=
  exN fun n => F8_l1 R n x5 x7 x51 x52 x53
theorem F8_j6_ok (R : ER) (e : Env) : den Pg R (cd Try.f8 [1,1,1,1,1,1,0,1]) e (setN (kont Pg R Try.f8) (fun e => F8_j4 R)) = (F8_j6 R (e 5) (e 7) (e 51) (e 52) (e 53)) := (den_block Pg R (cd Try.f8 [1,1,1,1,1,1,0,1]) 0 (cd Try.f8 [1,1,1,1,1,1,0,1,0]) e (setN (kont Pg R Try.f8) (fun e => F8_j4 R)) _ (by kernel_rfl) (den_loop Pg R (cd Try.f8 [1,1,1,1,1,1,0,1,0]) (cd Try.f8 [1,1,1,1,1,1,0,1,0,0]) e (inB 0 (setN (kont Pg R Try.f8) (fun e => F8_j4 R))) (fun n e => F8_l1 R n (e 5) (e 7) (e 51) (e 52) (e 53)) _ (by kernel_rfl) (F8_l1_ok R) (by kernel_rfl)))
def F8_j5 (R : ER) (x1 x5 x7 : Value) : WP :=
  pv (lenS x1) fun v15 =>
  F8_j6 R x5 x7 x1 v15 (.int .i64 0)
theorem F8_j5_ok (R : ER) (e : Env) : den Pg R (cd Try.f8 [1,1,1,1,1,1,0]) e (setN (kont Pg R Try.f8) (fun e => F8_j4 R)) = (F8_j5 R (e 1) (e 5) (e 7)) := (den_join Pg R 0 (cd Try.f8 [1,1,1,1,1,1,0]) (cd Try.f8 [1,1,1,1,1,1,0,1]) e (setN (kont Pg R Try.f8) (fun e => F8_j4 R)) (fun e => F8_j6 R (e 5) (e 7) (e 51) (e 52) (e 53)) _ (by kernel_rfl) (fun e => F8_j6_ok R e) (by kernel_rfl))
def F8_j3 (R : ER) (x1 x5 x7 : Value) : WP :=
  F8_j5 R x1 x5 x7
theorem F8_j3_ok (R : ER) (e : Env) : den Pg R (cd Try.f8 [1,1,1,1,1,1]) e (kont Pg R Try.f8) = (F8_j3 R (e 1) (e 5) (e 7)) := (den_join Pg R 0 (cd Try.f8 [1,1,1,1,1,1]) (cd Try.f8 [1,1,1,1,1,1,1]) e (kont Pg R Try.f8) (fun e => F8_j4 R) _ (by kernel_rfl) (fun e => F8_j4_ok R e) (den_conv Pg R (pre 0 (cd Try.f8 [1,1,1,1,1,1])) (cd Try.f8 [1,1,1,1,1,1,0]) e (setN (kont Pg R Try.f8) (fun e => F8_j4 R)) _ (by kernel_rfl) (F8_j5_ok R e)))
def F8_j2 (R : ER) (x1 x5 x6 x7 : Value) : WP :=
  pv (bin .neq x6 (.int .i64 0)) fun v16 =>
  cnd v16 (
   cal Pg R 11 ⟨[]⟩ fun v17 =>
   R (.returned v17)) (
   F8_j3 R x1 x5 x7)
theorem F8_j2_ok (R : ER) (e : Env) : den Pg R (cd Try.f8 [1,1,1,1,1]) e (kont Pg R Try.f8) = (F8_j2 R (e 1) (e 5) (e 6) (e 7)) := (den_join Pg R 0 (cd Try.f8 [1,1,1,1,1]) (cd Try.f8 [1,1,1,1,1,1]) e (kont Pg R Try.f8) (fun e => F8_j3 R (e 1) (e 5) (e 7)) _ (by kernel_rfl) (fun e => F8_j3_ok R e) (by kernel_rfl))
def F8_j1 (R : ER) (x1 x2 : Value) : WP :=
  pv (faO 0 x2) fun v18 =>
  ld1 v18 fun v19 =>
  pv (faO 1 x2) fun v20 =>
  ld1 v20 fun v21 =>
  pv (faO 2 x2) fun v22 =>
  ld1 v22 fun v23 =>
  pv (faO 3 x2) fun v24 =>
  ld1 v24 fun v25 =>
  cal Pg R 29 ⟨[v19, v21, v23, v25]⟩ fun v26 =>
  pv (extO 0 v26) fun v27 =>
  pv (extO 1 v26) fun v28 =>
  pv (faO 0 x2) fun v29 =>
  ld1 v29 fun v30 =>
  pv (faO 1 x2) fun v31 =>
  ld1 v31 fun v32 =>
  pv (faO 2 x2) fun v33 =>
  ld1 v33 fun v34 =>
  pv (faO 3 x2) fun v35 =>
  ld1 v35 fun v36 =>
  cal Pg R 30 ⟨[v30, v32, v34, v36]⟩ fun v37 =>
  pv (extO 0 v37) fun v38 =>
  pv (extO 1 v37) fun v39 =>
  pv (bin .neq v28 v39) fun v40 =>
  gd v40 false (pv (some v27)) fun v41 =>
  gd v40 false (pv (eqNilP v41)) fun v42 =>
  gd v40 false (pv (some v28)) fun v43 =>
  gd v40 false (pv (bin .neq v43 (.int .i64 0))) fun v44 =>
  gd v40 false (pv (binB .neq v42 v44)) fun v45 =>
  pv (pickO v40 (.bool true) v45) fun v46 =>
  cnd v46 (
   R (.returned (.bool false))) (
   F8_j2 R x1 v27 v28 v38)
theorem F8_j1_ok (R : ER) (e : Env) : den Pg R (cd Try.f8 [1,1]) e (kont Pg R Try.f8) = (F8_j1 R (e 1) (e 2)) := (den_join Pg R 2 (cd Try.f8 [1,1]) (cd Try.f8 [1,1,1,1,1]) e (kont Pg R Try.f8) (fun e => F8_j2 R (e 1) (e 5) (e 6) (e 7)) _ (by kernel_rfl) (fun e => F8_j2_ok R e) (by kernel_rfl))
def F8 (R : ER) (x0 x1 : Value) : WP :=
  bx 23 x0 fun v47 =>
  cal Pg R 28 ⟨[x1]⟩ fun v48 =>
  cnd v48 (
   cal Pg R 11 ⟨[]⟩ fun v49 =>
   R (.returned v49)) (
   F8_j1 R x1 v47)
theorem orpimentlaw35_LinksCalls_den (R : ER) (x0 x1 : Value) : den Pg R (cd Try.f8 []) (argsEnv [x0, x1]) (kont Pg R Try.f8) = F8 R x0 x1 :=
  have h : ∀ e, den Pg R (cd Try.f8 []) e (kont Pg R Try.f8) = F8 R (e 0) (e 1) := fun e => (den_join Pg R 1 (cd Try.f8 []) (cd Try.f8 [1,1]) e (kont Pg R Try.f8) (fun e => F8_j1 R (e 1) (e 2)) _ (by kernel_rfl) (fun e => F8_j1_ok R e) (by kernel_rfl))
  h _
theorem F8_calls {R : ER} {x0 x1 : Value} {w : World} (h : F8 R x0 x1 w) : Calls Pg 8 ⟨[x0, x1]⟩ w R :=
  calls_of_den Try.func8 (by kernel_rfl) (by kernel_rfl) (orpimentlaw35_LinksCalls_den R x0 x1) h
/-! ### 9: F9 -/
def F9_j3 (R : ER) : WP :=
  cal Pg R 11 ⟨[]⟩ fun v1 =>
  R (.returned v1)
theorem F9_j3_ok (R : ER) (e : Env) : den Pg R (cd Try.f9 [1,1,1,1,1]) e (kont Pg R Try.f9) = (F9_j3 R) := by kernel_rfl
def F9_j7 (R : ER) (k1 : V4) (x5 x24 x25 x26 : Value) : WP :=
  pv (bin .add x26 (.int .i64 1)) fun v2 =>
  k1 x5 x24 x25 v2
theorem F9_j7_ok (R : ER) (k1 : V4) (e : Env) : den Pg R (cd Try.f9 [1,1,1,1,0,1,0,0,1,1,1]) e (setN (inB 0 (setN (kont Pg R Try.f9) (fun e => F9_j3 R))) (fun e => k1 (e 5) (e 24) (e 25) (e 26))) = (F9_j7 R k1 (e 5) (e 24) (e 25) (e 26)) := by kernel_rfl
def F9_j12 (R : ER) (k1 : V4) (k2 : V5) (x5 x24 x25 x26 x34 : Value) : WP :=
  pv (bin .add x34 (.int .i64 1)) fun v3 =>
  k2 x5 x24 x25 x26 v3
theorem F9_j12_ok (R : ER) (k1 : V4) (k2 : V5) (e : Env) : den Pg R (cd Try.f9 [1,1,1,1,0,1,0,0,1,1,0,0,1,1,1,0,0,1,1,1]) e (setN (inB 2 (inB 1 (setN (setN (inB 0 (setN (kont Pg R Try.f9) (fun e => F9_j3 R))) (fun e => k1 (e 5) (e 24) (e 25) (e 26))) (fun e => F9_j7 R k1 (e 5) (e 24) (e 25) (e 26))))) (fun e => k2 (e 5) (e 24) (e 25) (e 26) (e 34))) = (F9_j12 R k1 k2 (e 5) (e 24) (e 25) (e 26) (e 34)) := by kernel_rfl
def F9_j16 (R : ER) (k1 : V4) (k2 : V5) (k3 : V9) (x5 x10 x11 x24 x25 x26 x34 x68 x69 : Value) : WP :=
  drewV (
  pv (ixS 1 x10 x69) fun v4 =>
  ld1 v4 fun v5 =>
  pv (ixS 1 x11 x69) fun v6 =>
  ld1 v6 fun v7 =>
  mem fun w9 => cal Pg noR 19 ⟨[v5, v7]⟩ fun v8 =>
  pv (unO .not v8) fun v10 =>
  cnd v10 (
   R (.returned (.bool false))) (
   pv (bin .add x69 (.int .i64 1)) fun v11 =>
  k3 x5 x10 x11 x24 x25 x26 x34 x68 v11))
theorem F9_j16_ok (R : ER) (k1 : V4) (k2 : V5) (k3 : V9) (e : Env) : den Pg R (cd Try.f9 [1,1,1,1,0,1,0,0,1,1,0,0,1,1,1,0,0,1,1,0,0,1,1,1,1,0,0,1,1]) e (setN (inB 4 (inB 3 (setN (setN (inB 2 (inB 1 (setN (setN (inB 0 (setN (kont Pg R Try.f9) (fun e => F9_j3 R))) (fun e => k1 (e 5) (e 24) (e 25) (e 26))) (fun e => F9_j7 R k1 (e 5) (e 24) (e 25) (e 26))))) (fun e => k2 (e 5) (e 24) (e 25) (e 26) (e 34))) (fun e => F9_j12 R k1 k2 (e 5) (e 24) (e 25) (e 26) (e 34))))) (fun e => k3 (e 5) (e 10) (e 11) (e 24) (e 25) (e 26) (e 34) (e 68) (e 69))) = (F9_j16 R k1 k2 k3 (e 5) (e 10) (e 11) (e 24) (e 25) (e 26) (e 34) (e 68) (e 69)) := (by kernel_rfl)
def F9_b3 (R : ER) (k1 : V4) (k2 : V5) (k3 : V9) (x5 x10 x11 x24 x25 x26 x34 x68 x69 : Value) : WP :=
  pv (bin .lss x69 x68) fun v12 =>
  cnd v12 (
   F9_j16 R k1 k2 k3 x5 x10 x11 x24 x25 x26 x34 x68 x69) (
   F9_j12 R k1 k2 x5 x24 x25 x26 x34)
theorem F9_b3_ok (R : ER) (k1 : V4) (k2 : V5) (k3 : V9) (e : Env) : den Pg R (cd Try.f9 [1,1,1,1,0,1,0,0,1,1,0,0,1,1,1,0,0,1,1,0,0,1,1,1,1,0,0]) e (setN (inB 4 (inB 3 (setN (setN (inB 2 (inB 1 (setN (setN (inB 0 (setN (kont Pg R Try.f9) (fun e => F9_j3 R))) (fun e => k1 (e 5) (e 24) (e 25) (e 26))) (fun e => F9_j7 R k1 (e 5) (e 24) (e 25) (e 26))))) (fun e => k2 (e 5) (e 24) (e 25) (e 26) (e 34))) (fun e => F9_j12 R k1 k2 (e 5) (e 24) (e 25) (e 26) (e 34))))) (fun e => k3 (e 5) (e 10) (e 11) (e 24) (e 25) (e 26) (e 34) (e 68) (e 69))) = (F9_b3 R k1 k2 k3 (e 5) (e 10) (e 11) (e 24) (e 25) (e 26) (e 34) (e 68) (e 69)) := (den_join Pg R 1 (cd Try.f9 [1,1,1,1,0,1,0,0,1,1,0,0,1,1,1,0,0,1,1,0,0,1,1,1,1,0,0]) (cd Try.f9 [1,1,1,1,0,1,0,0,1,1,0,0,1,1,1,0,0,1,1,0,0,1,1,1,1,0,0,1,1]) e (setN (inB 4 (inB 3 (setN (setN (inB 2 (inB 1 (setN (setN (inB 0 (setN (kont Pg R Try.f9) (fun e => F9_j3 R))) (fun e => k1 (e 5) (e 24) (e 25) (e 26))) (fun e => F9_j7 R k1 (e 5) (e 24) (e 25) (e 26))))) (fun e => k2 (e 5) (e 24) (e 25) (e 26) (e 34))) (fun e => F9_j12 R k1 k2 (e 5) (e 24) (e 25) (e 26) (e 34))))) (fun e => k3 (e 5) (e 10) (e 11) (e 24) (e 25) (e 26) (e 34) (e 68) (e 69))) (fun e => F9_j16 R k1 k2 k3 (e 5) (e 10) (e 11) (e 24) (e 25) (e 26) (e 34) (e 68) (e 69)) _ (by kernel_rfl) (fun e => F9_j16_ok R k1 k2 k3 e) (by kernel_rfl))
noncomputable def F9_l1 (R : ER) (k1 : V4) (k2 : V5) (n : Nat) : V9 := Nat.rec (motive := fun _ => V9) (fun _ _ _ _ _ _ _ _ _ => fun _ => False) (fun _ ih => fun x5 x10 x11 x24 x25 x26 x34 x68 x69 => F9_b3 R k1 k2 ih x5 x10 x11 x24 x25 x26 x34 x68 x69) n
theorem F9_l1_succ (R : ER) (k1 : V4) (k2 : V5) (n : Nat) (x5 x10 x11 x24 x25 x26 x34 x68 x69 : Value) : F9_l1 R k1 k2 (n + 1) x5 x10 x11 x24 x25 x26 x34 x68 x69 = F9_b3 R k1 k2 (F9_l1 R k1 k2 n) x5 x10 x11 x24 x25 x26 x34 x68 x69 := rfl
theorem F9_l1_ok (R : ER) (k1 : V4) (k2 : V5) : ∀ (n : Nat) (e : Env), iterL (den Pg R (cd Try.f9 [1,1,1,1,0,1,0,0,1,1,0,0,1,1,1,0,0,1,1,0,0,1,1,1,1,0,0])) n e (inB 4 (inB 3 (setN (setN (inB 2 (inB 1 (setN (setN (inB 0 (setN (kont Pg R Try.f9) (fun e => F9_j3 R))) (fun e => k1 (e 5) (e 24) (e 25) (e 26))) (fun e => F9_j7 R k1 (e 5) (e 24) (e 25) (e 26))))) (fun e => k2 (e 5) (e 24) (e 25) (e 26) (e 34))) (fun e => F9_j12 R k1 k2 (e 5) (e 24) (e 25) (e 26) (e 34))))) = F9_l1 R k1 k2 n (e 5) (e 10) (e 11) (e 24) (e 25) (e 26) (e 34) (e 68) (e 69) :=
  iterL_join (den Pg R (cd Try.f9 [1,1,1,1,0,1,0,0,1,1,0,0,1,1,1,0,0,1,1,0,0,1,1,1,1,0,0])) (inB 4 (inB 3 (setN (setN (inB 2 (inB 1 (setN (setN (inB 0 (setN (kont Pg R Try.f9) (fun e => F9_j3 R))) (fun e => k1 (e 5) (e 24) (e 25) (e 26))) (fun e => F9_j7 R k1 (e 5) (e 24) (e 25) (e 26))))) (fun e => k2 (e 5) (e 24) (e 25) (e 26) (e 34))) (fun e => F9_j12 R k1 k2 (e 5) (e 24) (e 25) (e 26) (e 34))))) (fun n e => F9_l1 R k1 k2 n (e 5) (e 10) (e 11) (e 24) (e 25) (e 26) (e 34) (e 68) (e 69)) (fun _ => rfl) (fun n e => (F9_b3_ok R k1 k2 (F9_l1 R k1 k2 n) e).trans (F9_l1_succ R k1 k2 n (e 5) (e 10) (e 11) (e 24) (e 25) (e 26) (e 34) (e 68) (e 69)).symm)
def F9_j15 (R : ER) (k1 : V4) (k2 : V5) (x5 x10 x11 x24 x25 x26 x34 x68 x69 : Value) : WP :=
  exN fun n => F9_l1 R k1 k2 n x5 x10 x11 x24 x25 x26 x34 x68 x69
theorem F9_j15_ok (R : ER) (k1 : V4) (k2 : V5) (e : Env) : den Pg R (cd Try.f9 [1,1,1,1,0,1,0,0,1,1,0,0,1,1,1,0,0,1,1,0,0,1,1,1,1]) e (inB 3 (setN (setN (inB 2 (inB 1 (setN (setN (inB 0 (setN (kont Pg R Try.f9) (fun e => F9_j3 R))) (fun e => k1 (e 5) (e 24) (e 25) (e 26))) (fun e => F9_j7 R k1 (e 5) (e 24) (e 25) (e 26))))) (fun e => k2 (e 5) (e 24) (e 25) (e 26) (e 34))) (fun e => F9_j12 R k1 k2 (e 5) (e 24) (e 25) (e 26) (e 34)))) = (F9_j15 R k1 k2 (e 5) (e 10) (e 11) (e 24) (e 25) (e 26) (e 34) (e 68) (e 69)) := (den_block Pg R (cd Try.f9 [1,1,1,1,0,1,0,0,1,1,0,0,1,1,1,0,0,1,1,0,0,1,1,1,1]) 4 (cd Try.f9 [1,1,1,1,0,1,0,0,1,1,0,0,1,1,1,0,0,1,1,0,0,1,1,1,1,0]) e (inB 3 (setN (setN (inB 2 (inB 1 (setN (setN (inB 0 (setN (kont Pg R Try.f9) (fun e => F9_j3 R))) (fun e => k1 (e 5) (e 24) (e 25) (e 26))) (fun e => F9_j7 R k1 (e 5) (e 24) (e 25) (e 26))))) (fun e => k2 (e 5) (e 24) (e 25) (e 26) (e 34))) (fun e => F9_j12 R k1 k2 (e 5) (e 24) (e 25) (e 26) (e 34)))) _ (by kernel_rfl) (den_loop Pg R (cd Try.f9 [1,1,1,1,0,1,0,0,1,1,0,0,1,1,1,0,0,1,1,0,0,1,1,1,1,0]) (cd Try.f9 [1,1,1,1,0,1,0,0,1,1,0,0,1,1,1,0,0,1,1,0,0,1,1,1,1,0,0]) e (inB 4 (inB 3 (setN (setN (inB 2 (inB 1 (setN (setN (inB 0 (setN (kont Pg R Try.f9) (fun e => F9_j3 R))) (fun e => k1 (e 5) (e 24) (e 25) (e 26))) (fun e => F9_j7 R k1 (e 5) (e 24) (e 25) (e 26))))) (fun e => k2 (e 5) (e 24) (e 25) (e 26) (e 34))) (fun e => F9_j12 R k1 k2 (e 5) (e 24) (e 25) (e 26) (e 34))))) (fun n e => F9_l1 R k1 k2 n (e 5) (e 10) (e 11) (e 24) (e 25) (e 26) (e 34) (e 68) (e 69)) _ (by kernel_rfl) (F9_l1_ok R k1 k2) (by kernel_rfl)))
def F9_j14 (R : ER) (k1 : V4) (k2 : V5) (x5 x10 x11 x24 x25 x26 x34 : Value) : WP :=
  pv (lenS x10) fun v13 =>
  F9_j15 R k1 k2 x5 x10 x11 x24 x25 x26 x34 v13 (.int .i64 0)
theorem F9_j14_ok (R : ER) (k1 : V4) (k2 : V5) (e : Env) : den Pg R (cd Try.f9 [1,1,1,1,0,1,0,0,1,1,0,0,1,1,1,0,0,1,1,0,0,1,1,1]) e (inB 3 (setN (setN (inB 2 (inB 1 (setN (setN (inB 0 (setN (kont Pg R Try.f9) (fun e => F9_j3 R))) (fun e => k1 (e 5) (e 24) (e 25) (e 26))) (fun e => F9_j7 R k1 (e 5) (e 24) (e 25) (e 26))))) (fun e => k2 (e 5) (e 24) (e 25) (e 26) (e 34))) (fun e => F9_j12 R k1 k2 (e 5) (e 24) (e 25) (e 26) (e 34)))) = (F9_j14 R k1 k2 (e 5) (e 10) (e 11) (e 24) (e 25) (e 26) (e 34)) := (den_join Pg R 0 (cd Try.f9 [1,1,1,1,0,1,0,0,1,1,0,0,1,1,1,0,0,1,1,0,0,1,1,1]) (cd Try.f9 [1,1,1,1,0,1,0,0,1,1,0,0,1,1,1,0,0,1,1,0,0,1,1,1,1]) e (inB 3 (setN (setN (inB 2 (inB 1 (setN (setN (inB 0 (setN (kont Pg R Try.f9) (fun e => F9_j3 R))) (fun e => k1 (e 5) (e 24) (e 25) (e 26))) (fun e => F9_j7 R k1 (e 5) (e 24) (e 25) (e 26))))) (fun e => k2 (e 5) (e 24) (e 25) (e 26) (e 34))) (fun e => F9_j12 R k1 k2 (e 5) (e 24) (e 25) (e 26) (e 34)))) (fun e => F9_j15 R k1 k2 (e 5) (e 10) (e 11) (e 24) (e 25) (e 26) (e 34) (e 68) (e 69)) _ (by kernel_rfl) (fun e => F9_j15_ok R k1 k2 e) (by kernel_rfl))
def F9_j17 (R : ER) (k1 : V4) (k2 : V5) (x5 x9 x10 x11 x24 x25 x26 x34 : Value) : WP :=
  pv (lenS x10) fun v14 =>
  pv (lenS x11) fun v15 =>
  pv (bin .gtr v14 v15) fun v16 =>
  gd v16 false (pv (some x5)) fun v17 =>
  gd v16 false (pv (some x9)) fun v18 =>
  gd v16 false (pv (nilO v17)) fun v19 =>
  gd v16 false (pv (faO 0 v19)) fun v20 =>
  gd v16 false (pv (ixA 2 1 v20 v18)) fun v21 =>
  gd v16 false (ld1 v21) fun v22 =>
  gd v16 false (cal Pg R 25 ⟨[v22]⟩) fun v23 =>
  gd v16 false (pv (some x10)) fun v24 =>
  gd v16 false (pv (lenS v24)) fun v25 =>
  gd v16 false (pv (bin .gtr v23 v25)) fun v26 =>
  pv (pickO v16 (.bool true) v26) fun v27 =>
  cnd v27 (
   R (.returned (.bool false))) (
   F9_j14 R k1 k2 x5 x10 x11 x24 x25 x26 x34)
theorem F9_j17_ok (R : ER) (k1 : V4) (k2 : V5) (e : Env) : den Pg R (cd Try.f9 [1,1,1,1,0,1,0,0,1,1,0,0,1,1,1,0,0,1,1,0,0,1,1,0]) e (setN (inB 3 (setN (setN (inB 2 (inB 1 (setN (setN (inB 0 (setN (kont Pg R Try.f9) (fun e => F9_j3 R))) (fun e => k1 (e 5) (e 24) (e 25) (e 26))) (fun e => F9_j7 R k1 (e 5) (e 24) (e 25) (e 26))))) (fun e => k2 (e 5) (e 24) (e 25) (e 26) (e 34))) (fun e => F9_j12 R k1 k2 (e 5) (e 24) (e 25) (e 26) (e 34)))) (fun e => F9_j14 R k1 k2 (e 5) (e 10) (e 11) (e 24) (e 25) (e 26) (e 34))) = (F9_j17 R k1 k2 (e 5) (e 9) (e 10) (e 11) (e 24) (e 25) (e 26) (e 34)) := (by kernel_rfl)
def F9_j13 (R : ER) (k1 : V4) (k2 : V5) (x5 x24 x25 x26 x34 : Value) : WP :=
  drewV (
  pv (bin .sub (.int .i64 1) x34) fun v28 =>
  pv (nilO x5) fun v29 =>
  pv (faO 8 v29) fun v30 =>
  pv (ixA 2 1 v30 v28) fun v31 =>
  ld1 v31 fun v32 =>
  pv (nilO x5) fun v33 =>
  pv (faO 6 v33) fun v34 =>
  pv (ixA 2 1 v34 x34) fun v35 =>
  ld1 v35 fun v36 =>
  F9_j17 R k1 k2 x5 x34 v32 v36 x24 x25 x26 x34)
theorem F9_j13_ok (R : ER) (k1 : V4) (k2 : V5) (e : Env) : den Pg R (cd Try.f9 [1,1,1,1,0,1,0,0,1,1,0,0,1,1,1,0,0,1,1,0]) e (setN (setN (inB 2 (inB 1 (setN (setN (inB 0 (setN (kont Pg R Try.f9) (fun e => F9_j3 R))) (fun e => k1 (e 5) (e 24) (e 25) (e 26))) (fun e => F9_j7 R k1 (e 5) (e 24) (e 25) (e 26))))) (fun e => k2 (e 5) (e 24) (e 25) (e 26) (e 34))) (fun e => F9_j12 R k1 k2 (e 5) (e 24) (e 25) (e 26) (e 34))) = (F9_j13 R k1 k2 (e 5) (e 24) (e 25) (e 26) (e 34)) := (den_block Pg R (cd Try.f9 [1,1,1,1,0,1,0,0,1,1,0,0,1,1,1,0,0,1,1,0]) 3 (cd Try.f9 [1,1,1,1,0,1,0,0,1,1,0,0,1,1,1,0,0,1,1,0,0]) e (setN (setN (inB 2 (inB 1 (setN (setN (inB 0 (setN (kont Pg R Try.f9) (fun e => F9_j3 R))) (fun e => k1 (e 5) (e 24) (e 25) (e 26))) (fun e => F9_j7 R k1 (e 5) (e 24) (e 25) (e 26))))) (fun e => k2 (e 5) (e 24) (e 25) (e 26) (e 34))) (fun e => F9_j12 R k1 k2 (e 5) (e 24) (e 25) (e 26) (e 34))) _ (by kernel_rfl) (den_join Pg R 2 (cd Try.f9 [1,1,1,1,0,1,0,0,1,1,0,0,1,1,1,0,0,1,1,0,0]) (cd Try.f9 [1,1,1,1,0,1,0,0,1,1,0,0,1,1,1,0,0,1,1,0,0,1,1,1]) e (inB 3 (setN (setN (inB 2 (inB 1 (setN (setN (inB 0 (setN (kont Pg R Try.f9) (fun e => F9_j3 R))) (fun e => k1 (e 5) (e 24) (e 25) (e 26))) (fun e => F9_j7 R k1 (e 5) (e 24) (e 25) (e 26))))) (fun e => k2 (e 5) (e 24) (e 25) (e 26) (e 34))) (fun e => F9_j12 R k1 k2 (e 5) (e 24) (e 25) (e 26) (e 34)))) (fun e => F9_j14 R k1 k2 (e 5) (e 10) (e 11) (e 24) (e 25) (e 26) (e 34)) _ (by kernel_rfl) (fun e => F9_j14_ok R k1 k2 e) (den_join Pg R 1 (pre 2 (cd Try.f9 [1,1,1,1,0,1,0,0,1,1,0,0,1,1,1,0,0,1,1,0,0])) (cd Try.f9 [1,1,1,1,0,1,0,0,1,1,0,0,1,1,1,0,0,1,1,0,0,1,1,0]) e (setN (inB 3 (setN (setN (inB 2 (inB 1 (setN (setN (inB 0 (setN (kont Pg R Try.f9) (fun e => F9_j3 R))) (fun e => k1 (e 5) (e 24) (e 25) (e 26))) (fun e => F9_j7 R k1 (e 5) (e 24) (e 25) (e 26))))) (fun e => k2 (e 5) (e 24) (e 25) (e 26) (e 34))) (fun e => F9_j12 R k1 k2 (e 5) (e 24) (e 25) (e 26) (e 34)))) (fun e => F9_j14 R k1 k2 (e 5) (e 10) (e 11) (e 24) (e 25) (e 26) (e 34))) (fun e => F9_j17 R k1 k2 (e 5) (e 9) (e 10) (e 11) (e 24) (e 25) (e 26) (e 34)) _ (by kernel_rfl) (fun e => F9_j17_ok R k1 k2 e) (by kernel_rfl))))
def F9_j11 (R : ER) (k1 : V4) (k2 : V5) (x5 x24 x25 x26 x34 : Value) : WP :=
  F9_j13 R k1 k2 x5 x24 x25 x26 x34
theorem F9_j11_ok (R : ER) (k1 : V4) (k2 : V5) (e : Env) : den Pg R (cd Try.f9 [1,1,1,1,0,1,0,0,1,1,0,0,1,1,1,0,0,1,1]) e (setN (inB 2 (inB 1 (setN (setN (inB 0 (setN (kont Pg R Try.f9) (fun e => F9_j3 R))) (fun e => k1 (e 5) (e 24) (e 25) (e 26))) (fun e => F9_j7 R k1 (e 5) (e 24) (e 25) (e 26))))) (fun e => k2 (e 5) (e 24) (e 25) (e 26) (e 34))) = (F9_j11 R k1 k2 (e 5) (e 24) (e 25) (e 26) (e 34)) := (den_join Pg R 0 (cd Try.f9 [1,1,1,1,0,1,0,0,1,1,0,0,1,1,1,0,0,1,1]) (cd Try.f9 [1,1,1,1,0,1,0,0,1,1,0,0,1,1,1,0,0,1,1,1]) e (setN (inB 2 (inB 1 (setN (setN (inB 0 (setN (kont Pg R Try.f9) (fun e => F9_j3 R))) (fun e => k1 (e 5) (e 24) (e 25) (e 26))) (fun e => F9_j7 R k1 (e 5) (e 24) (e 25) (e 26))))) (fun e => k2 (e 5) (e 24) (e 25) (e 26) (e 34))) (fun e => F9_j12 R k1 k2 (e 5) (e 24) (e 25) (e 26) (e 34)) _ (by kernel_rfl) (fun e => F9_j12_ok R k1 k2 e) (den_conv Pg R (pre 0 (cd Try.f9 [1,1,1,1,0,1,0,0,1,1,0,0,1,1,1,0,0,1,1])) (cd Try.f9 [1,1,1,1,0,1,0,0,1,1,0,0,1,1,1,0,0,1,1,0]) e (setN (setN (inB 2 (inB 1 (setN (setN (inB 0 (setN (kont Pg R Try.f9) (fun e => F9_j3 R))) (fun e => k1 (e 5) (e 24) (e 25) (e 26))) (fun e => F9_j7 R k1 (e 5) (e 24) (e 25) (e 26))))) (fun e => k2 (e 5) (e 24) (e 25) (e 26) (e 34))) (fun e => F9_j12 R k1 k2 (e 5) (e 24) (e 25) (e 26) (e 34))) _ (by kernel_rfl) (F9_j13_ok R k1 k2 e)))
def F9_b2 (R : ER) (k1 : V4) (k2 : V5) (x5 x24 x25 x26 x34 : Value) : WP :=
  pv (bin .lss x34 (.int .i64 2)) fun v37 =>
  cnd v37 (
   F9_j11 R k1 k2 x5 x24 x25 x26 x34) (
   F9_j7 R k1 x5 x24 x25 x26)
theorem F9_b2_ok (R : ER) (k1 : V4) (k2 : V5) (e : Env) : den Pg R (cd Try.f9 [1,1,1,1,0,1,0,0,1,1,0,0,1,1,1,0,0]) e (setN (inB 2 (inB 1 (setN (setN (inB 0 (setN (kont Pg R Try.f9) (fun e => F9_j3 R))) (fun e => k1 (e 5) (e 24) (e 25) (e 26))) (fun e => F9_j7 R k1 (e 5) (e 24) (e 25) (e 26))))) (fun e => k2 (e 5) (e 24) (e 25) (e 26) (e 34))) = (F9_b2 R k1 k2 (e 5) (e 24) (e 25) (e 26) (e 34)) := (den_join Pg R 1 (cd Try.f9 [1,1,1,1,0,1,0,0,1,1,0,0,1,1,1,0,0]) (cd Try.f9 [1,1,1,1,0,1,0,0,1,1,0,0,1,1,1,0,0,1,1]) e (setN (inB 2 (inB 1 (setN (setN (inB 0 (setN (kont Pg R Try.f9) (fun e => F9_j3 R))) (fun e => k1 (e 5) (e 24) (e 25) (e 26))) (fun e => F9_j7 R k1 (e 5) (e 24) (e 25) (e 26))))) (fun e => k2 (e 5) (e 24) (e 25) (e 26) (e 34))) (fun e => F9_j11 R k1 k2 (e 5) (e 24) (e 25) (e 26) (e 34)) _ (by kernel_rfl) (fun e => F9_j11_ok R k1 k2 e) (by kernel_rfl))
noncomputable def F9_l2 (R : ER) (k1 : V4) (n : Nat) : V5 := Nat.rec (motive := fun _ => V5) (fun _ _ _ _ _ => fun _ => False) (fun _ ih => fun x5 x24 x25 x26 x34 => F9_b2 R k1 ih x5 x24 x25 x26 x34) n
theorem F9_l2_succ (R : ER) (k1 : V4) (n : Nat) (x5 x24 x25 x26 x34 : Value) : F9_l2 R k1 (n + 1) x5 x24 x25 x26 x34 = F9_b2 R k1 (F9_l2 R k1 n) x5 x24 x25 x26 x34 := rfl
theorem F9_l2_ok (R : ER) (k1 : V4) : ∀ (n : Nat) (e : Env), iterL (den Pg R (cd Try.f9 [1,1,1,1,0,1,0,0,1,1,0,0,1,1,1,0,0])) n e (inB 2 (inB 1 (setN (setN (inB 0 (setN (kont Pg R Try.f9) (fun e => F9_j3 R))) (fun e => k1 (e 5) (e 24) (e 25) (e 26))) (fun e => F9_j7 R k1 (e 5) (e 24) (e 25) (e 26))))) = F9_l2 R k1 n (e 5) (e 24) (e 25) (e 26) (e 34) :=
  iterL_join (den Pg R (cd Try.f9 [1,1,1,1,0,1,0,0,1,1,0,0,1,1,1,0,0])) (inB 2 (inB 1 (setN (setN (inB 0 (setN (kont Pg R Try.f9) (fun e => F9_j3 R))) (fun e => k1 (e 5) (e 24) (e 25) (e 26))) (fun e => F9_j7 R k1 (e 5) (e 24) (e 25) (e 26))))) (fun n e => F9_l2 R k1 n (e 5) (e 24) (e 25) (e 26) (e 34)) (fun _ => rfl) (fun n e => (F9_b2_ok R k1 (F9_l2 R k1 n) e).trans (F9_l2_succ R k1 n (e 5) (e 24) (e 25) (e 26) (e 34)).symm)
def F9_j10 (R : ER) (k1 : V4) (x5 x24 x25 x26 x34 : Value) : WP :=
  exN fun n => F9_l2 R k1 n x5 x24 x25 x26 x34
theorem F9_j10_ok (R : ER) (k1 : V4) (e : Env) : den Pg R (cd Try.f9 [1,1,1,1,0,1,0,0,1,1,0,0,1,1,1]) e (inB 1 (setN (setN (inB 0 (setN (kont Pg R Try.f9) (fun e => F9_j3 R))) (fun e => k1 (e 5) (e 24) (e 25) (e 26))) (fun e => F9_j7 R k1 (e 5) (e 24) (e 25) (e 26)))) = (F9_j10 R k1 (e 5) (e 24) (e 25) (e 26) (e 34)) := (den_block Pg R (cd Try.f9 [1,1,1,1,0,1,0,0,1,1,0,0,1,1,1]) 2 (cd Try.f9 [1,1,1,1,0,1,0,0,1,1,0,0,1,1,1,0]) e (inB 1 (setN (setN (inB 0 (setN (kont Pg R Try.f9) (fun e => F9_j3 R))) (fun e => k1 (e 5) (e 24) (e 25) (e 26))) (fun e => F9_j7 R k1 (e 5) (e 24) (e 25) (e 26)))) _ (by kernel_rfl) (den_loop Pg R (cd Try.f9 [1,1,1,1,0,1,0,0,1,1,0,0,1,1,1,0]) (cd Try.f9 [1,1,1,1,0,1,0,0,1,1,0,0,1,1,1,0,0]) e (inB 2 (inB 1 (setN (setN (inB 0 (setN (kont Pg R Try.f9) (fun e => F9_j3 R))) (fun e => k1 (e 5) (e 24) (e 25) (e 26))) (fun e => F9_j7 R k1 (e 5) (e 24) (e 25) (e 26))))) (fun n e => F9_l2 R k1 n (e 5) (e 24) (e 25) (e 26) (e 34)) _ (by kernel_rfl) (F9_l2_ok R k1) (by kernel_rfl)))
def F9_j9 (R : ER) (k1 : V4) (x5 x24 x25 x26 : Value) : WP :=
  F9_j10 R k1 x5 x24 x25 x26 (.int .i64 0)
theorem F9_j9_ok (R : ER) (k1 : V4) (e : Env) : den Pg R (cd Try.f9 [1,1,1,1,0,1,0,0,1,1,0,0,1,1]) e (inB 1 (setN (setN (inB 0 (setN (kont Pg R Try.f9) (fun e => F9_j3 R))) (fun e => k1 (e 5) (e 24) (e 25) (e 26))) (fun e => F9_j7 R k1 (e 5) (e 24) (e 25) (e 26)))) = (F9_j9 R k1 (e 5) (e 24) (e 25) (e 26)) := (den_join Pg R 0 (cd Try.f9 [1,1,1,1,0,1,0,0,1,1,0,0,1,1]) (cd Try.f9 [1,1,1,1,0,1,0,0,1,1,0,0,1,1,1]) e (inB 1 (setN (setN (inB 0 (setN (kont Pg R Try.f9) (fun e => F9_j3 R))) (fun e => k1 (e 5) (e 24) (e 25) (e 26))) (fun e => F9_j7 R k1 (e 5) (e 24) (e 25) (e 26)))) (fun e => F9_j10 R k1 (e 5) (e 24) (e 25) (e 26) (e 34)) _ (by kernel_rfl) (fun e => F9_j10_ok R k1 e) (by kernel_rfl))
def F9_j8 (R : ER) (k1 : V4) (x5 x24 x25 x26 : Value) : WP :=
  pv (ixS 4 x24 x26) fun v38 =>
  ldN 4 v38 fun v39 =>
  al Pg 85 fun v40 =>
  stN 4 v40 v39 fun _ =>
  ldN 4 v40 fun v41 =>
  cal Pg R 33 ⟨[x5, v41]⟩ fun v42 =>
  pv (unO .not v42) fun v43 =>
  cnd v43 (
   R (.returned (.bool false))) (
   F9_j9 R k1 x5 x24 x25 x26)
theorem F9_j8_ok (R : ER) (k1 : V4) (e : Env) : den Pg R (cd Try.f9 [1,1,1,1,0,1,0,0,1,1,0]) e (setN (setN (inB 0 (setN (kont Pg R Try.f9) (fun e => F9_j3 R))) (fun e => k1 (e 5) (e 24) (e 25) (e 26))) (fun e => F9_j7 R k1 (e 5) (e 24) (e 25) (e 26))) = (F9_j8 R k1 (e 5) (e 24) (e 25) (e 26)) := (den_block Pg R (cd Try.f9 [1,1,1,1,0,1,0,0,1,1,0]) 1 (cd Try.f9 [1,1,1,1,0,1,0,0,1,1,0,0]) e (setN (setN (inB 0 (setN (kont Pg R Try.f9) (fun e => F9_j3 R))) (fun e => k1 (e 5) (e 24) (e 25) (e 26))) (fun e => F9_j7 R k1 (e 5) (e 24) (e 25) (e 26))) _ (by kernel_rfl) (den_join Pg R 1 (cd Try.f9 [1,1,1,1,0,1,0,0,1,1,0,0]) (cd Try.f9 [1,1,1,1,0,1,0,0,1,1,0,0,1,1]) e (inB 1 (setN (setN (inB 0 (setN (kont Pg R Try.f9) (fun e => F9_j3 R))) (fun e => k1 (e 5) (e 24) (e 25) (e 26))) (fun e => F9_j7 R k1 (e 5) (e 24) (e 25) (e 26)))) (fun e => F9_j9 R k1 (e 5) (e 24) (e 25) (e 26)) _ (by kernel_rfl) (fun e => F9_j9_ok R k1 e) (by kernel_rfl)))
def F9_j6 (R : ER) (k1 : V4) (x5 x24 x25 x26 : Value) : WP :=
  F9_j8 R k1 x5 x24 x25 x26
theorem F9_j6_ok (R : ER) (k1 : V4) (e : Env) : den Pg R (cd Try.f9 [1,1,1,1,0,1,0,0,1,1]) e (setN (inB 0 (setN (kont Pg R Try.f9) (fun e => F9_j3 R))) (fun e => k1 (e 5) (e 24) (e 25) (e 26))) = (F9_j6 R k1 (e 5) (e 24) (e 25) (e 26)) := (den_join Pg R 0 (cd Try.f9 [1,1,1,1,0,1,0,0,1,1]) (cd Try.f9 [1,1,1,1,0,1,0,0,1,1,1]) e (setN (inB 0 (setN (kont Pg R Try.f9) (fun e => F9_j3 R))) (fun e => k1 (e 5) (e 24) (e 25) (e 26))) (fun e => F9_j7 R k1 (e 5) (e 24) (e 25) (e 26)) _ (by kernel_rfl) (fun e => F9_j7_ok R k1 e) (den_conv Pg R (pre 0 (cd Try.f9 [1,1,1,1,0,1,0,0,1,1])) (cd Try.f9 [1,1,1,1,0,1,0,0,1,1,0]) e (setN (setN (inB 0 (setN (kont Pg R Try.f9) (fun e => F9_j3 R))) (fun e => k1 (e 5) (e 24) (e 25) (e 26))) (fun e => F9_j7 R k1 (e 5) (e 24) (e 25) (e 26))) _ (by kernel_rfl) (F9_j8_ok R k1 e)))
def F9_b1 (R : ER) (k1 : V4) (x5 x24 x25 x26 : Value) : WP :=
  pv (bin .lss x26 x25) fun v44 =>
  cnd v44 (
   F9_j6 R k1 x5 x24 x25 x26) (
   F9_j3 R)
theorem F9_b1_ok (R : ER) (k1 : V4) (e : Env) : den Pg R (cd Try.f9 [1,1,1,1,0,1,0,0]) e (setN (inB 0 (setN (kont Pg R Try.f9) (fun e => F9_j3 R))) (fun e => k1 (e 5) (e 24) (e 25) (e 26))) = (F9_b1 R k1 (e 5) (e 24) (e 25) (e 26)) := (den_join Pg R 1 (cd Try.f9 [1,1,1,1,0,1,0,0]) (cd Try.f9 [1,1,1,1,0,1,0,0,1,1]) e (setN (inB 0 (setN (kont Pg R Try.f9) (fun e => F9_j3 R))) (fun e => k1 (e 5) (e 24) (e 25) (e 26))) (fun e => F9_j6 R k1 (e 5) (e 24) (e 25) (e 26)) _ (by kernel_rfl) (fun e => F9_j6_ok R k1 e) (by kernel_rfl))
noncomputable def F9_l3 (R : ER) (n : Nat) : V4 := Nat.rec (motive := fun _ => V4) (fun _ _ _ _ => fun _ => False) (fun _ ih => fun x5 x24 x25 x26 => F9_b1 R ih x5 x24 x25 x26) n
theorem F9_l3_succ (R : ER) (n : Nat) (x5 x24 x25 x26 : Value) : F9_l3 R (n + 1) x5 x24 x25 x26 = F9_b1 R (F9_l3 R n) x5 x24 x25 x26 := rfl
theorem F9_l3_ok (R : ER) : ∀ (n : Nat) (e : Env), iterL (den Pg R (cd Try.f9 [1,1,1,1,0,1,0,0])) n e (inB 0 (setN (kont Pg R Try.f9) (fun e => F9_j3 R))) = F9_l3 R n (e 5) (e 24) (e 25) (e 26) :=
  iterL_join (den Pg R (cd Try.f9 [1,1,1,1,0,1,0,0])) (inB 0 (setN (kont Pg R Try.f9) (fun e => F9_j3 R))) (fun n e => F9_l3 R n (e 5) (e 24) (e 25) (e 26)) (fun _ => rfl) (fun n e => (F9_b1_ok R (F9_l3 R n) e).trans (F9_l3_succ R n (e 5) (e 24) (e 25) (e 26)).symm)
def F9_j5 (R : ER) (x5 x24 x25 x26 : Value) : WP :=
  exN fun n => F9_l3 R n x5 x24 x25 x26
theorem F9_j5_ok (R : ER) (e : Env) : den Pg R (cd Try.f9 [1,1,1,1,0,1]) e (setN (kont Pg R Try.f9) (fun e => F9_j3 R)) = (F9_j5 R (e 5) (e 24) (e 25) (e 26)) := (den_block Pg R (cd Try.f9 [1,1,1,1,0,1]) 0 (cd Try.f9 [1,1,1,1,0,1,0]) e (setN (kont Pg R Try.f9) (fun e => F9_j3 R)) _ (by kernel_rfl) (den_loop Pg R (cd Try.f9 [1,1,1,1,0,1,0]) (cd Try.f9 [1,1,1,1,0,1,0,0]) e (inB 0 (setN (kont Pg R Try.f9) (fun e => F9_j3 R))) (fun n e => F9_l3 R n (e 5) (e 24) (e 25) (e 26)) _ (by kernel_rfl) (F9_l3_ok R) (by kernel_rfl)))
def F9_j4 (R : ER) (x1 x5 : Value) : WP :=
  pv (lenS x1) fun v45 =>
  F9_j5 R x5 x1 v45 (.int .i64 0)
theorem F9_j4_ok (R : ER) (e : Env) : den Pg R (cd Try.f9 [1,1,1,1,0]) e (setN (kont Pg R Try.f9) (fun e => F9_j3 R)) = (F9_j4 R (e 1) (e 5)) := (den_join Pg R 0 (cd Try.f9 [1,1,1,1,0]) (cd Try.f9 [1,1,1,1,0,1]) e (setN (kont Pg R Try.f9) (fun e => F9_j3 R)) (fun e => F9_j5 R (e 5) (e 24) (e 25) (e 26)) _ (by kernel_rfl) (fun e => F9_j5_ok R e) (by kernel_rfl))
def F9_j2 (R : ER) (x1 x5 : Value) : WP :=
  F9_j4 R x1 x5
theorem F9_j2_ok (R : ER) (e : Env) : den Pg R (cd Try.f9 [1,1,1,1]) e (kont Pg R Try.f9) = (F9_j2 R (e 1) (e 5)) := (den_join Pg R 0 (cd Try.f9 [1,1,1,1]) (cd Try.f9 [1,1,1,1,1]) e (kont Pg R Try.f9) (fun e => F9_j3 R) _ (by kernel_rfl) (fun e => F9_j3_ok R e) (den_conv Pg R (pre 0 (cd Try.f9 [1,1,1,1])) (cd Try.f9 [1,1,1,1,0]) e (setN (kont Pg R Try.f9) (fun e => F9_j3 R)) _ (by kernel_rfl) (F9_j4_ok R e)))
def F9_j1 (R : ER) (x1 x5 : Value) : WP :=
  pv (lenS x1) fun v46 =>
  pv (bin .gtr v46 (.int .i64 60)) fun v47 =>
  cnd v47 (
   cal Pg R 11 ⟨[]⟩ fun v48 =>
   R (.returned v48)) (
   F9_j2 R x1 x5)
theorem F9_j1_ok (R : ER) (e : Env) : den Pg R (cd Try.f9 [1,1,1]) e (kont Pg R Try.f9) = (F9_j1 R (e 1) (e 5)) := (den_join Pg R 0 (cd Try.f9 [1,1,1]) (cd Try.f9 [1,1,1,1]) e (kont Pg R Try.f9) (fun e => F9_j2 R (e 1) (e 5)) _ (by kernel_rfl) (fun e => F9_j2_ok R e) (by kernel_rfl))
def F9 (R : ER) (x0 x1 : Value) : WP :=
  bx 23 x0 fun v49 =>
  ldN 4 v49 fun v50 =>
  cal Pg R 10 ⟨[v50]⟩ fun v51 =>
  pv (extO 0 v51) fun v52 =>
  pv (extO 1 v51) fun v53 =>
  pv (unO .not v53) fun v54 =>
  cnd v54 (
   R (.returned (.bool false))) (
   F9_j1 R x1 v52)
theorem orpimentlaw35_LinksTalks_den (R : ER) (x0 x1 : Value) : den Pg R (cd Try.f9 []) (argsEnv [x0, x1]) (kont Pg R Try.f9) = F9 R x0 x1 :=
  have h : ∀ e, den Pg R (cd Try.f9 []) e (kont Pg R Try.f9) = F9 R (e 0) (e 1) := fun e => (den_join Pg R 2 (cd Try.f9 []) (cd Try.f9 [1,1,1]) e (kont Pg R Try.f9) (fun e => F9_j1 R (e 1) (e 5)) _ (by kernel_rfl) (fun e => F9_j1_ok R e) (by kernel_rfl))
  h _
theorem F9_calls {R : ER} {x0 x1 : Value} {w : World} (h : F9 R x0 x1 w) : Calls Pg 9 ⟨[x0, x1]⟩ w R :=
  calls_of_den Try.func9 (by kernel_rfl) (by kernel_rfl) (orpimentlaw35_LinksTalks_den R x0 x1) h
/-! ### 10: F10 -/
def F10_j1 (R : ER) (x4 : Value) : WP :=
  R (.returned (.tuple ⟨[x4, (.bool true)]⟩))
theorem F10_j1_ok (R : ER) (e : Env) : den Pg R (cd Try.f10 [1,1,1]) e (kont Pg R Try.f10) = (F10_j1 R (e 4)) := by kernel_rfl
def F10_j4 (R : ER) (k1 : V3) (x1 x4 x10 : Value) : WP :=
  drewV (
  pv (faO 0 x1) fun v1 =>
  ld1 v1 fun v2 =>
  pv (cvI .u64 v2) fun v3 =>
  pv (bin .rem v3 (.int .u64 3)) fun v4 =>
  pv (cvI .i64 v4) fun v5 =>
  pv (bin .add (.int .i64 1) v5) fun v6 =>
  pv (faO 1 x1) fun v7 =>
  ld1 v7 fun v8 =>
  pv (cvI .u64 v8) fun v9 =>
  pv (bin .rem v9 (.int .u64 64)) fun v10 =>
  pv (cvI .i64 v10) fun v11 =>
  pv (bin .add (.int .i64 32) v11) fun v12 =>
  pv (faO 2 x1) fun v13 =>
  ld1 v13 fun v14 =>
  pv (cvI .u64 v14) fun v15 =>
  pv (bin .rem v15 (.int .u64 3)) fun v16 =>
  pv (cvI .i64 v16) fun v17 =>
  pv (faO 3 x1) fun v18 =>
  ld1 v18 fun v19 =>
  pv (cvI .u64 v19) fun v20 =>
  pv (bin .rem v20 (.int .u64 30)) fun v21 =>
  pv (cvI .i64 v21) fun v22 =>
  pv (bin .add (.int .i64 1) v22) fun v23 =>
  mem fun w25 => cal Pg noR 29 ⟨[v6, v12, v17, v23]⟩ fun v24 =>
  pv (extO 0 v24) fun v26 =>
  pv (extO 1 v24) fun v27 =>
  pv (nilO x4) fun v28 =>
  pv (faO 0 v28) fun v29 =>
  pv (ixA 2 1 v29 x10) fun v30 =>
  mem fun w32 => st1 v30 v26 fun v31 =>
  drewV (
  pv (faO 0 x1) fun v33 =>
  ld1 v33 fun v34 =>
  pv (cvI .u64 v34) fun v35 =>
  pv (bin .rem v35 (.int .u64 3)) fun v36 =>
  pv (cvI .i64 v36) fun v37 =>
  pv (bin .add (.int .i64 1) v37) fun v38 =>
  pv (faO 1 x1) fun v39 =>
  ld1 v39 fun v40 =>
  pv (cvI .u64 v40) fun v41 =>
  pv (bin .rem v41 (.int .u64 64)) fun v42 =>
  pv (cvI .i64 v42) fun v43 =>
  pv (bin .add (.int .i64 32) v43) fun v44 =>
  pv (faO 2 x1) fun v45 =>
  ld1 v45 fun v46 =>
  pv (cvI .u64 v46) fun v47 =>
  pv (bin .rem v47 (.int .u64 3)) fun v48 =>
  pv (cvI .i64 v48) fun v49 =>
  pv (faO 3 x1) fun v50 =>
  ld1 v50 fun v51 =>
  pv (cvI .u64 v51) fun v52 =>
  pv (bin .rem v52 (.int .u64 30)) fun v53 =>
  pv (cvI .i64 v53) fun v54 =>
  pv (bin .add (.int .i64 1) v54) fun v55 =>
  mem fun w57 => cal Pg noR 30 ⟨[v38, v44, v49, v55]⟩ fun v56 =>
  pv (extO 0 v56) fun v58 =>
  pv (extO 1 v56) fun v59 =>
  pv (nilO x4) fun v60 =>
  pv (faO 2 v60) fun v61 =>
  pv (ixA 2 1 v61 x10) fun v62 =>
  mem fun w64 => st1 v62 v58 fun v63 =>
  pv (bin .neq v27 (.int .i64 0)) fun v65 =>
  gd v65 false (pv (some v59)) fun v66 =>
  gd v65 false (pv (bin .neq v66 (.int .i64 0))) fun v67 =>
  pv (pickO v65 (.bool true) v67) fun v68 =>
  cnd v68 (
   R (.returned (.tuple ⟨[(.pointer none), (.bool false)]⟩))) (
   pv (bin .add x10 (.int .i64 1)) fun v69 =>
  k1 x1 x4 v69)))
theorem F10_j4_ok (R : ER) (k1 : V3) (e : Env) : den Pg R (cd Try.f10 [1,1,0,1,0,0,1,1]) e (setN (inB 0 (setN (kont Pg R Try.f10) (fun e => F10_j1 R (e 4)))) (fun e => k1 (e 1) (e 4) (e 10))) = (F10_j4 R k1 (e 1) (e 4) (e 10)) := (by kernel_rfl)
def F10_b1 (R : ER) (k1 : V3) (x1 x4 x10 : Value) : WP :=
  pv (bin .lss x10 (.int .i64 2)) fun v70 =>
  cnd v70 (
   F10_j4 R k1 x1 x4 x10) (
   F10_j1 R x4)
theorem F10_b1_ok (R : ER) (k1 : V3) (e : Env) : den Pg R (cd Try.f10 [1,1,0,1,0,0]) e (setN (inB 0 (setN (kont Pg R Try.f10) (fun e => F10_j1 R (e 4)))) (fun e => k1 (e 1) (e 4) (e 10))) = (F10_b1 R k1 (e 1) (e 4) (e 10)) := (den_join Pg R 1 (cd Try.f10 [1,1,0,1,0,0]) (cd Try.f10 [1,1,0,1,0,0,1,1]) e (setN (inB 0 (setN (kont Pg R Try.f10) (fun e => F10_j1 R (e 4)))) (fun e => k1 (e 1) (e 4) (e 10))) (fun e => F10_j4 R k1 (e 1) (e 4) (e 10)) _ (by kernel_rfl) (fun e => F10_j4_ok R k1 e) (by kernel_rfl))
noncomputable def F10_l1 (R : ER) (n : Nat) : V3 := Nat.rec (motive := fun _ => V3) (fun _ _ _ => fun _ => False) (fun _ ih => fun x1 x4 x10 => F10_b1 R ih x1 x4 x10) n
theorem F10_l1_succ (R : ER) (n : Nat) (x1 x4 x10 : Value) : F10_l1 R (n + 1) x1 x4 x10 = F10_b1 R (F10_l1 R n) x1 x4 x10 := rfl
theorem F10_l1_ok (R : ER) : ∀ (n : Nat) (e : Env), iterL (den Pg R (cd Try.f10 [1,1,0,1,0,0])) n e (inB 0 (setN (kont Pg R Try.f10) (fun e => F10_j1 R (e 4)))) = F10_l1 R n (e 1) (e 4) (e 10) :=
  iterL_join (den Pg R (cd Try.f10 [1,1,0,1,0,0])) (inB 0 (setN (kont Pg R Try.f10) (fun e => F10_j1 R (e 4)))) (fun n e => F10_l1 R n (e 1) (e 4) (e 10)) (fun _ => rfl) (fun n e => (F10_b1_ok R (F10_l1 R n) e).trans (F10_l1_succ R n (e 1) (e 4) (e 10)).symm)
def F10_j3 (R : ER) (x1 x4 x10 : Value) : WP :=
  exN fun n => F10_l1 R n x1 x4 x10
theorem F10_j3_ok (R : ER) (e : Env) : den Pg R (cd Try.f10 [1,1,0,1]) e (setN (kont Pg R Try.f10) (fun e => F10_j1 R (e 4))) = (F10_j3 R (e 1) (e 4) (e 10)) := (den_block Pg R (cd Try.f10 [1,1,0,1]) 0 (cd Try.f10 [1,1,0,1,0]) e (setN (kont Pg R Try.f10) (fun e => F10_j1 R (e 4))) _ (by kernel_rfl) (den_loop Pg R (cd Try.f10 [1,1,0,1,0]) (cd Try.f10 [1,1,0,1,0,0]) e (inB 0 (setN (kont Pg R Try.f10) (fun e => F10_j1 R (e 4)))) (fun n e => F10_l1 R n (e 1) (e 4) (e 10)) _ (by kernel_rfl) (F10_l1_ok R) (by kernel_rfl)))
def F10_j2 (R : ER) (x1 x4 : Value) : WP :=
  F10_j3 R x1 x4 (.int .i64 0)
theorem F10_j2_ok (R : ER) (e : Env) : den Pg R (cd Try.f10 [1,1,0]) e (setN (kont Pg R Try.f10) (fun e => F10_j1 R (e 4))) = (F10_j2 R (e 1) (e 4)) := (den_join Pg R 0 (cd Try.f10 [1,1,0]) (cd Try.f10 [1,1,0,1]) e (setN (kont Pg R Try.f10) (fun e => F10_j1 R (e 4))) (fun e => F10_j3 R (e 1) (e 4) (e 10)) _ (by kernel_rfl) (fun e => F10_j3_ok R e) (by kernel_rfl))
def F10 (R : ER) (x0 : Value) : WP :=
  bx 23 x0 fun v71 =>
  pv (bldO [.pointer none, .pointer none, .pointer none, .pointer none, .slice none 0 0, .int .i64 0, .slice none 0 0, .slice none 0 0, .slice none 0 0, .slice none 0 0] []) fun v72 =>
  bx 39 v72 fun v73 =>
  F10_j2 R v71 v73
theorem orpimentlaw35_begin_den (R : ER) (x0 : Value) : den Pg R (cd Try.f10 []) (argsEnv [x0]) (kont Pg R Try.f10) = F10 R x0 :=
  have h : ∀ e, den Pg R (cd Try.f10 []) e (kont Pg R Try.f10) = F10 R (e 0) := fun e => (den_join Pg R 2 (cd Try.f10 []) (cd Try.f10 [1,1,1]) e (kont Pg R Try.f10) (fun e => F10_j1 R (e 4)) _ (by kernel_rfl) (fun e => F10_j1_ok R e) (den_join Pg R 1 (pre 2 (cd Try.f10 [])) (cd Try.f10 [1,1,0]) e (setN (kont Pg R Try.f10) (fun e => F10_j1 R (e 4))) (fun e => F10_j2 R (e 1) (e 4)) _ (by kernel_rfl) (fun e => F10_j2_ok R e) (by kernel_rfl)))
  h _
theorem F10_calls {R : ER} {x0 : Value} {w : World} (h : F10 R x0 w) : Calls Pg 10 ⟨[x0]⟩ w R :=
  calls_of_den Try.func10 (by kernel_rfl) (by kernel_rfl) (orpimentlaw35_begin_den R x0) h
/-! ### 11: F11 -/
def F11_j1 (R : ER) (x1 : Value) : WP :=
  valV Pg R (Instr.makeSlice 24 (.int .i64 20) (.int .i64 20)) fun v1 =>
  cal Pg R 12 ⟨[x1, v1, (.int .i64 0)]⟩ fun v2 =>
  pv (extO 0 v2) fun v3 =>
  pv (extO 1 v2) fun v4 =>
  cal Pg R 14 ⟨[x1, (.int .i64 0)]⟩ fun v5 =>
  pv (extO 0 v5) fun v6 =>
  pv (extO 1 v5) fun v7 =>
  cal Pg R 13 ⟨[x1]⟩ fun v8 =>
  pv (extO 0 v8) fun v9 =>
  pv (extO 1 v8) fun v10 =>
  pv (bin .eql v4 (.int .i64 0)) fun v11 =>
  gd v11 true (pv (some v3)) fun v12 =>
  gd v11 true (pv (bin .eql v12 (.int .i64 1))) fun v13 =>
  pv (pickO v11 v13 (.bool false)) fun v14 =>
  gd v14 true (pv (some v7)) fun v15 =>
  gd v14 true (pv (bin .eql v15 (.int .i64 0))) fun v16 =>
  pv (pickO v14 v16 (.bool false)) fun v17 =>
  gd v17 true (pv (some v6)) fun v18 =>
  gd v17 true (pv (lenS v18)) fun v19 =>
  gd v17 true (pv (bin .eql v19 (.int .i64 3))) fun v20 =>
  pv (pickO v17 v20 (.bool false)) fun v21 =>
  gd v21 true (pv (some v6)) fun v22 =>
  gd v21 true (pv (ixS 2 v22 (.int .i64 2))) fun v23 =>
  gd v21 true (pv (faO 1 v23)) fun v24 =>
  gd v21 true (ld1 v24) fun v25 =>
  gd v21 true (pv (lenS v25)) fun v26 =>
  gd v21 true (pv (bin .eql v26 (.int .i64 28))) fun v27 =>
  pv (pickO v21 v27 (.bool false)) fun v28 =>
  gd v28 true (pv (some v9)) fun v29 =>
  gd v28 true (pv (bin .eql v29 (.int .i64 10))) fun v30 =>
  pv (pickO v28 v30 (.bool false)) fun v31 =>
  gd v31 true (pv (some v10)) fun v32 =>
  pv (pickO v31 v32 (.bool false)) fun v33 =>
  R (.returned v33)
theorem F11_j1_ok (R : ER) (e : Env) : den Pg R (cd Try.f11 [1,1,1]) e (kont Pg R Try.f11) = (F11_j1 R (e 1)) := by kernel_rfl
def F11 (R : ER) : WP :=
  cal Pg R 29 ⟨[(.int .i64 2), (.int .i64 32), (.int .i64 0), (.int .i64 10)]⟩ fun v34 =>
  pv (extO 0 v34) fun v35 =>
  pv (extO 1 v34) fun v36 =>
  pv (bin .neq v36 (.int .i64 0)) fun v37 =>
  gd v37 false (pv (some v35)) fun v38 =>
  gd v37 false (pv (eqNilP v38)) fun v39 =>
  pv (pickO v37 (.bool true) v39) fun v40 =>
  cnd v40 (
   R (.returned (.bool false))) (
   F11_j1 R v35)
theorem orpimentlaw35_awake_den (R : ER) : den Pg R (cd Try.f11 []) (argsEnv []) (kont Pg R Try.f11) = F11 R :=
  have h : ∀ e, den Pg R (cd Try.f11 []) e (kont Pg R Try.f11) = F11 R := fun e => (den_join Pg R 2 (cd Try.f11 []) (cd Try.f11 [1,1,1]) e (kont Pg R Try.f11) (fun e => F11_j1 R (e 1)) _ (by kernel_rfl) (fun e => F11_j1_ok R e) (by kernel_rfl))
  h _
theorem F11_calls {R : ER} {w : World} (h : F11 R w) : Calls Pg 11 ⟨[]⟩ w R :=
  calls_of_den Try.func11 (by kernel_rfl) (by kernel_rfl) (orpimentlaw35_awake_den R) h
/-! ### 12: F12 -/
def F12_b1 (R : ER) (N : WP) (Bk : WP) (Rt : WP) (x3 x9 x10 : Value) : WP :=
  drewV (
  ld1 x3 fun v1 =>
  ld1 x3 fun v2 =>
  pv (nilO v2) fun v3 =>
  pv (faO 5 v3) fun v4 =>
  ld1 v4 fun v5 =>
  ld1 x3 fun v6 =>
  pv (nilO v6) fun v7 =>
  pv (faO 6 v7) fun v8 =>
  ld1 v8 fun v9 =>
  mem fun w11 => cal Pg noR 26 ⟨[x10]⟩ fun v10 =>
  rd1 v8 v9 <|
  rd1 x3 v6 <|
  rd1 v4 v5 <|
  rd1 x3 v2 <|
  rd1 x3 v1 <|
  pv (bldO [.int .i64 0, .bool false, .int .i64 0, .int .i64 0, .slice none 0 0] [(0,1, (.int .i64 1)), (2,1, v9), (3,1, x9), (4,1, v10)]) fun v12 =>
  pv (bldO [.int .i64 0, .bool false, .int .i64 0, .int .i64 0, .slice none 0 0, .int .i64 0] [(0,5, v12), (5,1, (.int .i64 (-1)))]) fun v13 =>
  mem fun w15 => valV Pg noR (Instr.buildSlice 93 1 ⟨[(0, v13)]⟩) fun v14 =>
  rd1 v4 v5 <|
  rd1 x3 v2 <|
  rd1 x3 v1 <|
  mem fun w17 => blt Pg noR .append ⟨[93,93]⟩ 93 ⟨[false, false]⟩ ⟨[v5, v14]⟩ fun v16 =>
  rd1 x3 v1 <|
  pv (nilO v1) fun v18 =>
  pv (faO 5 v18) fun v19 =>
  mem fun w21 => st1 v19 v16 fun v20 =>
  N)
theorem F12_b1_ok (R : ER) (N : WP) (Bk : WP) (Rt : WP) (e : Env) : den Pg R (cd Try.f12 [1,1,1,1,1,1,1,1,0,1,0,1]) e (kontN 0 N Bk Rt) = (F12_b1 R N Bk Rt (e 3) (e 9) (e 10)) := by kernel_rfl
def links_Link_Send_af (R : ER) (x3 x6 x7 x54 : Value) : WP :=
  drewV (
  ld1 x3 fun v22 =>
  pv (nilO v22) fun v23 =>
  pv (faO 5 v23) fun v24 =>
  ld1 v24 fun v25 =>
  ld1 x3 fun v26 =>
  pv (nilO v26) fun v27 =>
  pv (faO 5 v27) fun v28 =>
  ld1 v28 fun v29 =>
  pv (lenS v29) fun v30 =>
  pv (bin .sub v30 (.int .i64 1)) fun v31 =>
  pv (ixS 6 v25 v31) fun v32 =>
  pv (faO 0 v32) fun v33 =>
  pv (faO 1 v33) fun v34 =>
  mem fun w36 => st1 v34 (.bool true) fun v35 =>
  ld1 x3 fun v37 =>
  pv (nilO v37) fun v38 =>
  pv (faO 6 v38) fun v39 =>
  ld1 v39 fun v40 =>
  R (.returned (.tuple ⟨[v40, (.int .i64 0)]⟩)))
def links_Link_Send_rt (R : ER) (x3 x6 x7 x54 : Value) : WP :=
  R (.returned (.tuple ⟨[x6, x7]⟩))
def links_Link_Send_rb (x3 x6 x7 x54 : Value) (B : WP → WP) (N Bk Rt : WP) (p0 p1 : Value) : WP :=
  B (F12_b1 noR N Bk Rt x3 p0 p1)
def links_Link_Send_rf (R : ER) (x3 x6 x7 x54 : Value) : WP :=
  rngP Pg R 0 x54 (fun B N Bk Rt ys => rbm2 (links_Link_Send_rb x3 x6 x7 x54 B N Bk Rt) ys) (fun R' => links_Link_Send_af R' x3 x6 x7 x54) (fun R' => links_Link_Send_rt R' x3 x6 x7 x54)
def F12 (R : ER) (x0 x1 x2 : Value) : WP :=
  bx 31 x0 fun v41 =>
  ld1 v41 fun v42 =>
  pv (eqNilP v42) fun v43 =>
  cnd v43 (
   R (.returned (.tuple ⟨[(.int .i64 0), (.int .i64 35)]⟩))) (
   pv (lenS x1) fun v44 =>
  pv (bin .gtr v44 (.int .i64 4096)) fun v45 =>
  cnd v45 (
   R (.returned (.tuple ⟨[(.int .i64 0), (.int .i64 20)]⟩))) (
   ld1 v41 fun v46 =>
  cal Pg R 34 ⟨[v46, x2]⟩ fun v47 =>
  pv (bin .neq v47 (.int .i64 0)) fun v48 =>
  cnd v48 (
   R (.returned (.tuple ⟨[(.int .i64 0), v47]⟩))) (
   drewV (
  ld1 v41 fun v49 =>
  pv (nilO v49) fun v50 =>
  pv (faO 6 v50) fun v51 =>
  ld1 v51 fun v52 =>
  ld1 v41 fun v53 =>
  pv (nilO v53) fun v54 =>
  pv (faO 7 v54) fun v55 =>
  ld1 v55 fun v56 =>
  pv (bin .sub v52 v56) fun v57 =>
  pv (bin .geq v57 (.int .i64 64)) fun v58 =>
  cnd v58 (
   R (.returned (.tuple ⟨[(.int .i64 0), (.int .i64 2)]⟩))) (
   ld1 v41 fun v59 =>
  pv (nilO v59) fun v60 =>
  pv (faO 6 v60) fun v61 =>
  ld1 v61 fun v62 =>
  pv (bin .geq v62 (.int .i64 1099511627776)) fun v63 =>
  cnd v63 (
   R (.returned (.tuple ⟨[(.int .i64 0), (.int .i64 18)]⟩))) (
   ld1 v41 fun v64 =>
  pv (nilO v64) fun v65 =>
  pv (faO 4 v65) fun v66 =>
  st1 v66 x2 fun _ =>
  ld1 v41 fun v67 =>
  pv (nilO v67) fun v68 =>
  pv (faO 6 v68) fun v69 =>
  ld1 v69 fun v70 =>
  pv (bin .add v70 (.int .i64 1)) fun v71 =>
  pv (nilO v67) fun v72 =>
  pv (faO 6 v72) fun v73 =>
  st1 v73 v71 fun _ =>
  ld1 v41 fun v74 =>
  pv (nilO v74) fun v75 =>
  pv (faO 1 v75) fun v76 =>
  ld1 v76 fun v77 =>
  pv (bin .sub v77 (.int .i64 24)) fun v78 =>
  cal Pg R 35 ⟨[x1, v78]⟩ fun v79 =>
  links_Link_Send_rf R v41 (.int .i64 0) (.int .i64 0) v79))))))
theorem F12_calls {R : ER} {x0 x1 x2 : Value} {w : World} (h : F12 R x0 x1 x2 w) : Calls Pg 12 ⟨[x0, x1, x2]⟩ w R :=
  calls_of_rf (p := [1,1,1,1,1,1,1,1,0,1]) (bi := 0) (g := rfOp (cd Try.f12 [1,1,1,1,1,1,1,1,0,1,0])) (ps := [55,56]) (assign := cd Try.f12 [1,1,1,1,1,1,1,1,0,1,0,0]) (body := cd Try.f12 [1,1,1,1,1,1,1,1,0,1,0,1]) (RF := fun e => links_Link_Send_rf R (e 3) (e 6) (e 7) (e 54)) Try.func12 (by kernel_rfl) (by kernel_rfl) (by kernel_rfl)
    (fun e => rngP_congr (fun B N Bk Rt ys => denR_2 (f := links_Link_Send_rb (e 3) (e 6) (e 7) (e 54) B N Bk Rt) (fun p0 p1 => den_begin (fun e' => F12_b1 noR N Bk Rt (e' 3) (e' 9) (e' 10)) (fun e' => F12_b1_ok noR N Bk Rt e') (by kernel_rfl)) ys) (fun R' => by kernel_rfl) (fun R' => by kernel_rfl))
    (by have hh : ∀ e, den Pg R (preP [1,1,1,1,1,1,1,1,0,1] (cd Try.f12 [])) e { n := fun e => links_Link_Send_rf R (e 3) (e 6) (e 7) (e 54), x := fun _ _ _ => False, r := resV Pg R (Try.f12).results.toList } = F12 R (e 0) (e 1) (e 2) := (fun e => by kernel_rfl)
        exact hh _) h
/-! ### 13: F13 -/
def F13_j2 (R : ER) : WP :=
  R (.returned (.tuple ⟨[(.int .i64 0), (.bool false)]⟩))
theorem F13_j2_ok (R : ER) (e : Env) : den Pg R (cd Try.f13 [1,1,1,1]) e (kont Pg R Try.f13) = (F13_j2 R) := by kernel_rfl
def F13_j7 (R : ER) (x0 x4 : Value) : WP :=
  drewV (
  pv (nilO x0) fun v1 =>
  pv (faO 4 v1) fun v2 =>
  ld1 v2 fun v3 =>
  pv (ixS 6 x4 (.int .i64 0)) fun v4 =>
  pv (faO 5 v4) fun v5 =>
  ld1 v5 fun v6 =>
  pv (nilO x0) fun v7 =>
  pv (faO 3 v7) fun v8 =>
  ld1 v8 fun v9 =>
  pv (bin .add v6 v9) fun v10 =>
  pv (max2I v3 v10) fun v11 =>
  R (.returned (.tuple ⟨[v11, (.bool true)]⟩)))
theorem F13_j7_ok (R : ER) (e : Env) : den Pg R (cd Try.f13 [1,1,1,0,0,1,1,1,0]) e (inB 0 (setN (kont Pg R Try.f13) (fun e => F13_j2 R))) = (F13_j7 R (e 0) (e 4)) := by kernel_rfl
def F13_j6 (R : ER) (x0 x4 x37 : Value) : WP :=
  cnd x37 (F13_j7 R x0 x4) (F13_j2 R)
theorem F13_j6_ok (R : ER) (e : Env) : den Pg R (cd Try.f13 [1,1,1,0,0,1,1,1]) e (inB 0 (setN (kont Pg R Try.f13) (fun e => F13_j2 R))) = (F13_j6 R (e 0) (e 4) (e 37)) := (den_if Pg R (cd Try.f13 [1,1,1,0,0,1,1,1]) (cd Try.f13 [1,1,1,0,0,1,1,1,0]) (cd Try.f13 [1,1,1,0,0,1,1,1,1]) e (inB 0 (setN (kont Pg R Try.f13) (fun e => F13_j2 R))) (F13_j7 R (e 0) (e 4)) _ _ (by kernel_rfl) (F13_j7_ok R e) rfl (by kernel_rfl))
def F13_j5 (R : ER) (x0 x4 : Value) : WP :=
  pv (lenS x4) fun v12 =>
  pv (bin .gtr v12 (.int .i64 0)) fun v13 =>
  F13_j6 R x0 x4 v13
theorem F13_j5_ok (R : ER) (e : Env) : den Pg R (cd Try.f13 [1,1,1,0,0,1,1]) e (inB 0 (setN (kont Pg R Try.f13) (fun e => F13_j2 R))) = (F13_j5 R (e 0) (e 4)) := (den_join Pg R 0 (cd Try.f13 [1,1,1,0,0,1,1]) (cd Try.f13 [1,1,1,0,0,1,1,1]) e (inB 0 (setN (kont Pg R Try.f13) (fun e => F13_j2 R))) (fun e => F13_j6 R (e 0) (e 4) (e 37)) _ (by kernel_rfl) (fun e => F13_j6_ok R e) (by kernel_rfl))
def F13_j4 (R : ER) (x0 x4 x24 : Value) : WP :=
  cnd x24 (pv (nilO x0) fun v14 =>
  pv (faO 4 v14) fun v15 =>
  ld1 v15 fun v16 =>
  R (.returned (.tuple ⟨[v16, (.bool true)]⟩))) (F13_j5 R x0 x4)
theorem F13_j4_ok (R : ER) (e : Env) : den Pg R (cd Try.f13 [1,1,1,0,0,1]) e (inB 0 (setN (kont Pg R Try.f13) (fun e => F13_j2 R))) = (F13_j4 R (e 0) (e 4) (e 24)) := (den_if Pg R (cd Try.f13 [1,1,1,0,0,1]) (cd Try.f13 [1,1,1,0,0,1,0]) (cd Try.f13 [1,1,1,0,0,1,1]) e (inB 0 (setN (kont Pg R Try.f13) (fun e => F13_j2 R))) _ (F13_j5 R (e 0) (e 4)) _ (by kernel_rfl) rfl (F13_j5_ok R e) (by kernel_rfl))
def F13_j3 (R : ER) (x0 x4 : Value) : WP :=
  pv (nilO x0) fun v17 =>
  pv (faO 17 v17) fun v18 =>
  ld1 v18 fun v19 =>
  pv (lenS v19) fun v20 =>
  pv (bin .gtr v20 (.int .i64 0)) fun v21 =>
  cnd v21 (
   F13_j4 R x0 x4 v21) (
   cal Pg R 36 ⟨[x4, (.func (.func 37) ⟨[]⟩ ⟨[]⟩)]⟩ fun v22 =>
   F13_j4 R x0 x4 v22)
theorem F13_j3_ok (R : ER) (e : Env) : den Pg R (cd Try.f13 [1,1,1,0]) e (setN (kont Pg R Try.f13) (fun e => F13_j2 R)) = (F13_j3 R (e 0) (e 4)) := (den_block Pg R (cd Try.f13 [1,1,1,0]) 0 (cd Try.f13 [1,1,1,0,0]) e (setN (kont Pg R Try.f13) (fun e => F13_j2 R)) _ (by kernel_rfl) (den_join Pg R 0 (cd Try.f13 [1,1,1,0,0]) (cd Try.f13 [1,1,1,0,0,1]) e (inB 0 (setN (kont Pg R Try.f13) (fun e => F13_j2 R))) (fun e => F13_j4 R (e 0) (e 4) (e 24)) _ (by kernel_rfl) (fun e => F13_j4_ok R e) (by kernel_rfl)))
def F13_j1 (R : ER) (x0 : Value) : WP :=
  drewV (
  pv (nilO x0) fun v23 =>
  pv (faO 5 v23) fun v24 =>
  ld1 v24 fun v25 =>
  pv (nilO x0) fun v26 =>
  pv (faO 5 v26) fun v27 =>
  ld1 v27 fun v28 =>
  pv (lenS v28) fun v29 =>
  pv (min2I (.int .i64 8) v29) fun v30 =>
  pv (slS 6 v25 none (some v30)) fun v31 =>
  F13_j3 R x0 v31)
theorem F13_j1_ok (R : ER) (e : Env) : den Pg R (cd Try.f13 [1,1]) e (kont Pg R Try.f13) = (F13_j1 R (e 0)) := (den_join Pg R 1 (cd Try.f13 [1,1]) (cd Try.f13 [1,1,1,1]) e (kont Pg R Try.f13) (fun e => F13_j2 R) _ (by kernel_rfl) (fun e => F13_j2_ok R e) (den_join Pg R 0 (pre 1 (cd Try.f13 [1,1])) (cd Try.f13 [1,1,1,0]) e (setN (kont Pg R Try.f13) (fun e => F13_j2 R)) (fun e => F13_j3 R (e 0) (e 4)) _ (by kernel_rfl) (fun e => F13_j3_ok R e) (by kernel_rfl)))
def F13 (R : ER) (x0 : Value) : WP :=
  pv (eqNilP x0) fun v32 =>
  gd v32 false (pv (some x0)) fun v33 =>
  gd v32 false (pv (nilO v33)) fun v34 =>
  gd v32 false (pv (faO 10 v34)) fun v35 =>
  gd v32 false (ld1 v35) fun v36 =>
  pv (pickO v32 (.bool true) v36) fun v37 =>
  cnd v37 (
   R (.returned (.tuple ⟨[(.int .i64 0), (.bool false)]⟩))) (
   F13_j1 R x0)
theorem links_Link_Next_den (R : ER) (x0 : Value) : den Pg R (cd Try.f13 []) (argsEnv [x0]) (kont Pg R Try.f13) = F13 R x0 :=
  have h : ∀ e, den Pg R (cd Try.f13 []) e (kont Pg R Try.f13) = F13 R (e 0) := fun e => (den_join Pg R 1 (cd Try.f13 []) (cd Try.f13 [1,1]) e (kont Pg R Try.f13) (fun e => F13_j1 R (e 0)) _ (by kernel_rfl) (fun e => F13_j1_ok R e) (by kernel_rfl))
  h _
theorem F13_calls {R : ER} {x0 : Value} {w : World} (h : F13 R x0 w) : Calls Pg 13 ⟨[x0]⟩ w R :=
  calls_of_den Try.func13 (by kernel_rfl) (by kernel_rfl) (links_Link_Next_den R x0) h
/-! ### 14: F14 -/
def F14_j7 (R : ER) (x10 : Value) : WP :=
  R (.returned (.tuple ⟨[x10, (.int .i64 0)]⟩))
theorem F14_j7_ok (R : ER) (e : Env) : den Pg R (cd Try.f14 [1,1,1,1,1,1,1,1,1,1,1,1,1,1]) e (kont Pg R Try.f14) = (F14_j7 R (e 10)) := by kernel_rfl
def F14_j11 (R : ER) (k1 : V7) (x0 x1 x7 x8 x10 x139 x140 : Value) : WP :=
  pv (bin .add x140 (.int .i64 1)) fun v1 =>
  k1 x0 x1 x7 x8 x10 x139 v1
theorem F14_j11_ok (R : ER) (k1 : V7) (e : Env) : den Pg R (cd Try.f14 [1,1,1,1,1,1,1,1,1,1,1,1,1,0,1,0,0,1,1,1]) e (setN (inB 2 (setN (kont Pg R Try.f14) (fun e => F14_j7 R (e 10)))) (fun e => k1 (e 0) (e 1) (e 7) (e 8) (e 10) (e 139) (e 140))) = (F14_j11 R k1 (e 0) (e 1) (e 7) (e 8) (e 10) (e 139) (e 140)) := by kernel_rfl
def F14_j15 (R : ER) (k1 : V7) (k2 : V11) (x0 x1 x7 x8 x10 x16 x139 x140 x164 x165 x166 : Value) : WP :=
  pv (ixS 1 x164 x166) fun v2 =>
  ld1 v2 fun v3 =>
  pv (nilO x16) fun v4 =>
  pv (faO 0 v4) fun v5 =>
  ldN 5 v5 fun v6 =>
  cal Pg R 16 ⟨[v6]⟩ fun v7 =>
  pv (extO 0 v7) fun v8 =>
  pv (extO 1 v7) fun v9 =>
  pv (bldO [.int .i64 0, .slice none 0 0] [(0,1, v3), (1,1, v8)]) fun v10 =>
  valV Pg R (Instr.buildSlice 43 1 ⟨[(0, v10)]⟩) fun v11 =>
  blt Pg R .append ⟨[43,43]⟩ 43 ⟨[false, false]⟩ ⟨[x10, v11]⟩ fun v12 =>
  pv (bin .add x166 (.int .i64 1)) fun v13 =>
  k2 x0 x1 x7 x8 v12 x16 x139 x140 x164 x165 v13
theorem F14_j15_ok (R : ER) (k1 : V7) (k2 : V11) (e : Env) : den Pg R (cd Try.f14 [1,1,1,1,1,1,1,1,1,1,1,1,1,0,1,0,0,1,1,0,0,1,1,1,1,1,0,0,1,1]) e (setN (inB 4 (inB 3 (setN (setN (inB 2 (setN (kont Pg R Try.f14) (fun e => F14_j7 R (e 10)))) (fun e => k1 (e 0) (e 1) (e 7) (e 8) (e 10) (e 139) (e 140))) (fun e => F14_j11 R k1 (e 0) (e 1) (e 7) (e 8) (e 10) (e 139) (e 140))))) (fun e => k2 (e 0) (e 1) (e 7) (e 8) (e 10) (e 16) (e 139) (e 140) (e 164) (e 165) (e 166))) = (F14_j15 R k1 k2 (e 0) (e 1) (e 7) (e 8) (e 10) (e 16) (e 139) (e 140) (e 164) (e 165) (e 166)) := by kernel_rfl
def F14_b2 (R : ER) (k1 : V7) (k2 : V11) (x0 x1 x7 x8 x10 x16 x139 x140 x164 x165 x166 : Value) : WP :=
  pv (bin .lss x166 x165) fun v14 =>
  cnd v14 (
   F14_j15 R k1 k2 x0 x1 x7 x8 x10 x16 x139 x140 x164 x165 x166) (
   F14_j11 R k1 x0 x1 x7 x8 x10 x139 x140)
theorem F14_b2_ok (R : ER) (k1 : V7) (k2 : V11) (e : Env) : den Pg R (cd Try.f14 [1,1,1,1,1,1,1,1,1,1,1,1,1,0,1,0,0,1,1,0,0,1,1,1,1,1,0,0]) e (setN (inB 4 (inB 3 (setN (setN (inB 2 (setN (kont Pg R Try.f14) (fun e => F14_j7 R (e 10)))) (fun e => k1 (e 0) (e 1) (e 7) (e 8) (e 10) (e 139) (e 140))) (fun e => F14_j11 R k1 (e 0) (e 1) (e 7) (e 8) (e 10) (e 139) (e 140))))) (fun e => k2 (e 0) (e 1) (e 7) (e 8) (e 10) (e 16) (e 139) (e 140) (e 164) (e 165) (e 166))) = (F14_b2 R k1 k2 (e 0) (e 1) (e 7) (e 8) (e 10) (e 16) (e 139) (e 140) (e 164) (e 165) (e 166)) := (den_join Pg R 1 (cd Try.f14 [1,1,1,1,1,1,1,1,1,1,1,1,1,0,1,0,0,1,1,0,0,1,1,1,1,1,0,0]) (cd Try.f14 [1,1,1,1,1,1,1,1,1,1,1,1,1,0,1,0,0,1,1,0,0,1,1,1,1,1,0,0,1,1]) e (setN (inB 4 (inB 3 (setN (setN (inB 2 (setN (kont Pg R Try.f14) (fun e => F14_j7 R (e 10)))) (fun e => k1 (e 0) (e 1) (e 7) (e 8) (e 10) (e 139) (e 140))) (fun e => F14_j11 R k1 (e 0) (e 1) (e 7) (e 8) (e 10) (e 139) (e 140))))) (fun e => k2 (e 0) (e 1) (e 7) (e 8) (e 10) (e 16) (e 139) (e 140) (e 164) (e 165) (e 166))) (fun e => F14_j15 R k1 k2 (e 0) (e 1) (e 7) (e 8) (e 10) (e 16) (e 139) (e 140) (e 164) (e 165) (e 166)) _ (by kernel_rfl) (fun e => F14_j15_ok R k1 k2 e) (by kernel_rfl))
noncomputable def F14_l1 (R : ER) (k1 : V7) (n : Nat) : V11 := Nat.rec (motive := fun _ => V11) (fun _ _ _ _ _ _ _ _ _ _ _ => fun _ => False) (fun _ ih => fun x0 x1 x7 x8 x10 x16 x139 x140 x164 x165 x166 => F14_b2 R k1 ih x0 x1 x7 x8 x10 x16 x139 x140 x164 x165 x166) n
theorem F14_l1_succ (R : ER) (k1 : V7) (n : Nat) (x0 x1 x7 x8 x10 x16 x139 x140 x164 x165 x166 : Value) : F14_l1 R k1 (n + 1) x0 x1 x7 x8 x10 x16 x139 x140 x164 x165 x166 = F14_b2 R k1 (F14_l1 R k1 n) x0 x1 x7 x8 x10 x16 x139 x140 x164 x165 x166 := rfl
theorem F14_l1_ok (R : ER) (k1 : V7) : ∀ (n : Nat) (e : Env), iterL (den Pg R (cd Try.f14 [1,1,1,1,1,1,1,1,1,1,1,1,1,0,1,0,0,1,1,0,0,1,1,1,1,1,0,0])) n e (inB 4 (inB 3 (setN (setN (inB 2 (setN (kont Pg R Try.f14) (fun e => F14_j7 R (e 10)))) (fun e => k1 (e 0) (e 1) (e 7) (e 8) (e 10) (e 139) (e 140))) (fun e => F14_j11 R k1 (e 0) (e 1) (e 7) (e 8) (e 10) (e 139) (e 140))))) = F14_l1 R k1 n (e 0) (e 1) (e 7) (e 8) (e 10) (e 16) (e 139) (e 140) (e 164) (e 165) (e 166) :=
  iterL_join (den Pg R (cd Try.f14 [1,1,1,1,1,1,1,1,1,1,1,1,1,0,1,0,0,1,1,0,0,1,1,1,1,1,0,0])) (inB 4 (inB 3 (setN (setN (inB 2 (setN (kont Pg R Try.f14) (fun e => F14_j7 R (e 10)))) (fun e => k1 (e 0) (e 1) (e 7) (e 8) (e 10) (e 139) (e 140))) (fun e => F14_j11 R k1 (e 0) (e 1) (e 7) (e 8) (e 10) (e 139) (e 140))))) (fun n e => F14_l1 R k1 n (e 0) (e 1) (e 7) (e 8) (e 10) (e 16) (e 139) (e 140) (e 164) (e 165) (e 166)) (fun _ => rfl) (fun n e => (F14_b2_ok R k1 (F14_l1 R k1 n) e).trans (F14_l1_succ R k1 n (e 0) (e 1) (e 7) (e 8) (e 10) (e 16) (e 139) (e 140) (e 164) (e 165) (e 166)).symm)
def F14_j14 (R : ER) (k1 : V7) (x0 x1 x7 x8 x10 x16 x139 x140 x164 x165 x166 : Value) : WP :=
  exN fun n => F14_l1 R k1 n x0 x1 x7 x8 x10 x16 x139 x140 x164 x165 x166
theorem F14_j14_ok (R : ER) (k1 : V7) (e : Env) : den Pg R (cd Try.f14 [1,1,1,1,1,1,1,1,1,1,1,1,1,0,1,0,0,1,1,0,0,1,1,1,1,1]) e (inB 3 (setN (setN (inB 2 (setN (kont Pg R Try.f14) (fun e => F14_j7 R (e 10)))) (fun e => k1 (e 0) (e 1) (e 7) (e 8) (e 10) (e 139) (e 140))) (fun e => F14_j11 R k1 (e 0) (e 1) (e 7) (e 8) (e 10) (e 139) (e 140)))) = (F14_j14 R k1 (e 0) (e 1) (e 7) (e 8) (e 10) (e 16) (e 139) (e 140) (e 164) (e 165) (e 166)) := (den_block Pg R (cd Try.f14 [1,1,1,1,1,1,1,1,1,1,1,1,1,0,1,0,0,1,1,0,0,1,1,1,1,1]) 4 (cd Try.f14 [1,1,1,1,1,1,1,1,1,1,1,1,1,0,1,0,0,1,1,0,0,1,1,1,1,1,0]) e (inB 3 (setN (setN (inB 2 (setN (kont Pg R Try.f14) (fun e => F14_j7 R (e 10)))) (fun e => k1 (e 0) (e 1) (e 7) (e 8) (e 10) (e 139) (e 140))) (fun e => F14_j11 R k1 (e 0) (e 1) (e 7) (e 8) (e 10) (e 139) (e 140)))) _ (by kernel_rfl) (den_loop Pg R (cd Try.f14 [1,1,1,1,1,1,1,1,1,1,1,1,1,0,1,0,0,1,1,0,0,1,1,1,1,1,0]) (cd Try.f14 [1,1,1,1,1,1,1,1,1,1,1,1,1,0,1,0,0,1,1,0,0,1,1,1,1,1,0,0]) e (inB 4 (inB 3 (setN (setN (inB 2 (setN (kont Pg R Try.f14) (fun e => F14_j7 R (e 10)))) (fun e => k1 (e 0) (e 1) (e 7) (e 8) (e 10) (e 139) (e 140))) (fun e => F14_j11 R k1 (e 0) (e 1) (e 7) (e 8) (e 10) (e 139) (e 140))))) (fun n e => F14_l1 R k1 n (e 0) (e 1) (e 7) (e 8) (e 10) (e 16) (e 139) (e 140) (e 164) (e 165) (e 166)) _ (by kernel_rfl) (F14_l1_ok R k1) (by kernel_rfl)))
def F14_j13 (R : ER) (k1 : V7) (x0 x1 x7 x8 x10 x16 x139 x140 : Value) : WP :=
  pv (nilO x16) fun v15 =>
  pv (faO 5 v15) fun v16 =>
  st1 v16 x1 fun _ =>
  cal Pg R 39 ⟨[x0, x7]⟩ fun v17 =>
  pv (lenS v17) fun v18 =>
  F14_j14 R k1 x0 x1 x7 x8 x10 x16 x139 x140 v17 v18 (.int .i64 0)
theorem F14_j13_ok (R : ER) (k1 : V7) (e : Env) : den Pg R (cd Try.f14 [1,1,1,1,1,1,1,1,1,1,1,1,1,0,1,0,0,1,1,0,0,1,1,1]) e (inB 3 (setN (setN (inB 2 (setN (kont Pg R Try.f14) (fun e => F14_j7 R (e 10)))) (fun e => k1 (e 0) (e 1) (e 7) (e 8) (e 10) (e 139) (e 140))) (fun e => F14_j11 R k1 (e 0) (e 1) (e 7) (e 8) (e 10) (e 139) (e 140)))) = (F14_j13 R k1 (e 0) (e 1) (e 7) (e 8) (e 10) (e 16) (e 139) (e 140)) := (den_join Pg R 1 (cd Try.f14 [1,1,1,1,1,1,1,1,1,1,1,1,1,0,1,0,0,1,1,0,0,1,1,1]) (cd Try.f14 [1,1,1,1,1,1,1,1,1,1,1,1,1,0,1,0,0,1,1,0,0,1,1,1,1,1]) e (inB 3 (setN (setN (inB 2 (setN (kont Pg R Try.f14) (fun e => F14_j7 R (e 10)))) (fun e => k1 (e 0) (e 1) (e 7) (e 8) (e 10) (e 139) (e 140))) (fun e => F14_j11 R k1 (e 0) (e 1) (e 7) (e 8) (e 10) (e 139) (e 140)))) (fun e => F14_j14 R k1 (e 0) (e 1) (e 7) (e 8) (e 10) (e 16) (e 139) (e 140) (e 164) (e 165) (e 166)) _ (by kernel_rfl) (fun e => F14_j14_ok R k1 e) (by kernel_rfl))
def F14_j12 (R : ER) (k1 : V7) (x0 x1 x7 x8 x10 x139 x140 : Value) : WP :=
  pv (nilO x0) fun v19 =>
  pv (faO 5 v19) fun v20 =>
  ld1 v20 fun v21 =>
  pv (ixS 6 v21 x140) fun v22 =>
  pv (unO .not x8) fun v23 =>
  gd v23 true (pv (some v22)) fun v24 =>
  gd v23 true (pv (nilO v24)) fun v25 =>
  gd v23 true (pv (faO 5 v25)) fun v26 =>
  gd v23 true (ld1 v26) fun v27 =>
  gd v23 true (pv (bin .geq v27 (.int .i64 0))) fun v28 =>
  pv (pickO v23 v28 (.bool false)) fun v29 =>
  cnd v29 (
   F14_j11 R k1 x0 x1 x7 x8 x10 x139 x140) (
   F14_j13 R k1 x0 x1 x7 x8 x10 v22 x139 x140)
theorem F14_j12_ok (R : ER) (k1 : V7) (e : Env) : den Pg R (cd Try.f14 [1,1,1,1,1,1,1,1,1,1,1,1,1,0,1,0,0,1,1,0]) e (setN (setN (inB 2 (setN (kont Pg R Try.f14) (fun e => F14_j7 R (e 10)))) (fun e => k1 (e 0) (e 1) (e 7) (e 8) (e 10) (e 139) (e 140))) (fun e => F14_j11 R k1 (e 0) (e 1) (e 7) (e 8) (e 10) (e 139) (e 140))) = (F14_j12 R k1 (e 0) (e 1) (e 7) (e 8) (e 10) (e 139) (e 140)) := (den_block Pg R (cd Try.f14 [1,1,1,1,1,1,1,1,1,1,1,1,1,0,1,0,0,1,1,0]) 3 (cd Try.f14 [1,1,1,1,1,1,1,1,1,1,1,1,1,0,1,0,0,1,1,0,0]) e (setN (setN (inB 2 (setN (kont Pg R Try.f14) (fun e => F14_j7 R (e 10)))) (fun e => k1 (e 0) (e 1) (e 7) (e 8) (e 10) (e 139) (e 140))) (fun e => F14_j11 R k1 (e 0) (e 1) (e 7) (e 8) (e 10) (e 139) (e 140))) _ (by kernel_rfl) (den_join Pg R 2 (cd Try.f14 [1,1,1,1,1,1,1,1,1,1,1,1,1,0,1,0,0,1,1,0,0]) (cd Try.f14 [1,1,1,1,1,1,1,1,1,1,1,1,1,0,1,0,0,1,1,0,0,1,1,1]) e (inB 3 (setN (setN (inB 2 (setN (kont Pg R Try.f14) (fun e => F14_j7 R (e 10)))) (fun e => k1 (e 0) (e 1) (e 7) (e 8) (e 10) (e 139) (e 140))) (fun e => F14_j11 R k1 (e 0) (e 1) (e 7) (e 8) (e 10) (e 139) (e 140)))) (fun e => F14_j13 R k1 (e 0) (e 1) (e 7) (e 8) (e 10) (e 16) (e 139) (e 140)) _ (by kernel_rfl) (fun e => F14_j13_ok R k1 e) (by kernel_rfl)))
def F14_j10 (R : ER) (k1 : V7) (x0 x1 x7 x8 x10 x139 x140 : Value) : WP :=
  F14_j12 R k1 x0 x1 x7 x8 x10 x139 x140
theorem F14_j10_ok (R : ER) (k1 : V7) (e : Env) : den Pg R (cd Try.f14 [1,1,1,1,1,1,1,1,1,1,1,1,1,0,1,0,0,1,1]) e (setN (inB 2 (setN (kont Pg R Try.f14) (fun e => F14_j7 R (e 10)))) (fun e => k1 (e 0) (e 1) (e 7) (e 8) (e 10) (e 139) (e 140))) = (F14_j10 R k1 (e 0) (e 1) (e 7) (e 8) (e 10) (e 139) (e 140)) := (den_join Pg R 0 (cd Try.f14 [1,1,1,1,1,1,1,1,1,1,1,1,1,0,1,0,0,1,1]) (cd Try.f14 [1,1,1,1,1,1,1,1,1,1,1,1,1,0,1,0,0,1,1,1]) e (setN (inB 2 (setN (kont Pg R Try.f14) (fun e => F14_j7 R (e 10)))) (fun e => k1 (e 0) (e 1) (e 7) (e 8) (e 10) (e 139) (e 140))) (fun e => F14_j11 R k1 (e 0) (e 1) (e 7) (e 8) (e 10) (e 139) (e 140)) _ (by kernel_rfl) (fun e => F14_j11_ok R k1 e) (den_conv Pg R (pre 0 (cd Try.f14 [1,1,1,1,1,1,1,1,1,1,1,1,1,0,1,0,0,1,1])) (cd Try.f14 [1,1,1,1,1,1,1,1,1,1,1,1,1,0,1,0,0,1,1,0]) e (setN (setN (inB 2 (setN (kont Pg R Try.f14) (fun e => F14_j7 R (e 10)))) (fun e => k1 (e 0) (e 1) (e 7) (e 8) (e 10) (e 139) (e 140))) (fun e => F14_j11 R k1 (e 0) (e 1) (e 7) (e 8) (e 10) (e 139) (e 140))) _ (by kernel_rfl) (F14_j12_ok R k1 e)))
def F14_b1 (R : ER) (k1 : V7) (x0 x1 x7 x8 x10 x139 x140 : Value) : WP :=
  pv (bin .lss x140 x139) fun v30 =>
  cnd v30 (
   F14_j10 R k1 x0 x1 x7 x8 x10 x139 x140) (
   F14_j7 R x10)
theorem F14_b1_ok (R : ER) (k1 : V7) (e : Env) : den Pg R (cd Try.f14 [1,1,1,1,1,1,1,1,1,1,1,1,1,0,1,0,0]) e (setN (inB 2 (setN (kont Pg R Try.f14) (fun e => F14_j7 R (e 10)))) (fun e => k1 (e 0) (e 1) (e 7) (e 8) (e 10) (e 139) (e 140))) = (F14_b1 R k1 (e 0) (e 1) (e 7) (e 8) (e 10) (e 139) (e 140)) := (den_join Pg R 1 (cd Try.f14 [1,1,1,1,1,1,1,1,1,1,1,1,1,0,1,0,0]) (cd Try.f14 [1,1,1,1,1,1,1,1,1,1,1,1,1,0,1,0,0,1,1]) e (setN (inB 2 (setN (kont Pg R Try.f14) (fun e => F14_j7 R (e 10)))) (fun e => k1 (e 0) (e 1) (e 7) (e 8) (e 10) (e 139) (e 140))) (fun e => F14_j10 R k1 (e 0) (e 1) (e 7) (e 8) (e 10) (e 139) (e 140)) _ (by kernel_rfl) (fun e => F14_j10_ok R k1 e) (by kernel_rfl))
noncomputable def F14_l2 (R : ER) (n : Nat) : V7 := Nat.rec (motive := fun _ => V7) (fun _ _ _ _ _ _ _ => fun _ => False) (fun _ ih => fun x0 x1 x7 x8 x10 x139 x140 => F14_b1 R ih x0 x1 x7 x8 x10 x139 x140) n
theorem F14_l2_succ (R : ER) (n : Nat) (x0 x1 x7 x8 x10 x139 x140 : Value) : F14_l2 R (n + 1) x0 x1 x7 x8 x10 x139 x140 = F14_b1 R (F14_l2 R n) x0 x1 x7 x8 x10 x139 x140 := rfl
theorem F14_l2_ok (R : ER) : ∀ (n : Nat) (e : Env), iterL (den Pg R (cd Try.f14 [1,1,1,1,1,1,1,1,1,1,1,1,1,0,1,0,0])) n e (inB 2 (setN (kont Pg R Try.f14) (fun e => F14_j7 R (e 10)))) = F14_l2 R n (e 0) (e 1) (e 7) (e 8) (e 10) (e 139) (e 140) :=
  iterL_join (den Pg R (cd Try.f14 [1,1,1,1,1,1,1,1,1,1,1,1,1,0,1,0,0])) (inB 2 (setN (kont Pg R Try.f14) (fun e => F14_j7 R (e 10)))) (fun n e => F14_l2 R n (e 0) (e 1) (e 7) (e 8) (e 10) (e 139) (e 140)) (fun _ => rfl) (fun n e => (F14_b1_ok R (F14_l2 R n) e).trans (F14_l2_succ R n (e 0) (e 1) (e 7) (e 8) (e 10) (e 139) (e 140)).symm)
def F14_j9 (R : ER) (x0 x1 x7 x8 x10 x139 x140 : Value) : WP :=
  exN fun n => F14_l2 R n x0 x1 x7 x8 x10 x139 x140
theorem F14_j9_ok (R : ER) (e : Env) : den Pg R (cd Try.f14 [1,1,1,1,1,1,1,1,1,1,1,1,1,0,1]) e (setN (kont Pg R Try.f14) (fun e => F14_j7 R (e 10))) = (F14_j9 R (e 0) (e 1) (e 7) (e 8) (e 10) (e 139) (e 140)) := (den_block Pg R (cd Try.f14 [1,1,1,1,1,1,1,1,1,1,1,1,1,0,1]) 2 (cd Try.f14 [1,1,1,1,1,1,1,1,1,1,1,1,1,0,1,0]) e (setN (kont Pg R Try.f14) (fun e => F14_j7 R (e 10))) _ (by kernel_rfl) (den_loop Pg R (cd Try.f14 [1,1,1,1,1,1,1,1,1,1,1,1,1,0,1,0]) (cd Try.f14 [1,1,1,1,1,1,1,1,1,1,1,1,1,0,1,0,0]) e (inB 2 (setN (kont Pg R Try.f14) (fun e => F14_j7 R (e 10)))) (fun n e => F14_l2 R n (e 0) (e 1) (e 7) (e 8) (e 10) (e 139) (e 140)) _ (by kernel_rfl) (F14_l2_ok R) (by kernel_rfl)))
def F14_j8 (R : ER) (x0 x1 x7 x8 x10 : Value) : WP :=
  pv (nilO x0) fun v31 =>
  pv (faO 5 v31) fun v32 =>
  ld1 v32 fun v33 =>
  pv (lenS v33) fun v34 =>
  pv (min2I (.int .i64 8) v34) fun v35 =>
  F14_j9 R x0 x1 x7 x8 x10 v35 (.int .i64 0)
theorem F14_j8_ok (R : ER) (e : Env) : den Pg R (cd Try.f14 [1,1,1,1,1,1,1,1,1,1,1,1,1,0]) e (setN (kont Pg R Try.f14) (fun e => F14_j7 R (e 10))) = (F14_j8 R (e 0) (e 1) (e 7) (e 8) (e 10)) := (den_join Pg R 0 (cd Try.f14 [1,1,1,1,1,1,1,1,1,1,1,1,1,0]) (cd Try.f14 [1,1,1,1,1,1,1,1,1,1,1,1,1,0,1]) e (setN (kont Pg R Try.f14) (fun e => F14_j7 R (e 10))) (fun e => F14_j9 R (e 0) (e 1) (e 7) (e 8) (e 10) (e 139) (e 140)) _ (by kernel_rfl) (fun e => F14_j9_ok R e) (by kernel_rfl))
def F14_j6 (R : ER) (x0 x1 x7 x8 x10 : Value) : WP :=
  F14_j8 R x0 x1 x7 x8 x10
theorem F14_j6_ok (R : ER) (e : Env) : den Pg R (cd Try.f14 [1,1,1,1,1,1,1,1,1,1,1,1,1]) e (kont Pg R Try.f14) = (F14_j6 R (e 0) (e 1) (e 7) (e 8) (e 10)) := (den_join Pg R 0 (cd Try.f14 [1,1,1,1,1,1,1,1,1,1,1,1,1]) (cd Try.f14 [1,1,1,1,1,1,1,1,1,1,1,1,1,1]) e (kont Pg R Try.f14) (fun e => F14_j7 R (e 10)) _ (by kernel_rfl) (fun e => F14_j7_ok R e) (den_conv Pg R (pre 0 (cd Try.f14 [1,1,1,1,1,1,1,1,1,1,1,1,1])) (cd Try.f14 [1,1,1,1,1,1,1,1,1,1,1,1,1,0]) e (setN (kont Pg R Try.f14) (fun e => F14_j7 R (e 10))) _ (by kernel_rfl) (F14_j8_ok R e)))
def F14_j5 (R : ER) (x0 x1 x7 x8 x10 : Value) : WP :=
  cnd x8 (
   pv (nilO x0) fun v36 =>
   pv (faO 8 v36) fun v37 =>
   ld1 v37 fun v38 =>
   pv (bin .add v38 (.int .i64 1)) fun v39 =>
   pv (nilO x0) fun v40 =>
   pv (faO 8 v40) fun v41 =>
   st1 v41 v39 fun _ =>
   F14_j6 R x0 x1 x7 x8 x10) (
   F14_j6 R x0 x1 x7 x8 x10)
theorem F14_j5_ok (R : ER) (e : Env) : den Pg R (cd Try.f14 [1,1,1,1,1,1,1,1,1,1,1,1]) e (kont Pg R Try.f14) = (F14_j5 R (e 0) (e 1) (e 7) (e 8) (e 10)) := (den_join Pg R 0 (cd Try.f14 [1,1,1,1,1,1,1,1,1,1,1,1]) (cd Try.f14 [1,1,1,1,1,1,1,1,1,1,1,1,1]) e (kont Pg R Try.f14) (fun e => F14_j6 R (e 0) (e 1) (e 7) (e 8) (e 10)) _ (by kernel_rfl) (fun e => F14_j6_ok R e) (by kernel_rfl))
def F14_j19 (R : ER) (k1 : V8) (x0 x1 x7 x8 x10 x93 x94 x95 : Value) : WP :=
  pv (bin .add x95 (.int .i64 1)) fun v42 =>
  k1 x0 x1 x7 x8 x10 x93 x94 v42
theorem F14_j19_ok (R : ER) (k1 : V8) (e : Env) : den Pg R (cd Try.f14 [1,1,1,1,1,1,1,1,1,1,1,0,1,0,0,1,1,1]) e (setN (inB 0 (setN (kont Pg R Try.f14) (fun e => F14_j5 R (e 0) (e 1) (e 7) (e 8) (e 10)))) (fun e => k1 (e 0) (e 1) (e 7) (e 8) (e 10) (e 93) (e 94) (e 95))) = (F14_j19 R k1 (e 0) (e 1) (e 7) (e 8) (e 10) (e 93) (e 94) (e 95)) := by kernel_rfl
def F14_j21 (R : ER) (k1 : V8) (x0 x1 x7 x8 x10 x12 x93 x94 x95 : Value) : WP :=
  pv (faO 1 x12) fun v43 =>
  ldN 5 v43 fun v44 =>
  cal Pg R 16 ⟨[v44]⟩ fun v45 =>
  pv (extO 0 v45) fun v46 =>
  pv (extO 1 v45) fun v47 =>
  pv (faO 0 x12) fun v48 =>
  ld1 v48 fun v49 =>
  pv (bldO [.int .i64 0, .slice none 0 0] [(0,1, v49), (1,1, v46)]) fun v50 =>
  valV Pg R (Instr.buildSlice 43 1 ⟨[(0, v50)]⟩) fun v51 =>
  blt Pg R .append ⟨[43,43]⟩ 43 ⟨[false, false]⟩ ⟨[x10, v51]⟩ fun v52 =>
  F14_j19 R k1 x0 x1 x7 x8 v52 x93 x94 x95
theorem F14_j21_ok (R : ER) (k1 : V8) (e : Env) : den Pg R (cd Try.f14 [1,1,1,1,1,1,1,1,1,1,1,0,1,0,0,1,1,0,0,1,1]) e (inB 1 (setN (setN (inB 0 (setN (kont Pg R Try.f14) (fun e => F14_j5 R (e 0) (e 1) (e 7) (e 8) (e 10)))) (fun e => k1 (e 0) (e 1) (e 7) (e 8) (e 10) (e 93) (e 94) (e 95))) (fun e => F14_j19 R k1 (e 0) (e 1) (e 7) (e 8) (e 10) (e 93) (e 94) (e 95)))) = (F14_j21 R k1 (e 0) (e 1) (e 7) (e 8) (e 10) (e 12) (e 93) (e 94) (e 95)) := by kernel_rfl
def F14_j22 (R : ER) (k1 : V8) (x0 x1 x7 x8 x10 x12 x93 x94 x95 : Value) : WP :=
  drewV (
  pv (nilO x0) fun v53 =>
  pv (faO 0 v53) fun v54 =>
  ld1 v54 fun v55 =>
  pv (faO 0 x12) fun v56 =>
  ld1 v56 fun v57 =>
  pv (ixS 1 v55 v57) fun v58 =>
  ld1 v58 fun v59 =>
  pv (unO .not v59) fun v60 =>
  cnd v60 (
   pv (ixS 1 x7 (.int .i64 0)) fun v61 =>
   ld1 v61 fun v62 =>
   pv (faO 0 x12) fun v63 =>
   st1 v63 v62 fun _ =>
   F14_j21 R k1 x0 x1 x7 x8 x10 x12 x93 x94 x95) (
   F14_j21 R k1 x0 x1 x7 x8 x10 x12 x93 x94 x95))
theorem F14_j22_ok (R : ER) (k1 : V8) (e : Env) : den Pg R (cd Try.f14 [1,1,1,1,1,1,1,1,1,1,1,0,1,0,0,1,1,0,0,1,0]) e (setN (inB 1 (setN (setN (inB 0 (setN (kont Pg R Try.f14) (fun e => F14_j5 R (e 0) (e 1) (e 7) (e 8) (e 10)))) (fun e => k1 (e 0) (e 1) (e 7) (e 8) (e 10) (e 93) (e 94) (e 95))) (fun e => F14_j19 R k1 (e 0) (e 1) (e 7) (e 8) (e 10) (e 93) (e 94) (e 95)))) (fun e => F14_j21 R k1 (e 0) (e 1) (e 7) (e 8) (e 10) (e 12) (e 93) (e 94) (e 95))) = (F14_j22 R k1 (e 0) (e 1) (e 7) (e 8) (e 10) (e 12) (e 93) (e 94) (e 95)) := (by kernel_rfl)
def F14_j20 (R : ER) (k1 : V8) (x0 x1 x7 x8 x10 x93 x94 x95 : Value) : WP :=
  pv (ixS 6 x93 x95) fun v64 =>
  ldN 6 v64 fun v65 =>
  al Pg 107 fun v66 =>
  stN 6 v66 v65 fun _ =>
  F14_j22 R k1 x0 x1 x7 x8 x10 v66 x93 x94 x95
theorem F14_j20_ok (R : ER) (k1 : V8) (e : Env) : den Pg R (cd Try.f14 [1,1,1,1,1,1,1,1,1,1,1,0,1,0,0,1,1,0]) e (setN (setN (inB 0 (setN (kont Pg R Try.f14) (fun e => F14_j5 R (e 0) (e 1) (e 7) (e 8) (e 10)))) (fun e => k1 (e 0) (e 1) (e 7) (e 8) (e 10) (e 93) (e 94) (e 95))) (fun e => F14_j19 R k1 (e 0) (e 1) (e 7) (e 8) (e 10) (e 93) (e 94) (e 95))) = (F14_j20 R k1 (e 0) (e 1) (e 7) (e 8) (e 10) (e 93) (e 94) (e 95)) := (den_block Pg R (cd Try.f14 [1,1,1,1,1,1,1,1,1,1,1,0,1,0,0,1,1,0]) 1 (cd Try.f14 [1,1,1,1,1,1,1,1,1,1,1,0,1,0,0,1,1,0,0]) e (setN (setN (inB 0 (setN (kont Pg R Try.f14) (fun e => F14_j5 R (e 0) (e 1) (e 7) (e 8) (e 10)))) (fun e => k1 (e 0) (e 1) (e 7) (e 8) (e 10) (e 93) (e 94) (e 95))) (fun e => F14_j19 R k1 (e 0) (e 1) (e 7) (e 8) (e 10) (e 93) (e 94) (e 95))) _ (by kernel_rfl) (den_join Pg R 1 (cd Try.f14 [1,1,1,1,1,1,1,1,1,1,1,0,1,0,0,1,1,0,0]) (cd Try.f14 [1,1,1,1,1,1,1,1,1,1,1,0,1,0,0,1,1,0,0,1,1]) e (inB 1 (setN (setN (inB 0 (setN (kont Pg R Try.f14) (fun e => F14_j5 R (e 0) (e 1) (e 7) (e 8) (e 10)))) (fun e => k1 (e 0) (e 1) (e 7) (e 8) (e 10) (e 93) (e 94) (e 95))) (fun e => F14_j19 R k1 (e 0) (e 1) (e 7) (e 8) (e 10) (e 93) (e 94) (e 95)))) (fun e => F14_j21 R k1 (e 0) (e 1) (e 7) (e 8) (e 10) (e 12) (e 93) (e 94) (e 95)) _ (by kernel_rfl) (fun e => F14_j21_ok R k1 e) (den_join Pg R 0 (pre 1 (cd Try.f14 [1,1,1,1,1,1,1,1,1,1,1,0,1,0,0,1,1,0,0])) (cd Try.f14 [1,1,1,1,1,1,1,1,1,1,1,0,1,0,0,1,1,0,0,1,0]) e (setN (inB 1 (setN (setN (inB 0 (setN (kont Pg R Try.f14) (fun e => F14_j5 R (e 0) (e 1) (e 7) (e 8) (e 10)))) (fun e => k1 (e 0) (e 1) (e 7) (e 8) (e 10) (e 93) (e 94) (e 95))) (fun e => F14_j19 R k1 (e 0) (e 1) (e 7) (e 8) (e 10) (e 93) (e 94) (e 95)))) (fun e => F14_j21 R k1 (e 0) (e 1) (e 7) (e 8) (e 10) (e 12) (e 93) (e 94) (e 95))) (fun e => F14_j22 R k1 (e 0) (e 1) (e 7) (e 8) (e 10) (e 12) (e 93) (e 94) (e 95)) _ (by kernel_rfl) (fun e => F14_j22_ok R k1 e) (by kernel_rfl))))
def F14_j18 (R : ER) (k1 : V8) (x0 x1 x7 x8 x10 x93 x94 x95 : Value) : WP :=
  F14_j20 R k1 x0 x1 x7 x8 x10 x93 x94 x95
theorem F14_j18_ok (R : ER) (k1 : V8) (e : Env) : den Pg R (cd Try.f14 [1,1,1,1,1,1,1,1,1,1,1,0,1,0,0,1,1]) e (setN (inB 0 (setN (kont Pg R Try.f14) (fun e => F14_j5 R (e 0) (e 1) (e 7) (e 8) (e 10)))) (fun e => k1 (e 0) (e 1) (e 7) (e 8) (e 10) (e 93) (e 94) (e 95))) = (F14_j18 R k1 (e 0) (e 1) (e 7) (e 8) (e 10) (e 93) (e 94) (e 95)) := (den_join Pg R 0 (cd Try.f14 [1,1,1,1,1,1,1,1,1,1,1,0,1,0,0,1,1]) (cd Try.f14 [1,1,1,1,1,1,1,1,1,1,1,0,1,0,0,1,1,1]) e (setN (inB 0 (setN (kont Pg R Try.f14) (fun e => F14_j5 R (e 0) (e 1) (e 7) (e 8) (e 10)))) (fun e => k1 (e 0) (e 1) (e 7) (e 8) (e 10) (e 93) (e 94) (e 95))) (fun e => F14_j19 R k1 (e 0) (e 1) (e 7) (e 8) (e 10) (e 93) (e 94) (e 95)) _ (by kernel_rfl) (fun e => F14_j19_ok R k1 e) (den_conv Pg R (pre 0 (cd Try.f14 [1,1,1,1,1,1,1,1,1,1,1,0,1,0,0,1,1])) (cd Try.f14 [1,1,1,1,1,1,1,1,1,1,1,0,1,0,0,1,1,0]) e (setN (setN (inB 0 (setN (kont Pg R Try.f14) (fun e => F14_j5 R (e 0) (e 1) (e 7) (e 8) (e 10)))) (fun e => k1 (e 0) (e 1) (e 7) (e 8) (e 10) (e 93) (e 94) (e 95))) (fun e => F14_j19 R k1 (e 0) (e 1) (e 7) (e 8) (e 10) (e 93) (e 94) (e 95))) _ (by kernel_rfl) (F14_j20_ok R k1 e)))
def F14_b3 (R : ER) (k1 : V8) (x0 x1 x7 x8 x10 x93 x94 x95 : Value) : WP :=
  pv (bin .lss x95 x94) fun v67 =>
  cnd v67 (
   F14_j18 R k1 x0 x1 x7 x8 x10 x93 x94 x95) (
   F14_j5 R x0 x1 x7 x8 x10)
theorem F14_b3_ok (R : ER) (k1 : V8) (e : Env) : den Pg R (cd Try.f14 [1,1,1,1,1,1,1,1,1,1,1,0,1,0,0]) e (setN (inB 0 (setN (kont Pg R Try.f14) (fun e => F14_j5 R (e 0) (e 1) (e 7) (e 8) (e 10)))) (fun e => k1 (e 0) (e 1) (e 7) (e 8) (e 10) (e 93) (e 94) (e 95))) = (F14_b3 R k1 (e 0) (e 1) (e 7) (e 8) (e 10) (e 93) (e 94) (e 95)) := (den_join Pg R 1 (cd Try.f14 [1,1,1,1,1,1,1,1,1,1,1,0,1,0,0]) (cd Try.f14 [1,1,1,1,1,1,1,1,1,1,1,0,1,0,0,1,1]) e (setN (inB 0 (setN (kont Pg R Try.f14) (fun e => F14_j5 R (e 0) (e 1) (e 7) (e 8) (e 10)))) (fun e => k1 (e 0) (e 1) (e 7) (e 8) (e 10) (e 93) (e 94) (e 95))) (fun e => F14_j18 R k1 (e 0) (e 1) (e 7) (e 8) (e 10) (e 93) (e 94) (e 95)) _ (by kernel_rfl) (fun e => F14_j18_ok R k1 e) (by kernel_rfl))
noncomputable def F14_l3 (R : ER) (n : Nat) : V8 := Nat.rec (motive := fun _ => V8) (fun _ _ _ _ _ _ _ _ => fun _ => False) (fun _ ih => fun x0 x1 x7 x8 x10 x93 x94 x95 => F14_b3 R ih x0 x1 x7 x8 x10 x93 x94 x95) n
theorem F14_l3_succ (R : ER) (n : Nat) (x0 x1 x7 x8 x10 x93 x94 x95 : Value) : F14_l3 R (n + 1) x0 x1 x7 x8 x10 x93 x94 x95 = F14_b3 R (F14_l3 R n) x0 x1 x7 x8 x10 x93 x94 x95 := rfl
theorem F14_l3_ok (R : ER) : ∀ (n : Nat) (e : Env), iterL (den Pg R (cd Try.f14 [1,1,1,1,1,1,1,1,1,1,1,0,1,0,0])) n e (inB 0 (setN (kont Pg R Try.f14) (fun e => F14_j5 R (e 0) (e 1) (e 7) (e 8) (e 10)))) = F14_l3 R n (e 0) (e 1) (e 7) (e 8) (e 10) (e 93) (e 94) (e 95) :=
  iterL_join (den Pg R (cd Try.f14 [1,1,1,1,1,1,1,1,1,1,1,0,1,0,0])) (inB 0 (setN (kont Pg R Try.f14) (fun e => F14_j5 R (e 0) (e 1) (e 7) (e 8) (e 10)))) (fun n e => F14_l3 R n (e 0) (e 1) (e 7) (e 8) (e 10) (e 93) (e 94) (e 95)) (fun _ => rfl) (fun n e => (F14_b3_ok R (F14_l3 R n) e).trans (F14_l3_succ R n (e 0) (e 1) (e 7) (e 8) (e 10) (e 93) (e 94) (e 95)).symm)
def F14_j17 (R : ER) (x0 x1 x7 x8 x10 x93 x94 x95 : Value) : WP :=
  exN fun n => F14_l3 R n x0 x1 x7 x8 x10 x93 x94 x95
theorem F14_j17_ok (R : ER) (e : Env) : den Pg R (cd Try.f14 [1,1,1,1,1,1,1,1,1,1,1,0,1]) e (setN (kont Pg R Try.f14) (fun e => F14_j5 R (e 0) (e 1) (e 7) (e 8) (e 10))) = (F14_j17 R (e 0) (e 1) (e 7) (e 8) (e 10) (e 93) (e 94) (e 95)) := (den_block Pg R (cd Try.f14 [1,1,1,1,1,1,1,1,1,1,1,0,1]) 0 (cd Try.f14 [1,1,1,1,1,1,1,1,1,1,1,0,1,0]) e (setN (kont Pg R Try.f14) (fun e => F14_j5 R (e 0) (e 1) (e 7) (e 8) (e 10))) _ (by kernel_rfl) (den_loop Pg R (cd Try.f14 [1,1,1,1,1,1,1,1,1,1,1,0,1,0]) (cd Try.f14 [1,1,1,1,1,1,1,1,1,1,1,0,1,0,0]) e (inB 0 (setN (kont Pg R Try.f14) (fun e => F14_j5 R (e 0) (e 1) (e 7) (e 8) (e 10)))) (fun n e => F14_l3 R n (e 0) (e 1) (e 7) (e 8) (e 10) (e 93) (e 94) (e 95)) _ (by kernel_rfl) (F14_l3_ok R) (by kernel_rfl)))
def F14_j16 (R : ER) (x0 x1 x7 x8 x9 x10 : Value) : WP :=
  pv (lenS x9) fun v68 =>
  F14_j17 R x0 x1 x7 x8 x10 x9 v68 (.int .i64 0)
theorem F14_j16_ok (R : ER) (e : Env) : den Pg R (cd Try.f14 [1,1,1,1,1,1,1,1,1,1,1,0]) e (setN (kont Pg R Try.f14) (fun e => F14_j5 R (e 0) (e 1) (e 7) (e 8) (e 10))) = (F14_j16 R (e 0) (e 1) (e 7) (e 8) (e 9) (e 10)) := (den_join Pg R 0 (cd Try.f14 [1,1,1,1,1,1,1,1,1,1,1,0]) (cd Try.f14 [1,1,1,1,1,1,1,1,1,1,1,0,1]) e (setN (kont Pg R Try.f14) (fun e => F14_j5 R (e 0) (e 1) (e 7) (e 8) (e 10))) (fun e => F14_j17 R (e 0) (e 1) (e 7) (e 8) (e 10) (e 93) (e 94) (e 95)) _ (by kernel_rfl) (fun e => F14_j17_ok R e) (by kernel_rfl))
def F14_j4 (R : ER) (x0 x1 x7 x8 x9 : Value) : WP :=
  F14_j16 R x0 x1 x7 x8 x9 (.slice none 0 0)
theorem F14_j4_ok (R : ER) (e : Env) : den Pg R (cd Try.f14 [1,1,1,1,1,1,1,1,1,1]) e (kont Pg R Try.f14) = (F14_j4 R (e 0) (e 1) (e 7) (e 8) (e 9)) := (den_join Pg R 1 (cd Try.f14 [1,1,1,1,1,1,1,1,1,1]) (cd Try.f14 [1,1,1,1,1,1,1,1,1,1,1,1]) e (kont Pg R Try.f14) (fun e => F14_j5 R (e 0) (e 1) (e 7) (e 8) (e 10)) _ (by kernel_rfl) (fun e => F14_j5_ok R e) (den_join Pg R 0 (pre 1 (cd Try.f14 [1,1,1,1,1,1,1,1,1,1])) (cd Try.f14 [1,1,1,1,1,1,1,1,1,1,1,0]) e (setN (kont Pg R Try.f14) (fun e => F14_j5 R (e 0) (e 1) (e 7) (e 8) (e 10))) (fun e => F14_j16 R (e 0) (e 1) (e 7) (e 8) (e 9) (e 10)) _ (by kernel_rfl) (fun e => F14_j16_ok R e) (by kernel_rfl)))
def F14_j3 (R : ER) (x0 x1 x7 x8 : Value) : WP :=
  pv (nilO x0) fun v69 =>
  pv (faO 4 v69) fun v70 =>
  st1 v70 x1 fun _ =>
  pv (nilO x0) fun v71 =>
  pv (faO 17 v71) fun v72 =>
  ld1 v72 fun v73 =>
  pv (nilO x0) fun v74 =>
  pv (faO 17 v74) fun v75 =>
  st1 v75 (.slice none 0 0) fun _ =>
  pv (lenS x7) fun v76 =>
  pv (bin .eql v76 (.int .i64 0)) fun v77 =>
  cnd v77 (
   R (.returned (.tuple ⟨[(.slice none 0 0), (.int .i64 0)]⟩))) (
   F14_j4 R x0 x1 x7 x8 v73)
theorem F14_j3_ok (R : ER) (e : Env) : den Pg R (cd Try.f14 [1,1,1,1,1,1]) e (kont Pg R Try.f14) = (F14_j3 R (e 0) (e 1) (e 7) (e 8)) := (den_join Pg R 3 (cd Try.f14 [1,1,1,1,1,1]) (cd Try.f14 [1,1,1,1,1,1,1,1,1,1]) e (kont Pg R Try.f14) (fun e => F14_j4 R (e 0) (e 1) (e 7) (e 8) (e 9)) _ (by kernel_rfl) (fun e => F14_j4_ok R e) (by kernel_rfl))
def F14_j23 (R : ER) (x0 x1 x7 x8 : Value) : WP :=
  gd x8 true (pv (some x7)) fun v78 =>
  gd x8 true (pv (lenS v78)) fun v79 =>
  gd x8 true (pv (bin .gtr v79 (.int .i64 0))) fun v80 =>
  pv (pickO x8 v80 (.bool false)) fun v81 =>
  gd v81 true (pv (some x0)) fun v82 =>
  gd v81 true (pv (nilO v82)) fun v83 =>
  gd v81 true (pv (faO 8 v83)) fun v84 =>
  gd v81 true (ld1 v84) fun v85 =>
  gd v81 true (pv (bin .eql v85 (.int .i64 6))) fun v86 =>
  pv (pickO v81 v86 (.bool false)) fun v87 =>
  cnd v87 (
   pv (nilO x0) fun v88 =>
   pv (faO 10 v88) fun v89 =>
   st1 v89 (.bool true) fun _ =>
   R (.returned (.tuple ⟨[(.slice none 0 0), (.int .i64 4)]⟩))) (
   F14_j3 R x0 x1 x7 x8)
theorem F14_j23_ok (R : ER) (e : Env) : den Pg R (cd Try.f14 [1,1,1,1,1,0]) e (setN (kont Pg R Try.f14) (fun e => F14_j3 R (e 0) (e 1) (e 7) (e 8))) = (F14_j23 R (e 0) (e 1) (e 7) (e 8)) := (by kernel_rfl)
def F14_j2 (R : ER) (x0 x1 : Value) : WP :=
  cal Pg R 38 ⟨[x0]⟩ fun v90 =>
  drewV (
  pv (nilO x0) fun v91 =>
  pv (faO 5 v91) fun v92 =>
  ld1 v92 fun v93 =>
  pv (lenS v93) fun v94 =>
  pv (bin .gtr v94 (.int .i64 0)) fun v95 =>
  gd v95 true (pv (some x0)) fun v96 =>
  gd v95 true (pv (nilO v96)) fun v97 =>
  gd v95 true (pv (faO 5 v97)) fun v98 =>
  gd v95 true (ld1 v98) fun v99 =>
  gd v95 true (pv (ixS 6 v99 (.int .i64 0))) fun v100 =>
  gd v95 true (pv (faO 5 v100)) fun v101 =>
  gd v95 true (ld1 v101) fun v102 =>
  gd v95 true (pv (bin .geq v102 (.int .i64 0))) fun v103 =>
  pv (pickO v95 v103 (.bool false)) fun v104 =>
  gd v104 true (pv (some x1)) fun v105 =>
  gd v104 true (pv (some x0)) fun v106 =>
  gd v104 true (pv (nilO v106)) fun v107 =>
  gd v104 true (pv (faO 5 v107)) fun v108 =>
  gd v104 true (ld1 v108) fun v109 =>
  gd v104 true (pv (ixS 6 v109 (.int .i64 0))) fun v110 =>
  gd v104 true (pv (faO 5 v110)) fun v111 =>
  gd v104 true (ld1 v111) fun v112 =>
  gd v104 true (pv (bin .sub v105 v112)) fun v113 =>
  gd v104 true (pv (some x0)) fun v114 =>
  gd v104 true (pv (nilO v114)) fun v115 =>
  gd v104 true (pv (faO 3 v115)) fun v116 =>
  gd v104 true (ld1 v116) fun v117 =>
  gd v104 true (pv (bin .geq v113 v117)) fun v118 =>
  pv (pickO v104 v118 (.bool false)) fun v119 =>
  F14_j23 R x0 x1 v90 v119)
theorem F14_j2_ok (R : ER) (e : Env) : den Pg R (cd Try.f14 [1,1,1]) e (kont Pg R Try.f14) = (F14_j2 R (e 0) (e 1)) := (den_join Pg R 2 (cd Try.f14 [1,1,1]) (cd Try.f14 [1,1,1,1,1,1]) e (kont Pg R Try.f14) (fun e => F14_j3 R (e 0) (e 1) (e 7) (e 8)) _ (by kernel_rfl) (fun e => F14_j3_ok R e) (den_join Pg R 1 (pre 2 (cd Try.f14 [1,1,1])) (cd Try.f14 [1,1,1,1,1,0]) e (setN (kont Pg R Try.f14) (fun e => F14_j3 R (e 0) (e 1) (e 7) (e 8))) (fun e => F14_j23 R (e 0) (e 1) (e 7) (e 8)) _ (by kernel_rfl) (fun e => F14_j23_ok R e) (by kernel_rfl)))
def F14_j1 (R : ER) (x0 x1 : Value) : WP :=
  cal Pg R 34 ⟨[x0, x1]⟩ fun v120 =>
  pv (bin .neq v120 (.int .i64 0)) fun v121 =>
  cnd v121 (
   R (.returned (.tuple ⟨[(.slice none 0 0), v120]⟩))) (
   F14_j2 R x0 x1)
theorem F14_j1_ok (R : ER) (e : Env) : den Pg R (cd Try.f14 [1,1]) e (kont Pg R Try.f14) = (F14_j1 R (e 0) (e 1)) := (den_join Pg R 0 (cd Try.f14 [1,1]) (cd Try.f14 [1,1,1]) e (kont Pg R Try.f14) (fun e => F14_j2 R (e 0) (e 1)) _ (by kernel_rfl) (fun e => F14_j2_ok R e) (by kernel_rfl))
def F14 (R : ER) (x0 x1 : Value) : WP :=
  pv (eqNilP x0) fun v122 =>
  cnd v122 (
   R (.returned (.tuple ⟨[(.slice none 0 0), (.int .i64 35)]⟩))) (
   F14_j1 R x0 x1)
theorem links_Link_Output_den (R : ER) (x0 x1 : Value) : den Pg R (cd Try.f14 []) (argsEnv [x0, x1]) (kont Pg R Try.f14) = F14 R x0 x1 :=
  have h : ∀ e, den Pg R (cd Try.f14 []) e (kont Pg R Try.f14) = F14 R (e 0) (e 1) := fun e => (den_join Pg R 1 (cd Try.f14 []) (cd Try.f14 [1,1]) e (kont Pg R Try.f14) (fun e => F14_j1 R (e 0) (e 1)) _ (by kernel_rfl) (fun e => F14_j1_ok R e) (by kernel_rfl))
  h _
theorem F14_calls {R : ER} {x0 x1 : Value} {w : World} (h : F14 R x0 x1 w) : Calls Pg 14 ⟨[x0, x1]⟩ w R :=
  calls_of_den Try.func14 (by kernel_rfl) (by kernel_rfl) (links_Link_Output_den R x0 x1) h
/-! ### 15: F15 -/
def F15 (R : ER) (x0 : Value) : WP :=
  pv (neNilP x0) fun v1 =>
  gd v1 true (pv (some x0)) fun v2 =>
  gd v1 true (pv (nilO v2)) fun v3 =>
  gd v1 true (pv (faO 10 v3)) fun v4 =>
  gd v1 true (ld1 v4) fun v5 =>
  pv (pickO v1 v5 (.bool false)) fun v6 =>
  R (.returned v6)
theorem links_Link_Broken_den (R : ER) (x0 : Value) : den Pg R (cd Try.f15 []) (argsEnv [x0]) (kont Pg R Try.f15) = F15 R x0 :=
  have h : ∀ e, den Pg R (cd Try.f15 []) e (kont Pg R Try.f15) = F15 R (e 0) := fun e => by kernel_rfl
  h _
theorem F15_calls {R : ER} {x0 : Value} {w : World} (h : F15 R x0 w) : Calls Pg 15 ⟨[x0]⟩ w R :=
  calls_of_den Try.func15 (by kernel_rfl) (by kernel_rfl) (links_Link_Broken_den R x0) h
/-! ### 16: F16 -/
def F16_j2 (R : ER) (x1 x4 : Value) : WP :=
  cal Pg R 40 ⟨[]⟩ fun v1 =>
  al Pg 112 fun v2 =>
  stN 8 v2 v1 fun _ =>
  pv (ixA 4 2 v2 (.int .i64 0)) fun v3 =>
  ldN 2 v3 fun v4 =>
  pv (faO 4 x1) fun v5 =>
  ld1 v5 fun v6 =>
  pv (lenS v6) fun v7 =>
  pv (cvI .u64 v7) fun v8 =>
  cal Pg R 41 ⟨[v4, x4, v8]⟩ fun v9 =>
  pv (ixA 4 2 v2 (.int .i64 1)) fun v10 =>
  ldN 2 v10 fun v11 =>
  pv (faO 2 x1) fun v12 =>
  ld1 v12 fun v13 =>
  pv (cvI .u64 v13) fun v14 =>
  cal Pg R 41 ⟨[v11, x4, v14]⟩ fun v15 =>
  pv (ixA 4 2 v2 (.int .i64 2)) fun v16 =>
  ldN 2 v16 fun v17 =>
  pv (faO 3 x1) fun v18 =>
  ld1 v18 fun v19 =>
  pv (cvI .u64 v19) fun v20 =>
  cal Pg R 41 ⟨[v17, x4, v20]⟩ fun v21 =>
  drewV (
  pv (ixA 4 2 v2 (.int .i64 3)) fun v22 =>
  ldN 2 v22 fun v23 =>
  mem fun w25 => cal Pg noR 42 ⟨[x4]⟩ fun v24 =>
  rdN 2 v22 v23 <|
  mem fun w27 => cal Pg noR 41 ⟨[v23, x4, v24]⟩ fun v26 =>
  R (.returned (.tuple ⟨[x4, (.int .i64 0)]⟩)))
theorem F16_j2_ok (R : ER) (e : Env) : den Pg R (cd Try.f16 [1,1,1,1,1]) e (kont Pg R Try.f16) = (F16_j2 R (e 1) (e 4)) := by kernel_rfl
def F16_j1 (R : ER) (x1 : Value) : WP :=
  drewV (
  mem fun w29 => valV Pg noR (Instr.makeSlice 24 (.int .i64 24) (.int .i64 24)) fun v28 =>
  pv (faO 4 x1) fun v30 =>
  ld1S [w29] v30 fun v31 =>
  mem fun w33 => blt Pg noR .append ⟨[24,24]⟩ 24 ⟨[false, false]⟩ ⟨[v28, v31]⟩ fun v32 =>
  pv (faO 0 x1) fun v34 =>
  ld1 v34 fun v35 =>
  pv (cvI .u8 v35) fun v36 =>
  pv (ixS 1 v32 (.int .i64 0)) fun v37 =>
  st1 v37 v36 fun _ =>
  pv (faO 1 x1) fun v38 =>
  ld1 v38 fun v39 =>
  cnd v39 (
   pv (ixS 1 v32 (.int .i64 1)) fun v40 =>
   st1 v40 (.int .u8 1) fun _ =>
   F16_j2 R x1 v32) (
   F16_j2 R x1 v32))
theorem F16_j1_ok (R : ER) (e : Env) : den Pg R (cd Try.f16 [1,1]) e (kont Pg R Try.f16) = (F16_j1 R (e 1)) := (den_join Pg R 2 (cd Try.f16 [1,1]) (cd Try.f16 [1,1,1,1,1]) e (kont Pg R Try.f16) (fun e => F16_j2 R (e 1) (e 4)) _ (by kernel_rfl) (fun e => F16_j2_ok R e) (by kernel_rfl))
def F16_j7 (R : ER) (x1 : Value) : WP :=
  pv (faO 2 x1) fun v41 =>
  ld1 v41 fun v42 =>
  pv (bin .lss v42 (.int .i64 1)) fun v43 =>
  gd v43 false (pv (faO 3 x1)) fun v44 =>
  gd v43 false (ld1 v44) fun v45 =>
  gd v43 false (pv (bin .lss v45 (.int .i64 0))) fun v46 =>
  pv (pickO v43 (.bool true) v46) fun v47 =>
  gd v47 false (pv (faO 3 x1)) fun v48 =>
  gd v47 false (ld1 v48) fun v49 =>
  gd v47 false (pv (bin .gtr v49 (.int .i64 2147483647))) fun v50 =>
  pv (pickO v47 (.bool true) v50) fun v51 =>
  cnd v51 (
   R (.returned (.tuple ⟨[(.slice none 0 0), (.int .i64 34)]⟩))) (
   pv (faO 4 x1) fun v52 =>
   ld1 v52 fun v53 =>
   pv (lenS v53) fun v54 =>
   pv (bin .gtr v54 (.int .i64 4096)) fun v55 =>
   cnd v55 (
    R (.returned (.tuple ⟨[(.slice none 0 0), (.int .i64 20)]⟩))) (
    F16_j1 R x1))
theorem F16_j7_ok (R : ER) (e : Env) : den Pg R (cd Try.f16 [1,0,0,1,1,1,1]) e (inB 0 (setN (kont Pg R Try.f16) (fun e => F16_j1 R (e 1)))) = (F16_j7 R (e 1)) := (by kernel_rfl)
def F16_j6 (R : ER) (x1 x15 : Value) : WP :=
  cnd x15 (R (.returned (.tuple ⟨[(.slice none 0 0), (.int .i64 14)]⟩))) (F16_j7 R x1)
theorem F16_j6_ok (R : ER) (e : Env) : den Pg R (cd Try.f16 [1,0,0,1,1,1]) e (inB 0 (setN (kont Pg R Try.f16) (fun e => F16_j1 R (e 1)))) = (F16_j6 R (e 1) (e 15)) := (den_if Pg R (cd Try.f16 [1,0,0,1,1,1]) (cd Try.f16 [1,0,0,1,1,1,0]) (cd Try.f16 [1,0,0,1,1,1,1]) e (inB 0 (setN (kont Pg R Try.f16) (fun e => F16_j1 R (e 1)))) _ (F16_j7 R (e 1)) _ (by kernel_rfl) rfl (F16_j7_ok R e) (by kernel_rfl))
def F16_j5 (R : ER) (x1 : Value) : WP :=
  pv (faO 0 x1) fun v56 =>
  ld1 v56 fun v57 =>
  pv (bin .eql v57 (.int .i64 2)) fun v58 =>
  gd v58 true (pv (faO 1 x1)) fun v59 =>
  gd v58 true (ld1 v59) fun v60 =>
  gd v58 true (pv (some v60)) fun v61 =>
  gd v61 false (pv (faO 4 x1)) fun v62 =>
  gd v61 false (ld1 v62) fun v63 =>
  gd v61 false (pv (lenS v63)) fun v64 =>
  gd v61 false (pv (bin .gtr v64 (.int .i64 0))) fun v65 =>
  gd v58 true (pv (pickO v61 (.bool true) v65)) fun v66 =>
  pv (pickO v58 v66 (.bool false)) fun v67 =>
  F16_j6 R x1 v67
theorem F16_j5_ok (R : ER) (e : Env) : den Pg R (cd Try.f16 [1,0,0,1,1]) e (inB 0 (setN (kont Pg R Try.f16) (fun e => F16_j1 R (e 1)))) = (F16_j5 R (e 1)) := (den_join Pg R 0 (cd Try.f16 [1,0,0,1,1]) (cd Try.f16 [1,0,0,1,1,1]) e (inB 0 (setN (kont Pg R Try.f16) (fun e => F16_j1 R (e 1)))) (fun e => F16_j6 R (e 1) (e 15)) _ (by kernel_rfl) (fun e => F16_j6_ok R e) (by kernel_rfl))
def F16_j4 (R : ER) (x1 x6 : Value) : WP :=
  cnd x6 (R (.returned (.tuple ⟨[(.slice none 0 0), (.int .i64 17)]⟩))) (F16_j5 R x1)
theorem F16_j4_ok (R : ER) (e : Env) : den Pg R (cd Try.f16 [1,0,0,1]) e (inB 0 (setN (kont Pg R Try.f16) (fun e => F16_j1 R (e 1)))) = (F16_j4 R (e 1) (e 6)) := (den_if Pg R (cd Try.f16 [1,0,0,1]) (cd Try.f16 [1,0,0,1,0]) (cd Try.f16 [1,0,0,1,1]) e (inB 0 (setN (kont Pg R Try.f16) (fun e => F16_j1 R (e 1)))) _ (F16_j5 R (e 1)) _ (by kernel_rfl) rfl (F16_j5_ok R e) (by kernel_rfl))
def F16_j3 (R : ER) (x1 : Value) : WP :=
  pv (faO 0 x1) fun v68 =>
  ld1 v68 fun v69 =>
  pv (bin .neq v69 (.int .i64 1)) fun v70 =>
  gd v70 true (pv (faO 0 x1)) fun v71 =>
  gd v70 true (ld1 v71) fun v72 =>
  gd v70 true (pv (bin .neq v72 (.int .i64 2))) fun v73 =>
  pv (pickO v70 v73 (.bool false)) fun v74 =>
  F16_j4 R x1 v74
theorem F16_j3_ok (R : ER) (e : Env) : den Pg R (cd Try.f16 [1,0]) e (setN (kont Pg R Try.f16) (fun e => F16_j1 R (e 1))) = (F16_j3 R (e 1)) := (den_block Pg R (cd Try.f16 [1,0]) 0 (cd Try.f16 [1,0,0]) e (setN (kont Pg R Try.f16) (fun e => F16_j1 R (e 1))) _ (by kernel_rfl) (den_join Pg R 0 (cd Try.f16 [1,0,0]) (cd Try.f16 [1,0,0,1]) e (inB 0 (setN (kont Pg R Try.f16) (fun e => F16_j1 R (e 1)))) (fun e => F16_j4 R (e 1) (e 6)) _ (by kernel_rfl) (fun e => F16_j4_ok R e) (by kernel_rfl)))
def F16 (R : ER) (x0 : Value) : WP :=
  bx 48 x0 fun v75 =>
  F16_j3 R v75
theorem links_Encode_den (R : ER) (x0 : Value) : den Pg R (cd Try.f16 []) (argsEnv [x0]) (kont Pg R Try.f16) = F16 R x0 :=
  have h : ∀ e, den Pg R (cd Try.f16 []) e (kont Pg R Try.f16) = F16 R (e 0) := fun e => (den_join Pg R 1 (cd Try.f16 []) (cd Try.f16 [1,1]) e (kont Pg R Try.f16) (fun e => F16_j1 R (e 1)) _ (by kernel_rfl) (fun e => F16_j1_ok R e) (den_join Pg R 0 (pre 1 (cd Try.f16 [])) (cd Try.f16 [1,0]) e (setN (kont Pg R Try.f16) (fun e => F16_j1 R (e 1))) (fun e => F16_j3 R (e 1)) _ (by kernel_rfl) (fun e => F16_j3_ok R e) (by kernel_rfl)))
  h _
theorem F16_calls {R : ER} {x0 : Value} {w : World} (h : F16 R x0 w) : Calls Pg 16 ⟨[x0]⟩ w R :=
  calls_of_den Try.func16 (by kernel_rfl) (by kernel_rfl) (links_Encode_den R x0) h
/-! ### 17: F17 -/
def F17_j6 (R : ER) (x1 x5 : Value) : WP :=
  drewV (
  pv (faO 2 x1) fun v1 =>
  ld1 v1 fun v2 =>
  pv (cvI .u64 v2) fun v3 =>
  mem fun w5 => cal Pg noR 43 ⟨[v3, (.int .i64 8)]⟩ fun v4 =>
  mem fun w7 => blt Pg noR .append ⟨[24,24]⟩ 24 ⟨[false, false]⟩ ⟨[x5, v4]⟩ fun v6 =>
  pv (faO 3 x1) fun v8 =>
  ld1S [w7, w5] v8 fun v9 =>
  pv (cvI .u64 v9) fun v10 =>
  mem fun w12 => cal Pg noR 43 ⟨[v10, (.int .i64 4)]⟩ fun v11 =>
  mem fun w14 => blt Pg noR .append ⟨[24,24]⟩ 24 ⟨[false, false]⟩ ⟨[v6, v11]⟩ fun v13 =>
  drewV (
  mem fun w16 => valV Pg noR (Instr.buildSlice 24 0 ⟨[]⟩) fun v15 =>
  mem fun w18 => blt Pg noR .append ⟨[24,24]⟩ 24 ⟨[false, false]⟩ ⟨[v15, v13]⟩ fun v17 =>
  pv (faO 4 x1) fun v19 =>
  ld1S [w18, w16] v19 fun v20 =>
  mem fun w22 => blt Pg noR .append ⟨[24,24]⟩ 24 ⟨[false, false]⟩ ⟨[v17, v20]⟩ fun v21 =>
  mem fun w24 => cal Pg noR 44 ⟨[v21]⟩ fun v23 =>
  drewV (
  mem fun w26 => cal Pg noR 43 ⟨[v23, (.int .i64 8)]⟩ fun v25 =>
  mem fun w28 => blt Pg noR .append ⟨[24,24]⟩ 24 ⟨[false, false]⟩ ⟨[v13, v25]⟩ fun v27 =>
  pv (faO 4 x1) fun v29 =>
  ld1S [w28, w26] v29 fun v30 =>
  mem fun w32 => blt Pg noR .append ⟨[24,24]⟩ 24 ⟨[false, false]⟩ ⟨[v27, v30]⟩ fun v31 =>
  R (.returned (.tuple ⟨[v31, (.int .i64 0)]⟩)))))
theorem F17_j6_ok (R : ER) (e : Env) : den Pg R (cd Try.f17 [1,1,1,1,1,1,1,1]) e (kont Pg R Try.f17) = (F17_j6 R (e 1) (e 5)) := by kernel_rfl
def F17_j5 (R : ER) (x1 x4 : Value) : WP :=
  drewV (
  pv (faO 0 x1) fun v33 =>
  ld1 v33 fun v34 =>
  pv (cvI .u8 v34) fun v35 =>
  pv (faO 4 x1) fun v36 =>
  ld1 v36 fun v37 =>
  pv (lenS v37) fun v38 =>
  pv (cvI .u64 v38) fun v39 =>
  allW [
  (mem fun w41 => valV Pg noR (Instr.buildSlice 24 2 ⟨[(0, v35), (1, x4)]⟩) fun v40 =>
   rd1 v36 v37 <|
   mem fun w43 => cal Pg noR 43 ⟨[v39, (.int .i64 2)]⟩ fun v42 =>
   rd1 v33 v34 <|
   mem fun w45 => blt Pg noR .append ⟨[24,24]⟩ 24 ⟨[false, false]⟩ ⟨[v40, v42]⟩ fun v44 =>
   F17_j6 R x1 v44),
  (mem fun w47 => cal Pg noR 43 ⟨[v39, (.int .i64 2)]⟩ fun v46 =>
   rd1 v33 v34 <|
   mem fun w49 => valV Pg noR (Instr.buildSlice 24 2 ⟨[(0, v35), (1, x4)]⟩) fun v48 =>
   rd1 v36 v37 <|
   mem fun w51 => blt Pg noR .append ⟨[24,24]⟩ 24 ⟨[false, false]⟩ ⟨[v48, v46]⟩ fun v50 =>
   F17_j6 R x1 v50)])
theorem F17_j5_ok (R : ER) (e : Env) : den Pg R (cd Try.f17 [1,1,1,1,1,1,1]) e (kont Pg R Try.f17) = (F17_j5 R (e 1) (e 4)) := (den_join Pg R 0 (cd Try.f17 [1,1,1,1,1,1,1]) (cd Try.f17 [1,1,1,1,1,1,1,1]) e (kont Pg R Try.f17) (fun e => F17_j6 R (e 1) (e 5)) _ (by kernel_rfl) (fun e => F17_j6_ok R e) (by kernel_rfl))
def F17_j4 (R : ER) (x1 : Value) : WP :=
  pv (faO 1 x1) fun v52 =>
  ld1 v52 fun v53 =>
  cnd v53 (
   F17_j5 R x1 (.int .u8 1)) (
   F17_j5 R x1 (.int .u8 0))
theorem F17_j4_ok (R : ER) (e : Env) : den Pg R (cd Try.f17 [1,1,1,1,1]) e (kont Pg R Try.f17) = (F17_j4 R (e 1)) := (den_join Pg R 1 (cd Try.f17 [1,1,1,1,1]) (cd Try.f17 [1,1,1,1,1,1,1]) e (kont Pg R Try.f17) (fun e => F17_j5 R (e 1) (e 4)) _ (by kernel_rfl) (fun e => F17_j5_ok R e) (by kernel_rfl))
def F17_j3 (R : ER) (x1 : Value) : WP :=
  pv (faO 4 x1) fun v54 =>
  ld1 v54 fun v55 =>
  pv (lenS v55) fun v56 =>
  pv (bin .gtr v56 (.int .i64 4096)) fun v57 =>
  cnd v57 (
   R (.returned (.tuple ⟨[(.slice none 0 0), (.int .i64 20)]⟩))) (
   F17_j4 R x1)
theorem F17_j3_ok (R : ER) (e : Env) : den Pg R (cd Try.f17 [1,1,1,1]) e (kont Pg R Try.f17) = (F17_j3 R (e 1)) := (den_join Pg R 0 (cd Try.f17 [1,1,1,1]) (cd Try.f17 [1,1,1,1,1]) e (kont Pg R Try.f17) (fun e => F17_j4 R (e 1)) _ (by kernel_rfl) (fun e => F17_j4_ok R e) (by kernel_rfl))
def F17_j7 (R : ER) (x1 : Value) : WP :=
  pv (faO 2 x1) fun v58 =>
  ld1 v58 fun v59 =>
  pv (bin .lss v59 (.int .i64 1)) fun v60 =>
  gd v60 false (pv (faO 3 x1)) fun v61 =>
  gd v60 false (ld1 v61) fun v62 =>
  gd v60 false (pv (bin .lss v62 (.int .i64 0))) fun v63 =>
  pv (pickO v60 (.bool true) v63) fun v64 =>
  gd v64 false (pv (faO 3 x1)) fun v65 =>
  gd v64 false (ld1 v65) fun v66 =>
  gd v64 false (pv (bin .gtr v66 (.int .i64 2147483647))) fun v67 =>
  pv (pickO v64 (.bool true) v67) fun v68 =>
  cnd v68 (
   R (.returned (.tuple ⟨[(.slice none 0 0), (.int .i64 34)]⟩))) (
   F17_j3 R x1)
theorem F17_j7_ok (R : ER) (e : Env) : den Pg R (cd Try.f17 [1,1,1,0]) e (setN (kont Pg R Try.f17) (fun e => F17_j3 R (e 1))) = (F17_j7 R (e 1)) := (by kernel_rfl)
def F17_j2 (R : ER) (x1 : Value) : WP :=
  F17_j7 R x1
theorem F17_j2_ok (R : ER) (e : Env) : den Pg R (cd Try.f17 [1,1,1]) e (kont Pg R Try.f17) = (F17_j2 R (e 1)) := (den_join Pg R 0 (cd Try.f17 [1,1,1]) (cd Try.f17 [1,1,1,1]) e (kont Pg R Try.f17) (fun e => F17_j3 R (e 1)) _ (by kernel_rfl) (fun e => F17_j3_ok R e) (den_conv Pg R (pre 0 (cd Try.f17 [1,1,1])) (cd Try.f17 [1,1,1,0]) e (setN (kont Pg R Try.f17) (fun e => F17_j3 R (e 1))) _ (by kernel_rfl) (F17_j7_ok R e)))
def F17_j8 (R : ER) (x1 : Value) : WP :=
  pv (faO 0 x1) fun v69 =>
  ld1 v69 fun v70 =>
  pv (bin .eql v70 (.int .i64 2)) fun v71 =>
  gd v71 true (pv (faO 1 x1)) fun v72 =>
  gd v71 true (ld1 v72) fun v73 =>
  gd v71 true (pv (some v73)) fun v74 =>
  gd v74 false (pv (faO 4 x1)) fun v75 =>
  gd v74 false (ld1 v75) fun v76 =>
  gd v74 false (pv (lenS v76)) fun v77 =>
  gd v74 false (pv (bin .gtr v77 (.int .i64 0))) fun v78 =>
  gd v71 true (pv (pickO v74 (.bool true) v78)) fun v79 =>
  pv (pickO v71 v79 (.bool false)) fun v80 =>
  cnd v80 (
   R (.returned (.tuple ⟨[(.slice none 0 0), (.int .i64 14)]⟩))) (
   F17_j2 R x1)
theorem F17_j8_ok (R : ER) (e : Env) : den Pg R (cd Try.f17 [1,1,0]) e (setN (kont Pg R Try.f17) (fun e => F17_j2 R (e 1))) = (F17_j8 R (e 1)) := (by kernel_rfl)
def F17_j1 (R : ER) (x1 : Value) : WP :=
  F17_j8 R x1
theorem F17_j1_ok (R : ER) (e : Env) : den Pg R (cd Try.f17 [1,1]) e (kont Pg R Try.f17) = (F17_j1 R (e 1)) := (den_join Pg R 0 (cd Try.f17 [1,1]) (cd Try.f17 [1,1,1]) e (kont Pg R Try.f17) (fun e => F17_j2 R (e 1)) _ (by kernel_rfl) (fun e => F17_j2_ok R e) (den_conv Pg R (pre 0 (cd Try.f17 [1,1])) (cd Try.f17 [1,1,0]) e (setN (kont Pg R Try.f17) (fun e => F17_j2 R (e 1))) _ (by kernel_rfl) (F17_j8_ok R e)))
def F17 (R : ER) (x0 : Value) : WP :=
  bx 52 x0 fun v81 =>
  pv (faO 0 v81) fun v82 =>
  ld1 v82 fun v83 =>
  pv (bin .neq v83 (.int .i64 1)) fun v84 =>
  gd v84 true (pv (faO 0 v81)) fun v85 =>
  gd v84 true (ld1 v85) fun v86 =>
  gd v84 true (pv (bin .neq v86 (.int .i64 2))) fun v87 =>
  pv (pickO v84 v87 (.bool false)) fun v88 =>
  cnd v88 (
   R (.returned (.tuple ⟨[(.slice none 0 0), (.int .i64 17)]⟩))) (
   F17_j1 R v81)
theorem orpimentref35_Encode_den (R : ER) (x0 : Value) : den Pg R (cd Try.f17 []) (argsEnv [x0]) (kont Pg R Try.f17) = F17 R x0 :=
  have h : ∀ e, den Pg R (cd Try.f17 []) e (kont Pg R Try.f17) = F17 R (e 0) := fun e => (den_join Pg R 1 (cd Try.f17 []) (cd Try.f17 [1,1]) e (kont Pg R Try.f17) (fun e => F17_j1 R (e 1)) _ (by kernel_rfl) (fun e => F17_j1_ok R e) (by kernel_rfl))
  h _
theorem F17_calls {R : ER} {x0 : Value} {w : World} (h : F17 R x0 w) : Calls Pg 17 ⟨[x0]⟩ w R :=
  calls_of_den Try.func17 (by kernel_rfl) (by kernel_rfl) (orpimentref35_Encode_den R x0) h
/-! ### 18: F18 -/
def F18 (R : ER) (x0 : Value) : WP :=
  bx 48 x0 fun v1 =>
  al Pg 52 fun v2 =>
  pv (faO 0 v1) fun v3 =>
  ld1 v3 fun v4 =>
  pv (faO 1 v1) fun v5 =>
  ld1 v5 fun v6 =>
  pv (faO 2 v1) fun v7 =>
  ld1 v7 fun v8 =>
  pv (faO 3 v1) fun v9 =>
  ld1 v9 fun v10 =>
  pv (faO 4 v1) fun v11 =>
  ld1 v11 fun v12 =>
  pv (bldO [.int .i64 0, .bool false, .int .i64 0, .int .i64 0, .slice none 0 0] [(0,1, v4), (1,1, v6), (2,1, v8), (3,1, v10), (4,1, v12)]) fun v13 =>
  stN 5 v2 v13 fun _ =>
  ldN 5 v2 fun v14 => R (.returned v14)
theorem orpimentlaw35_frame_den (R : ER) (x0 : Value) : den Pg R (cd Try.f18 []) (argsEnv [x0]) (kont Pg R Try.f18) = F18 R x0 :=
  have h : ∀ e, den Pg R (cd Try.f18 []) e (kont Pg R Try.f18) = F18 R (e 0) := fun e => by kernel_rfl
  h _
theorem F18_calls {R : ER} {x0 : Value} {w : World} (h : F18 R x0 w) : Calls Pg 18 ⟨[x0]⟩ w R :=
  calls_of_den Try.func18 (by kernel_rfl) (by kernel_rfl) (orpimentlaw35_frame_den R x0) h
/-! ### 19: F19 -/
def F19_j2 (R : ER) : WP :=
  R (.returned (.bool true))
theorem F19_j2_ok (R : ER) (e : Env) : den Pg R (cd Try.f19 [1,1,1]) e (kont Pg R Try.f19) = (F19_j2 R) := by kernel_rfl
def F19_j5 (R : ER) (k1 : V4) (x0 x1 x12 x13 : Value) : WP :=
  drewV (
  pv (ixS 1 x0 x13) fun v1 =>
  ld1 v1 fun v2 =>
  pv (ixS 1 x1 x13) fun v3 =>
  ld1 v3 fun v4 =>
  pv (bin .neq v2 v4) fun v5 =>
  cnd v5 (
   R (.returned (.bool false))) (
   pv (bin .add x13 (.int .i64 1)) fun v6 =>
  k1 x0 x1 x12 v6))
theorem F19_j5_ok (R : ER) (k1 : V4) (e : Env) : den Pg R (cd Try.f19 [1,1,0,1,0,0,1,1]) e (setN (inB 0 (setN (kont Pg R Try.f19) (fun e => F19_j2 R))) (fun e => k1 (e 0) (e 1) (e 12) (e 13))) = (F19_j5 R k1 (e 0) (e 1) (e 12) (e 13)) := (by kernel_rfl)
def F19_b1 (R : ER) (k1 : V4) (x0 x1 x12 x13 : Value) : WP :=
  pv (bin .lss x13 x12) fun v7 =>
  cnd v7 (
   F19_j5 R k1 x0 x1 x12 x13) (
   F19_j2 R)
theorem F19_b1_ok (R : ER) (k1 : V4) (e : Env) : den Pg R (cd Try.f19 [1,1,0,1,0,0]) e (setN (inB 0 (setN (kont Pg R Try.f19) (fun e => F19_j2 R))) (fun e => k1 (e 0) (e 1) (e 12) (e 13))) = (F19_b1 R k1 (e 0) (e 1) (e 12) (e 13)) := (den_join Pg R 1 (cd Try.f19 [1,1,0,1,0,0]) (cd Try.f19 [1,1,0,1,0,0,1,1]) e (setN (inB 0 (setN (kont Pg R Try.f19) (fun e => F19_j2 R))) (fun e => k1 (e 0) (e 1) (e 12) (e 13))) (fun e => F19_j5 R k1 (e 0) (e 1) (e 12) (e 13)) _ (by kernel_rfl) (fun e => F19_j5_ok R k1 e) (by kernel_rfl))
noncomputable def F19_l1 (R : ER) (n : Nat) : V4 := Nat.rec (motive := fun _ => V4) (fun _ _ _ _ => fun _ => False) (fun _ ih => fun x0 x1 x12 x13 => F19_b1 R ih x0 x1 x12 x13) n
theorem F19_l1_succ (R : ER) (n : Nat) (x0 x1 x12 x13 : Value) : F19_l1 R (n + 1) x0 x1 x12 x13 = F19_b1 R (F19_l1 R n) x0 x1 x12 x13 := rfl
theorem F19_l1_ok (R : ER) : ∀ (n : Nat) (e : Env), iterL (den Pg R (cd Try.f19 [1,1,0,1,0,0])) n e (inB 0 (setN (kont Pg R Try.f19) (fun e => F19_j2 R))) = F19_l1 R n (e 0) (e 1) (e 12) (e 13) :=
  iterL_join (den Pg R (cd Try.f19 [1,1,0,1,0,0])) (inB 0 (setN (kont Pg R Try.f19) (fun e => F19_j2 R))) (fun n e => F19_l1 R n (e 0) (e 1) (e 12) (e 13)) (fun _ => rfl) (fun n e => (F19_b1_ok R (F19_l1 R n) e).trans (F19_l1_succ R n (e 0) (e 1) (e 12) (e 13)).symm)
def F19_j4 (R : ER) (x0 x1 x12 x13 : Value) : WP :=
  exN fun n => F19_l1 R n x0 x1 x12 x13
theorem F19_j4_ok (R : ER) (e : Env) : den Pg R (cd Try.f19 [1,1,0,1]) e (setN (kont Pg R Try.f19) (fun e => F19_j2 R)) = (F19_j4 R (e 0) (e 1) (e 12) (e 13)) := (den_block Pg R (cd Try.f19 [1,1,0,1]) 0 (cd Try.f19 [1,1,0,1,0]) e (setN (kont Pg R Try.f19) (fun e => F19_j2 R)) _ (by kernel_rfl) (den_loop Pg R (cd Try.f19 [1,1,0,1,0]) (cd Try.f19 [1,1,0,1,0,0]) e (inB 0 (setN (kont Pg R Try.f19) (fun e => F19_j2 R))) (fun n e => F19_l1 R n (e 0) (e 1) (e 12) (e 13)) _ (by kernel_rfl) (F19_l1_ok R) (by kernel_rfl)))
def F19_j3 (R : ER) (x0 x1 : Value) : WP :=
  pv (lenS x0) fun v8 =>
  F19_j4 R x0 x1 v8 (.int .i64 0)
theorem F19_j3_ok (R : ER) (e : Env) : den Pg R (cd Try.f19 [1,1,0]) e (setN (kont Pg R Try.f19) (fun e => F19_j2 R)) = (F19_j3 R (e 0) (e 1)) := (den_join Pg R 0 (cd Try.f19 [1,1,0]) (cd Try.f19 [1,1,0,1]) e (setN (kont Pg R Try.f19) (fun e => F19_j2 R)) (fun e => F19_j4 R (e 0) (e 1) (e 12) (e 13)) _ (by kernel_rfl) (fun e => F19_j4_ok R e) (by kernel_rfl))
def F19_j1 (R : ER) (x0 x1 : Value) : WP :=
  F19_j3 R x0 x1
theorem F19_j1_ok (R : ER) (e : Env) : den Pg R (cd Try.f19 [1,1]) e (kont Pg R Try.f19) = (F19_j1 R (e 0) (e 1)) := (den_join Pg R 0 (cd Try.f19 [1,1]) (cd Try.f19 [1,1,1]) e (kont Pg R Try.f19) (fun e => F19_j2 R) _ (by kernel_rfl) (fun e => F19_j2_ok R e) (den_conv Pg R (pre 0 (cd Try.f19 [1,1])) (cd Try.f19 [1,1,0]) e (setN (kont Pg R Try.f19) (fun e => F19_j2 R)) _ (by kernel_rfl) (F19_j3_ok R e)))
def F19 (R : ER) (x0 x1 : Value) : WP :=
  pv (lenS x0) fun v9 =>
  pv (lenS x1) fun v10 =>
  pv (bin .neq v9 v10) fun v11 =>
  cnd v11 (
   R (.returned (.bool false))) (
   F19_j1 R x0 x1)
theorem slices_Equal_den (R : ER) (x0 x1 : Value) : den Pg R (cd Try.f19 []) (argsEnv [x0, x1]) (kont Pg R Try.f19) = F19 R x0 x1 :=
  have h : ∀ e, den Pg R (cd Try.f19 []) e (kont Pg R Try.f19) = F19 R (e 0) (e 1) := fun e => (den_join Pg R 1 (cd Try.f19 []) (cd Try.f19 [1,1]) e (kont Pg R Try.f19) (fun e => F19_j1 R (e 0) (e 1)) _ (by kernel_rfl) (fun e => F19_j1_ok R e) (by kernel_rfl))
  h _
theorem F19_calls {R : ER} {x0 x1 : Value} {w : World} (h : F19 R x0 x1 w) : Calls Pg 19 ⟨[x0, x1]⟩ w R :=
  calls_of_den Try.func19 (by kernel_rfl) (by kernel_rfl) (slices_Equal_den R x0 x1) h
/-! ### 20: F20 -/
def F20_j4 (R : ER) (x0 x2 x4 x5 x6 : Value) : WP :=
  pv (ixA 4 2 x5 (.int .i64 3)) fun v1 =>
  ldN 2 v1 fun v2 =>
  ldN 24 x4 fun v3 =>
  cal Pg R 45 ⟨[v2, v3]⟩ fun v4 =>
  cal Pg R 42 ⟨[x0]⟩ fun v5 =>
  pv (bin .neq v4 v5) fun v6 =>
  cnd v6 (
   pv (bldO [.int .i64 0, .bool false, .int .i64 0, .int .i64 0, .slice none 0 0] []) fun v7 =>
   stN 5 x2 v7 fun _ =>
   ldN 5 x2 fun v8 => R (.returned (.tuple ⟨[v8, (.int .i64 6)]⟩))) (
   ldN 5 x6 fun v9 =>
  stN 5 x2 v9 fun _ =>
  ldN 5 x2 fun v10 => R (.returned (.tuple ⟨[v10, (.int .i64 0)]⟩)))
theorem F20_j4_ok (R : ER) (e : Env) : den Pg R (cd Try.f20 [1,1,1,1,1,1]) e (kont Pg R Try.f20) = (F20_j4 R (e 0) (e 2) (e 4) (e 5) (e 6)) := (by kernel_rfl)
def F20_j5 (R : ER) (x0 x2 x4 x5 x6 x7 : Value) : WP :=
  drewV (
  pv (unO .not x7) fun v11 =>
  gd v11 false (pv (ixA 24 1 x4 (.int .i64 1))) fun v12 =>
  gd v11 false (ld1 v12) fun v13 =>
  gd v11 false (pv (bin .gtr v13 (.int .u8 1))) fun v14 =>
  pv (pickO v11 (.bool true) v14) fun v15 =>
  gd v15 false (pv (ixA 4 2 x5 (.int .i64 0))) fun v16 =>
  gd v15 false (ldN 2 v16) fun v17 =>
  gd v15 false (ldN 24 x4) fun v18 =>
  mem fun w20 => gd v15 false (cal Pg noR 45 ⟨[v17, v18]⟩) fun v19 =>
  gd v15 false (pv (cvI .i64 v19)) fun v21 =>
  gd v15 false (pv (faO 4 x6)) fun v22 =>
  gd v15 false (ld1S [w20] v22) fun v23 =>
  gd v15 false (pv (lenS v23)) fun v24 =>
  gd v15 false (pv (bin .neq v21 v24)) fun v25 =>
  pv (pickO v15 (.bool true) v25) fun v26 =>
  gd v26 false (pv (faO 2 x6)) fun v27 =>
  gd v26 false (ld1 v27) fun v28 =>
  gd v26 false (pv (bin .lss v28 (.int .i64 1))) fun v29 =>
  pv (pickO v26 (.bool true) v29) fun v30 =>
  gd v30 false (pv (faO 3 x6)) fun v31 =>
  gd v30 false (ld1 v31) fun v32 =>
  gd v30 false (pv (bin .gtr v32 (.int .i64 2147483647))) fun v33 =>
  pv (pickO v30 (.bool true) v33) fun v34 =>
  cnd v34 (
   pv (bldO [.int .i64 0, .bool false, .int .i64 0, .int .i64 0, .slice none 0 0] []) fun v35 =>
   stN 5 x2 v35 fun _ =>
   ldN 5 x2 fun v36 => R (.returned (.tuple ⟨[v36, (.int .i64 12)]⟩))) (
   F20_j4 R x0 x2 x4 x5 x6))
theorem F20_j5_ok (R : ER) (e : Env) : den Pg R (cd Try.f20 [1,1,1,1,1,0]) e (setN (kont Pg R Try.f20) (fun e => F20_j4 R (e 0) (e 2) (e 4) (e 5) (e 6))) = (F20_j5 R (e 0) (e 2) (e 4) (e 5) (e 6) (e 7)) := (by kernel_rfl)
def F20_j3 (R : ER) (x0 x2 x4 x5 x6 : Value) : WP :=
  pv (faO 0 x6) fun v37 =>
  ld1 v37 fun v38 =>
  pv (bin .eql v38 (.int .i64 1)) fun v39 =>
  gd v39 false (pv (faO 0 x6)) fun v40 =>
  gd v39 false (ld1 v40) fun v41 =>
  gd v39 false (pv (bin .eql v41 (.int .i64 2))) fun v42 =>
  gd v39 false (pv (some v42)) fun v43 =>
  gd v43 true (pv (ixA 24 1 x4 (.int .i64 1))) fun v44 =>
  gd v43 true (ld1 v44) fun v45 =>
  gd v43 true (pv (bin .eql v45 (.int .u8 0))) fun v46 =>
  gd v39 false (pv (pickO v43 v46 (.bool false))) fun v47 =>
  gd v39 false (pv (some v47)) fun v48 =>
  gd v48 true (pv (faO 4 x6)) fun v49 =>
  gd v48 true (ld1 v49) fun v50 =>
  gd v48 true (pv (lenS v50)) fun v51 =>
  gd v48 true (pv (bin .eql v51 (.int .i64 0))) fun v52 =>
  gd v39 false (pv (pickO v48 v52 (.bool false))) fun v53 =>
  pv (pickO v39 (.bool true) v53) fun v54 =>
  F20_j5 R x0 x2 x4 x5 x6 v54
theorem F20_j3_ok (R : ER) (e : Env) : den Pg R (cd Try.f20 [1,1,1,1]) e (kont Pg R Try.f20) = (F20_j3 R (e 0) (e 2) (e 4) (e 5) (e 6)) := (den_join Pg R 1 (cd Try.f20 [1,1,1,1]) (cd Try.f20 [1,1,1,1,1,1]) e (kont Pg R Try.f20) (fun e => F20_j4 R (e 0) (e 2) (e 4) (e 5) (e 6)) _ (by kernel_rfl) (fun e => F20_j4_ok R e) (den_join Pg R 0 (pre 1 (cd Try.f20 [1,1,1,1])) (cd Try.f20 [1,1,1,1,1,0]) e (setN (kont Pg R Try.f20) (fun e => F20_j4 R (e 0) (e 2) (e 4) (e 5) (e 6))) (fun e => F20_j5 R (e 0) (e 2) (e 4) (e 5) (e 6) (e 7)) _ (by kernel_rfl) (fun e => F20_j5_ok R e) (by kernel_rfl)))
def F20_j2 (R : ER) (x0 x2 x4 x5 : Value) : WP :=
  drewV (
  pv (ixA 24 1 x4 (.int .i64 0)) fun v55 =>
  ld1 v55 fun v56 =>
  pv (cvI .i64 v56) fun v57 =>
  pv (ixA 24 1 x4 (.int .i64 1)) fun v58 =>
  ld1 v58 fun v59 =>
  pv (bin .eql v59 (.int .u8 1)) fun v60 =>
  pv (ixA 4 2 x5 (.int .i64 1)) fun v61 =>
  ldN 2 v61 fun v62 =>
  ldN 24 x4 fun v63 =>
  pv (ixA 4 2 x5 (.int .i64 2)) fun v64 =>
  ldN 2 v64 fun v65 =>
  ldN 24 x4 fun v66 =>
  pv (slS 1 x0 (some (.int .i64 24)) none) fun v67 =>
  allW [
  (mem fun w69 => cal Pg noR 45 ⟨[v62, v63]⟩ fun v68 =>
   rdN 24 x4 v66 <|
   rdN 2 v64 v65 <|
   rd1 v58 v59 <|
   rd1 v55 v56 <|
   pv (cvI .i64 v68) fun v70 =>
   allW [
   (mem fun w72 => cal Pg noR 45 ⟨[v65, v66]⟩ fun v71 =>
    rd1 v58 v59 <|
    rd1 v55 v56 <|
    pv (cvI .i64 v71) fun v73 =>
    allW [
    (mem fun w75 => cal Pg noR 26 ⟨[v67]⟩ fun v74 =>
     rd1 v58 v59 <|
     rd1 v55 v56 <|
     pv (bldO [.int .i64 0, .bool false, .int .i64 0, .int .i64 0, .slice none 0 0] [(0,1, v57), (1,1, v60), (2,1, v70), (3,1, v73), (4,1, v74)]) fun v76 =>
     mem fun w78 => al Pg 48 fun v77 =>
     rdN 24 x4 v66 <|
     rdN 2 v64 v65 <|
     rdN 24 x4 v63 <|
     rdN 2 v61 v62 <|
     rd1 v58 v59 <|
     rd1 v55 v56 <|
     mem fun w80 => stN 5 v77 v76 fun v79 =>
     F20_j3 R x0 x2 x4 x5 v77),
    (mem fun w82 => al Pg 48 fun v81 =>
     rdN 24 x4 v66 <|
     rdN 2 v64 v65 <|
     rdN 24 x4 v63 <|
     rdN 2 v61 v62 <|
     rd1 v58 v59 <|
     rd1 v55 v56 <|
     mem fun w84 => cal Pg noR 26 ⟨[v67]⟩ fun v83 =>
     rd1 v58 v59 <|
     rd1 v55 v56 <|
     pv (bldO [.int .i64 0, .bool false, .int .i64 0, .int .i64 0, .slice none 0 0] [(0,1, v57), (1,1, v60), (2,1, v70), (3,1, v73), (4,1, v83)]) fun v85 =>
     mem fun w87 => stN 5 v81 v85 fun v86 =>
     F20_j3 R x0 x2 x4 x5 v81)]),
   (mem fun w89 => al Pg 48 fun v88 =>
    rdN 24 x4 v66 <|
    rdN 2 v64 v65 <|
    rdN 24 x4 v63 <|
    rdN 2 v61 v62 <|
    rd1 v58 v59 <|
    rd1 v55 v56 <|
    mem fun w91 => cal Pg noR 45 ⟨[v65, v66]⟩ fun v90 =>
    rd1 v58 v59 <|
    rd1 v55 v56 <|
    pv (cvI .i64 v90) fun v92 =>
    mem fun w94 => cal Pg noR 26 ⟨[v67]⟩ fun v93 =>
    rd1 v58 v59 <|
    rd1 v55 v56 <|
    pv (bldO [.int .i64 0, .bool false, .int .i64 0, .int .i64 0, .slice none 0 0] [(0,1, v57), (1,1, v60), (2,1, v70), (3,1, v92), (4,1, v93)]) fun v95 =>
    mem fun w97 => stN 5 v88 v95 fun v96 =>
    F20_j3 R x0 x2 x4 x5 v88)]),
  (mem fun w99 => al Pg 48 fun v98 =>
   rdN 24 x4 v66 <|
   rdN 2 v64 v65 <|
   rdN 24 x4 v63 <|
   rdN 2 v61 v62 <|
   rd1 v58 v59 <|
   rd1 v55 v56 <|
   mem fun w101 => cal Pg noR 45 ⟨[v62, v63]⟩ fun v100 =>
   rdN 24 x4 v66 <|
   rdN 2 v64 v65 <|
   rd1 v58 v59 <|
   rd1 v55 v56 <|
   pv (cvI .i64 v100) fun v102 =>
   mem fun w104 => cal Pg noR 45 ⟨[v65, v66]⟩ fun v103 =>
   rd1 v58 v59 <|
   rd1 v55 v56 <|
   pv (cvI .i64 v103) fun v105 =>
   mem fun w107 => cal Pg noR 26 ⟨[v67]⟩ fun v106 =>
   rd1 v58 v59 <|
   rd1 v55 v56 <|
   pv (bldO [.int .i64 0, .bool false, .int .i64 0, .int .i64 0, .slice none 0 0] [(0,1, v57), (1,1, v60), (2,1, v102), (3,1, v105), (4,1, v106)]) fun v108 =>
   mem fun w110 => stN 5 v98 v108 fun v109 =>
   F20_j3 R x0 x2 x4 x5 v98)])
theorem F20_j2_ok (R : ER) (e : Env) : den Pg R (cd Try.f20 [1,1,1]) e (kont Pg R Try.f20) = (F20_j2 R (e 0) (e 2) (e 4) (e 5)) := (den_join Pg R 0 (cd Try.f20 [1,1,1]) (cd Try.f20 [1,1,1,1]) e (kont Pg R Try.f20) (fun e => F20_j3 R (e 0) (e 2) (e 4) (e 5) (e 6)) _ (by kernel_rfl) (fun e => F20_j3_ok R e) (by kernel_rfl))
def F20_j1 (R : ER) (x0 x2 : Value) : WP :=
  drewV (
  pv (arrO 24 x0) fun v111 =>
  ldN 24 v111 fun v112 =>
  allW [
  (mem fun w114 => cal Pg noR 40 ⟨[]⟩ fun v113 =>
   rdN 24 v111 v112 <|
   allW [
   (mem fun w116 => al Pg 117 fun v115 =>
    rdN 24 v111 v112 <|
    mem fun w118 => al Pg 112 fun v117 =>
    rdN 24 v111 v112 <|
    mem fun w120 => stN 24 v115 v112 fun v119 =>
    mem fun w122 => stN 8 v117 v113 fun v121 =>
    F20_j2 R x0 x2 v115 v117),
   (mem fun w124 => al Pg 112 fun v123 =>
    rdN 24 v111 v112 <|
    mem fun w126 => al Pg 117 fun v125 =>
    rdN 24 v111 v112 <|
    mem fun w128 => stN 24 v125 v112 fun v127 =>
    mem fun w130 => stN 8 v123 v113 fun v129 =>
    F20_j2 R x0 x2 v125 v123)]),
  (mem fun w132 => al Pg 117 fun v131 =>
   rdN 24 v111 v112 <|
   allW [
   (mem fun w134 => cal Pg noR 40 ⟨[]⟩ fun v133 =>
    rdN 24 v111 v112 <|
    mem fun w136 => al Pg 112 fun v135 =>
    rdN 24 v111 v112 <|
    mem fun w138 => stN 24 v131 v112 fun v137 =>
    mem fun w140 => stN 8 v135 v133 fun v139 =>
    F20_j2 R x0 x2 v131 v135),
   (mem fun w142 => al Pg 112 fun v141 =>
    rdN 24 v111 v112 <|
    mem fun w144 => cal Pg noR 40 ⟨[]⟩ fun v143 =>
    rdN 24 v111 v112 <|
    mem fun w146 => stN 24 v131 v112 fun v145 =>
    mem fun w148 => stN 8 v141 v143 fun v147 =>
    F20_j2 R x0 x2 v131 v141)]),
  (mem fun w150 => al Pg 112 fun v149 =>
   rdN 24 v111 v112 <|
   allW [
   (mem fun w152 => cal Pg noR 40 ⟨[]⟩ fun v151 =>
    rdN 24 v111 v112 <|
    mem fun w154 => al Pg 117 fun v153 =>
    rdN 24 v111 v112 <|
    mem fun w156 => stN 24 v153 v112 fun v155 =>
    mem fun w158 => stN 8 v149 v151 fun v157 =>
    F20_j2 R x0 x2 v153 v149),
   (mem fun w160 => al Pg 117 fun v159 =>
    rdN 24 v111 v112 <|
    mem fun w162 => cal Pg noR 40 ⟨[]⟩ fun v161 =>
    rdN 24 v111 v112 <|
    mem fun w164 => stN 24 v159 v112 fun v163 =>
    mem fun w166 => stN 8 v149 v161 fun v165 =>
    F20_j2 R x0 x2 v159 v149)])])
theorem F20_j1_ok (R : ER) (e : Env) : den Pg R (cd Try.f20 [1,1]) e (kont Pg R Try.f20) = (F20_j1 R (e 0) (e 2)) := (den_join Pg R 0 (cd Try.f20 [1,1]) (cd Try.f20 [1,1,1]) e (kont Pg R Try.f20) (fun e => F20_j2 R (e 0) (e 2) (e 4) (e 5)) _ (by kernel_rfl) (fun e => F20_j2_ok R e) (by kernel_rfl))
def F20 (R : ER) (x0 : Value) : WP :=
  al Pg 48 fun v167 =>
  pv (lenS x0) fun v168 =>
  pv (bin .lss v168 (.int .i64 24)) fun v169 =>
  gd v169 false (pv (some x0)) fun v170 =>
  gd v169 false (pv (lenS v170)) fun v171 =>
  gd v169 false (pv (bin .gtr v171 (.int .i64 4120))) fun v172 =>
  pv (pickO v169 (.bool true) v172) fun v173 =>
  cnd v173 (
   pv (bldO [.int .i64 0, .bool false, .int .i64 0, .int .i64 0, .slice none 0 0] []) fun v174 =>
   stN 5 v167 v174 fun _ =>
   ldN 5 v167 fun v175 => R (.returned (.tuple ⟨[v175, (.int .i64 12)]⟩))) (
   F20_j1 R x0 v167)
theorem links_Decode_den (R : ER) (x0 : Value) : den Pg R (cd Try.f20 []) (argsEnv [x0]) (kont Pg R Try.f20) = F20 R x0 :=
  have h : ∀ e, den Pg R (cd Try.f20 []) e (kont Pg R Try.f20) = F20 R (e 0) := fun e => (den_join Pg R 1 (cd Try.f20 []) (cd Try.f20 [1,1]) e (kont Pg R Try.f20) (fun e => F20_j1 R (e 0) (e 2)) _ (by kernel_rfl) (fun e => F20_j1_ok R e) (by kernel_rfl))
  h _
theorem F20_calls {R : ER} {x0 : Value} {w : World} (h : F20 R x0 w) : Calls Pg 20 ⟨[x0]⟩ w R :=
  calls_of_den Try.func20 (by kernel_rfl) (by kernel_rfl) (links_Decode_den R x0) h
/-! ### 21: F21 -/
def F21 (R : ER) (x0 x1 : Value) : WP :=
  bx 48 x0 fun v1 =>
  bx 52 x1 fun v2 =>
  pv (faO 0 v1) fun v3 =>
  ld1 v3 fun v4 =>
  pv (faO 0 v2) fun v5 =>
  ld1 v5 fun v6 =>
  pv (bin .eql v4 v6) fun v7 =>
  gd v7 true (pv (faO 1 v1)) fun v8 =>
  gd v7 true (ld1 v8) fun v9 =>
  gd v7 true (pv (faO 1 v2)) fun v10 =>
  gd v7 true (ld1 v10) fun v11 =>
  gd v7 true (pv (binB .eql v9 v11)) fun v12 =>
  pv (pickO v7 v12 (.bool false)) fun v13 =>
  gd v13 true (pv (faO 2 v1)) fun v14 =>
  gd v13 true (ld1 v14) fun v15 =>
  gd v13 true (pv (faO 2 v2)) fun v16 =>
  gd v13 true (ld1 v16) fun v17 =>
  gd v13 true (pv (bin .eql v15 v17)) fun v18 =>
  pv (pickO v13 v18 (.bool false)) fun v19 =>
  gd v19 true (pv (faO 3 v1)) fun v20 =>
  gd v19 true (ld1 v20) fun v21 =>
  gd v19 true (pv (faO 3 v2)) fun v22 =>
  gd v19 true (ld1 v22) fun v23 =>
  gd v19 true (pv (bin .eql v21 v23)) fun v24 =>
  pv (pickO v19 v24 (.bool false)) fun v25 =>
  gd v25 true (pv (faO 4 v1)) fun v26 =>
  gd v25 true (ld1 v26) fun v27 =>
  gd v25 true (pv (faO 4 v2)) fun v28 =>
  gd v25 true (ld1 v28) fun v29 =>
  gd v25 true (cal Pg R 19 ⟨[v27, v29]⟩) fun v30 =>
  pv (pickO v25 v30 (.bool false)) fun v31 =>
  R (.returned v31)
theorem orpimentlaw35_sameFrame_den (R : ER) (x0 x1 : Value) : den Pg R (cd Try.f21 []) (argsEnv [x0, x1]) (kont Pg R Try.f21) = F21 R x0 x1 :=
  have h : ∀ e, den Pg R (cd Try.f21 []) e (kont Pg R Try.f21) = F21 R (e 0) (e 1) := fun e => by kernel_rfl
  h _
theorem F21_calls {R : ER} {x0 x1 : Value} {w : World} (h : F21 R x0 x1 w) : Calls Pg 21 ⟨[x0, x1]⟩ w R :=
  calls_of_den Try.func21 (by kernel_rfl) (by kernel_rfl) (orpimentlaw35_sameFrame_den R x0 x1) h
/-! ### 22: F22 -/
def F22_j4 (R : ER) (x2 x4 : Value) : WP :=
  ldN 5 x4 fun v1 =>
  stN 5 x2 v1 fun _ =>
  ldN 5 x2 fun v2 => R (.returned (.tuple ⟨[v2, (.int .i64 0)]⟩))
theorem F22_j4_ok (R : ER) (e : Env) : den Pg R (cd Try.f22 [1,1,1,1,1]) e (kont Pg R Try.f22) = (F22_j4 R (e 2) (e 4)) := by kernel_rfl
def F22_j6 (R : ER) (x2 x4 x97 : Value) : WP :=
  cnd x97 (
   pv (bldO [.int .i64 0, .bool false, .int .i64 0, .int .i64 0, .slice none 0 0] []) fun v3 =>
   stN 5 x2 v3 fun _ =>
   ldN 5 x2 fun v4 => R (.returned (.tuple ⟨[v4, (.int .i64 6)]⟩))) (
   F22_j4 R x2 x4)
theorem F22_j6_ok (R : ER) (e : Env) : den Pg R (cd Try.f22 [1,1,1,1,0,1]) e (setN (kont Pg R Try.f22) (fun e => F22_j4 R (e 2) (e 4))) = (F22_j6 R (e 2) (e 4) (e 97)) := by kernel_rfl
def F22_j5 (R : ER) (x0 x2 x4 : Value) : WP :=
  drewV (
  pv (slS 1 x0 (some (.int .i64 16)) (some (.int .i64 24))) fun v5 =>
  pv (slS 1 x0 none (some (.int .i64 16))) fun v6 =>
  pv (slS 1 x0 (some (.int .i64 24)) none) fun v7 =>
  allW [
  (mem fun w9 => cal Pg noR 46 ⟨[v5]⟩ fun v8 =>
   mem fun w11 => valV Pg noR (Instr.buildSlice 24 0 ⟨[]⟩) fun v10 =>
   mem fun w13 => blt Pg noR .append ⟨[24,24]⟩ 24 ⟨[false, false]⟩ ⟨[v10, v6]⟩ fun v12 =>
   mem fun w15 => blt Pg noR .append ⟨[24,24]⟩ 24 ⟨[false, false]⟩ ⟨[v12, v7]⟩ fun v14 =>
   mem fun w17 => cal Pg noR 44 ⟨[v14]⟩ fun v16 =>
   pv (bin .neq v8 v16) fun v18 =>
   F22_j6 R x2 x4 v18),
  (mem fun w20 => valV Pg noR (Instr.buildSlice 24 0 ⟨[]⟩) fun v19 =>
   mem fun w22 => cal Pg noR 46 ⟨[v5]⟩ fun v21 =>
   mem fun w24 => blt Pg noR .append ⟨[24,24]⟩ 24 ⟨[false, false]⟩ ⟨[v19, v6]⟩ fun v23 =>
   mem fun w26 => blt Pg noR .append ⟨[24,24]⟩ 24 ⟨[false, false]⟩ ⟨[v23, v7]⟩ fun v25 =>
   mem fun w28 => cal Pg noR 44 ⟨[v25]⟩ fun v27 =>
   pv (bin .neq v21 v27) fun v29 =>
   F22_j6 R x2 x4 v29)])
theorem F22_j5_ok (R : ER) (e : Env) : den Pg R (cd Try.f22 [1,1,1,1,0]) e (setN (kont Pg R Try.f22) (fun e => F22_j4 R (e 2) (e 4))) = (F22_j5 R (e 0) (e 2) (e 4)) := (den_join Pg R 0 (cd Try.f22 [1,1,1,1,0]) (cd Try.f22 [1,1,1,1,0,1]) e (setN (kont Pg R Try.f22) (fun e => F22_j4 R (e 2) (e 4))) (fun e => F22_j6 R (e 2) (e 4) (e 97)) _ (by kernel_rfl) (fun e => F22_j6_ok R e) (by kernel_rfl))
def F22_j3 (R : ER) (x0 x2 x4 : Value) : WP :=
  F22_j5 R x0 x2 x4
theorem F22_j3_ok (R : ER) (e : Env) : den Pg R (cd Try.f22 [1,1,1,1]) e (kont Pg R Try.f22) = (F22_j3 R (e 0) (e 2) (e 4)) := (den_join Pg R 0 (cd Try.f22 [1,1,1,1]) (cd Try.f22 [1,1,1,1,1]) e (kont Pg R Try.f22) (fun e => F22_j4 R (e 2) (e 4)) _ (by kernel_rfl) (fun e => F22_j4_ok R e) (den_conv Pg R (pre 0 (cd Try.f22 [1,1,1,1])) (cd Try.f22 [1,1,1,1,0]) e (setN (kont Pg R Try.f22) (fun e => F22_j4 R (e 2) (e 4))) _ (by kernel_rfl) (F22_j5_ok R e)))
def F22_j7 (R : ER) (x0 x2 x4 : Value) : WP :=
  pv (faO 0 x4) fun v30 =>
  ld1 v30 fun v31 =>
  pv (bin .neq v31 (.int .i64 1)) fun v32 =>
  gd v32 true (pv (faO 0 x4)) fun v33 =>
  gd v32 true (ld1 v33) fun v34 =>
  gd v32 true (pv (bin .neq v34 (.int .i64 2))) fun v35 =>
  pv (pickO v32 v35 (.bool false)) fun v36 =>
  gd v36 false (pv (some x0)) fun v37 =>
  gd v36 false (pv (ixS 1 v37 (.int .i64 1))) fun v38 =>
  gd v36 false (ld1 v38) fun v39 =>
  gd v36 false (pv (bin .gtr v39 (.int .u8 1))) fun v40 =>
  pv (pickO v36 (.bool true) v40) fun v41 =>
  gd v41 false (pv (faO 0 x4)) fun v42 =>
  gd v41 false (ld1 v42) fun v43 =>
  gd v41 false (pv (bin .eql v43 (.int .i64 2))) fun v44 =>
  gd v41 false (pv (some v44)) fun v45 =>
  gd v45 true (pv (faO 1 x4)) fun v46 =>
  gd v45 true (ld1 v46) fun v47 =>
  gd v45 true (pv (some v47)) fun v48 =>
  gd v48 false (pv (faO 4 x4)) fun v49 =>
  gd v48 false (ld1 v49) fun v50 =>
  gd v48 false (pv (lenS v50)) fun v51 =>
  gd v48 false (pv (bin .gtr v51 (.int .i64 0))) fun v52 =>
  gd v45 true (pv (pickO v48 (.bool true) v52)) fun v53 =>
  gd v41 false (pv (pickO v45 v53 (.bool false))) fun v54 =>
  pv (pickO v41 (.bool true) v54) fun v55 =>
  gd v55 false (pv (faO 2 x4)) fun v56 =>
  gd v55 false (ld1 v56) fun v57 =>
  gd v55 false (pv (bin .lss v57 (.int .i64 1))) fun v58 =>
  pv (pickO v55 (.bool true) v58) fun v59 =>
  gd v59 false (pv (faO 3 x4)) fun v60 =>
  gd v59 false (ld1 v60) fun v61 =>
  gd v59 false (pv (bin .gtr v61 (.int .i64 2147483647))) fun v62 =>
  pv (pickO v59 (.bool true) v62) fun v63 =>
  cnd v63 (
   pv (bldO [.int .i64 0, .bool false, .int .i64 0, .int .i64 0, .slice none 0 0] []) fun v64 =>
   stN 5 x2 v64 fun _ =>
   ldN 5 x2 fun v65 => R (.returned (.tuple ⟨[v65, (.int .i64 12)]⟩))) (
   F22_j3 R x0 x2 x4)
theorem F22_j7_ok (R : ER) (e : Env) : den Pg R (cd Try.f22 [1,1,1,0]) e (setN (kont Pg R Try.f22) (fun e => F22_j3 R (e 0) (e 2) (e 4))) = (F22_j7 R (e 0) (e 2) (e 4)) := (by kernel_rfl)
def F22_j2 (R : ER) (x0 x2 x4 : Value) : WP :=
  F22_j7 R x0 x2 x4
theorem F22_j2_ok (R : ER) (e : Env) : den Pg R (cd Try.f22 [1,1,1]) e (kont Pg R Try.f22) = (F22_j2 R (e 0) (e 2) (e 4)) := (den_join Pg R 0 (cd Try.f22 [1,1,1]) (cd Try.f22 [1,1,1,1]) e (kont Pg R Try.f22) (fun e => F22_j3 R (e 0) (e 2) (e 4)) _ (by kernel_rfl) (fun e => F22_j3_ok R e) (den_conv Pg R (pre 0 (cd Try.f22 [1,1,1])) (cd Try.f22 [1,1,1,0]) e (setN (kont Pg R Try.f22) (fun e => F22_j3 R (e 0) (e 2) (e 4))) _ (by kernel_rfl) (F22_j7_ok R e)))
def F22_j1 (R : ER) (x0 x2 : Value) : WP :=
  drewV (
  pv (ixS 1 x0 (.int .i64 0)) fun v66 =>
  ld1 v66 fun v67 =>
  pv (cvI .i64 v67) fun v68 =>
  pv (ixS 1 x0 (.int .i64 1)) fun v69 =>
  ld1 v69 fun v70 =>
  pv (bin .eql v70 (.int .u8 1)) fun v71 =>
  pv (slS 1 x0 (some (.int .i64 4)) (some (.int .i64 12))) fun v72 =>
  pv (slS 1 x0 (some (.int .i64 12)) (some (.int .i64 16))) fun v73 =>
  pv (slS 1 x0 (some (.int .i64 24)) none) fun v74 =>
  allW [
  (mem fun w76 => cal Pg noR 46 ⟨[v72]⟩ fun v75 =>
   rd1 v69 v70 <|
   rd1 v66 v67 <|
   pv (cvI .i64 v75) fun v77 =>
   allW [
   (mem fun w79 => cal Pg noR 46 ⟨[v73]⟩ fun v78 =>
    rd1 v69 v70 <|
    rd1 v66 v67 <|
    pv (cvI .i64 v78) fun v80 =>
    allW [
    (mem fun w82 => valV Pg noR (Instr.buildSlice 24 0 ⟨[]⟩) fun v81 =>
     rd1 v69 v70 <|
     rd1 v66 v67 <|
     allW [
     (mem fun w84 => blt Pg noR .append ⟨[24,24]⟩ 24 ⟨[false, false]⟩ ⟨[v81, v74]⟩ fun v83 =>
      rd1 v69 v70 <|
      rd1 v66 v67 <|
      pv (bldO [.int .i64 0, .bool false, .int .i64 0, .int .i64 0, .slice none 0 0] [(0,1, v68), (1,1, v71), (2,1, v77), (3,1, v80), (4,1, v83)]) fun v85 =>
      mem fun w87 => al Pg 52 fun v86 =>
      rd1 v69 v70 <|
      rd1 v66 v67 <|
      mem fun w89 => stN 5 v86 v85 fun v88 =>
      F22_j2 R x0 x2 v86),
     (mem fun w91 => al Pg 52 fun v90 =>
      rd1 v69 v70 <|
      rd1 v66 v67 <|
      mem fun w93 => blt Pg noR .append ⟨[24,24]⟩ 24 ⟨[false, false]⟩ ⟨[v81, v74]⟩ fun v92 =>
      rd1 v69 v70 <|
      rd1 v66 v67 <|
      pv (bldO [.int .i64 0, .bool false, .int .i64 0, .int .i64 0, .slice none 0 0] [(0,1, v68), (1,1, v71), (2,1, v77), (3,1, v80), (4,1, v92)]) fun v94 =>
      mem fun w96 => stN 5 v90 v94 fun v95 =>
      F22_j2 R x0 x2 v90)]),
    (mem fun w98 => al Pg 52 fun v97 =>
     rd1 v69 v70 <|
     rd1 v66 v67 <|
     mem fun w100 => valV Pg noR (Instr.buildSlice 24 0 ⟨[]⟩) fun v99 =>
     rd1 v69 v70 <|
     rd1 v66 v67 <|
     mem fun w102 => blt Pg noR .append ⟨[24,24]⟩ 24 ⟨[false, false]⟩ ⟨[v99, v74]⟩ fun v101 =>
     rd1 v69 v70 <|
     rd1 v66 v67 <|
     pv (bldO [.int .i64 0, .bool false, .int .i64 0, .int .i64 0, .slice none 0 0] [(0,1, v68), (1,1, v71), (2,1, v77), (3,1, v80), (4,1, v101)]) fun v103 =>
     mem fun w105 => stN 5 v97 v103 fun v104 =>
     F22_j2 R x0 x2 v97)]),
   (mem fun w107 => valV Pg noR (Instr.buildSlice 24 0 ⟨[]⟩) fun v106 =>
    rd1 v69 v70 <|
    rd1 v66 v67 <|
    allW [
    (mem fun w109 => cal Pg noR 46 ⟨[v73]⟩ fun v108 =>
     rd1 v69 v70 <|
     rd1 v66 v67 <|
     pv (cvI .i64 v108) fun v110 =>
     allW [
     (mem fun w112 => blt Pg noR .append ⟨[24,24]⟩ 24 ⟨[false, false]⟩ ⟨[v106, v74]⟩ fun v111 =>
      rd1 v69 v70 <|
      rd1 v66 v67 <|
      pv (bldO [.int .i64 0, .bool false, .int .i64 0, .int .i64 0, .slice none 0 0] [(0,1, v68), (1,1, v71), (2,1, v77), (3,1, v110), (4,1, v111)]) fun v113 =>
      mem fun w115 => al Pg 52 fun v114 =>
      rd1 v69 v70 <|
      rd1 v66 v67 <|
      mem fun w117 => stN 5 v114 v113 fun v116 =>
      F22_j2 R x0 x2 v114),
     (mem fun w119 => al Pg 52 fun v118 =>
      rd1 v69 v70 <|
      rd1 v66 v67 <|
      mem fun w121 => blt Pg noR .append ⟨[24,24]⟩ 24 ⟨[false, false]⟩ ⟨[v106, v74]⟩ fun v120 =>
      rd1 v69 v70 <|
      rd1 v66 v67 <|
      pv (bldO [.int .i64 0, .bool false, .int .i64 0, .int .i64 0, .slice none 0 0] [(0,1, v68), (1,1, v71), (2,1, v77), (3,1, v110), (4,1, v120)]) fun v122 =>
      mem fun w124 => stN 5 v118 v122 fun v123 =>
      F22_j2 R x0 x2 v118)]),
    (mem fun w126 => al Pg 52 fun v125 =>
     rd1 v69 v70 <|
     rd1 v66 v67 <|
     mem fun w128 => cal Pg noR 46 ⟨[v73]⟩ fun v127 =>
     rd1 v69 v70 <|
     rd1 v66 v67 <|
     pv (cvI .i64 v127) fun v129 =>
     mem fun w131 => blt Pg noR .append ⟨[24,24]⟩ 24 ⟨[false, false]⟩ ⟨[v106, v74]⟩ fun v130 =>
     rd1 v69 v70 <|
     rd1 v66 v67 <|
     pv (bldO [.int .i64 0, .bool false, .int .i64 0, .int .i64 0, .slice none 0 0] [(0,1, v68), (1,1, v71), (2,1, v77), (3,1, v129), (4,1, v130)]) fun v132 =>
     mem fun w134 => stN 5 v125 v132 fun v133 =>
     F22_j2 R x0 x2 v125)]),
   (mem fun w136 => al Pg 52 fun v135 =>
    rd1 v69 v70 <|
    rd1 v66 v67 <|
    allW [
    (mem fun w138 => cal Pg noR 46 ⟨[v73]⟩ fun v137 =>
     rd1 v69 v70 <|
     rd1 v66 v67 <|
     pv (cvI .i64 v137) fun v139 =>
     mem fun w141 => valV Pg noR (Instr.buildSlice 24 0 ⟨[]⟩) fun v140 =>
     rd1 v69 v70 <|
     rd1 v66 v67 <|
     mem fun w143 => blt Pg noR .append ⟨[24,24]⟩ 24 ⟨[false, false]⟩ ⟨[v140, v74]⟩ fun v142 =>
     rd1 v69 v70 <|
     rd1 v66 v67 <|
     pv (bldO [.int .i64 0, .bool false, .int .i64 0, .int .i64 0, .slice none 0 0] [(0,1, v68), (1,1, v71), (2,1, v77), (3,1, v139), (4,1, v142)]) fun v144 =>
     mem fun w146 => stN 5 v135 v144 fun v145 =>
     F22_j2 R x0 x2 v135),
    (mem fun w148 => valV Pg noR (Instr.buildSlice 24 0 ⟨[]⟩) fun v147 =>
     rd1 v69 v70 <|
     rd1 v66 v67 <|
     mem fun w150 => cal Pg noR 46 ⟨[v73]⟩ fun v149 =>
     rd1 v69 v70 <|
     rd1 v66 v67 <|
     pv (cvI .i64 v149) fun v151 =>
     mem fun w153 => blt Pg noR .append ⟨[24,24]⟩ 24 ⟨[false, false]⟩ ⟨[v147, v74]⟩ fun v152 =>
     rd1 v69 v70 <|
     rd1 v66 v67 <|
     pv (bldO [.int .i64 0, .bool false, .int .i64 0, .int .i64 0, .slice none 0 0] [(0,1, v68), (1,1, v71), (2,1, v77), (3,1, v151), (4,1, v152)]) fun v154 =>
     mem fun w156 => stN 5 v135 v154 fun v155 =>
     F22_j2 R x0 x2 v135)])]),
  (mem fun w158 => valV Pg noR (Instr.buildSlice 24 0 ⟨[]⟩) fun v157 =>
   rd1 v69 v70 <|
   rd1 v66 v67 <|
   allW [
   (mem fun w160 => cal Pg noR 46 ⟨[v72]⟩ fun v159 =>
    rd1 v69 v70 <|
    rd1 v66 v67 <|
    pv (cvI .i64 v159) fun v161 =>
    allW [
    (mem fun w163 => cal Pg noR 46 ⟨[v73]⟩ fun v162 =>
     rd1 v69 v70 <|
     rd1 v66 v67 <|
     pv (cvI .i64 v162) fun v164 =>
     allW [
     (mem fun w166 => blt Pg noR .append ⟨[24,24]⟩ 24 ⟨[false, false]⟩ ⟨[v157, v74]⟩ fun v165 =>
      rd1 v69 v70 <|
      rd1 v66 v67 <|
      pv (bldO [.int .i64 0, .bool false, .int .i64 0, .int .i64 0, .slice none 0 0] [(0,1, v68), (1,1, v71), (2,1, v161), (3,1, v164), (4,1, v165)]) fun v167 =>
      mem fun w169 => al Pg 52 fun v168 =>
      rd1 v69 v70 <|
      rd1 v66 v67 <|
      mem fun w171 => stN 5 v168 v167 fun v170 =>
      F22_j2 R x0 x2 v168),
     (mem fun w173 => al Pg 52 fun v172 =>
      rd1 v69 v70 <|
      rd1 v66 v67 <|
      mem fun w175 => blt Pg noR .append ⟨[24,24]⟩ 24 ⟨[false, false]⟩ ⟨[v157, v74]⟩ fun v174 =>
      rd1 v69 v70 <|
      rd1 v66 v67 <|
      pv (bldO [.int .i64 0, .bool false, .int .i64 0, .int .i64 0, .slice none 0 0] [(0,1, v68), (1,1, v71), (2,1, v161), (3,1, v164), (4,1, v174)]) fun v176 =>
      mem fun w178 => stN 5 v172 v176 fun v177 =>
      F22_j2 R x0 x2 v172)]),
    (mem fun w180 => al Pg 52 fun v179 =>
     rd1 v69 v70 <|
     rd1 v66 v67 <|
     mem fun w182 => cal Pg noR 46 ⟨[v73]⟩ fun v181 =>
     rd1 v69 v70 <|
     rd1 v66 v67 <|
     pv (cvI .i64 v181) fun v183 =>
     mem fun w185 => blt Pg noR .append ⟨[24,24]⟩ 24 ⟨[false, false]⟩ ⟨[v157, v74]⟩ fun v184 =>
     rd1 v69 v70 <|
     rd1 v66 v67 <|
     pv (bldO [.int .i64 0, .bool false, .int .i64 0, .int .i64 0, .slice none 0 0] [(0,1, v68), (1,1, v71), (2,1, v161), (3,1, v183), (4,1, v184)]) fun v186 =>
     mem fun w188 => stN 5 v179 v186 fun v187 =>
     F22_j2 R x0 x2 v179)]),
   (mem fun w190 => al Pg 52 fun v189 =>
    rd1 v69 v70 <|
    rd1 v66 v67 <|
    mem fun w192 => cal Pg noR 46 ⟨[v72]⟩ fun v191 =>
    rd1 v69 v70 <|
    rd1 v66 v67 <|
    pv (cvI .i64 v191) fun v193 =>
    mem fun w195 => cal Pg noR 46 ⟨[v73]⟩ fun v194 =>
    rd1 v69 v70 <|
    rd1 v66 v67 <|
    pv (cvI .i64 v194) fun v196 =>
    mem fun w198 => blt Pg noR .append ⟨[24,24]⟩ 24 ⟨[false, false]⟩ ⟨[v157, v74]⟩ fun v197 =>
    rd1 v69 v70 <|
    rd1 v66 v67 <|
    pv (bldO [.int .i64 0, .bool false, .int .i64 0, .int .i64 0, .slice none 0 0] [(0,1, v68), (1,1, v71), (2,1, v193), (3,1, v196), (4,1, v197)]) fun v199 =>
    mem fun w201 => stN 5 v189 v199 fun v200 =>
    F22_j2 R x0 x2 v189)]),
  (mem fun w203 => al Pg 52 fun v202 =>
   rd1 v69 v70 <|
   rd1 v66 v67 <|
   allW [
   (mem fun w205 => cal Pg noR 46 ⟨[v72]⟩ fun v204 =>
    rd1 v69 v70 <|
    rd1 v66 v67 <|
    pv (cvI .i64 v204) fun v206 =>
    allW [
    (mem fun w208 => cal Pg noR 46 ⟨[v73]⟩ fun v207 =>
     rd1 v69 v70 <|
     rd1 v66 v67 <|
     pv (cvI .i64 v207) fun v209 =>
     mem fun w211 => valV Pg noR (Instr.buildSlice 24 0 ⟨[]⟩) fun v210 =>
     rd1 v69 v70 <|
     rd1 v66 v67 <|
     mem fun w213 => blt Pg noR .append ⟨[24,24]⟩ 24 ⟨[false, false]⟩ ⟨[v210, v74]⟩ fun v212 =>
     rd1 v69 v70 <|
     rd1 v66 v67 <|
     pv (bldO [.int .i64 0, .bool false, .int .i64 0, .int .i64 0, .slice none 0 0] [(0,1, v68), (1,1, v71), (2,1, v206), (3,1, v209), (4,1, v212)]) fun v214 =>
     mem fun w216 => stN 5 v202 v214 fun v215 =>
     F22_j2 R x0 x2 v202),
    (mem fun w218 => valV Pg noR (Instr.buildSlice 24 0 ⟨[]⟩) fun v217 =>
     rd1 v69 v70 <|
     rd1 v66 v67 <|
     mem fun w220 => cal Pg noR 46 ⟨[v73]⟩ fun v219 =>
     rd1 v69 v70 <|
     rd1 v66 v67 <|
     pv (cvI .i64 v219) fun v221 =>
     mem fun w223 => blt Pg noR .append ⟨[24,24]⟩ 24 ⟨[false, false]⟩ ⟨[v217, v74]⟩ fun v222 =>
     rd1 v69 v70 <|
     rd1 v66 v67 <|
     pv (bldO [.int .i64 0, .bool false, .int .i64 0, .int .i64 0, .slice none 0 0] [(0,1, v68), (1,1, v71), (2,1, v206), (3,1, v221), (4,1, v222)]) fun v224 =>
     mem fun w226 => stN 5 v202 v224 fun v225 =>
     F22_j2 R x0 x2 v202)]),
   (mem fun w228 => valV Pg noR (Instr.buildSlice 24 0 ⟨[]⟩) fun v227 =>
    rd1 v69 v70 <|
    rd1 v66 v67 <|
    mem fun w230 => cal Pg noR 46 ⟨[v72]⟩ fun v229 =>
    rd1 v69 v70 <|
    rd1 v66 v67 <|
    pv (cvI .i64 v229) fun v231 =>
    mem fun w233 => cal Pg noR 46 ⟨[v73]⟩ fun v232 =>
    rd1 v69 v70 <|
    rd1 v66 v67 <|
    pv (cvI .i64 v232) fun v234 =>
    mem fun w236 => blt Pg noR .append ⟨[24,24]⟩ 24 ⟨[false, false]⟩ ⟨[v227, v74]⟩ fun v235 =>
    rd1 v69 v70 <|
    rd1 v66 v67 <|
    pv (bldO [.int .i64 0, .bool false, .int .i64 0, .int .i64 0, .slice none 0 0] [(0,1, v68), (1,1, v71), (2,1, v231), (3,1, v234), (4,1, v235)]) fun v237 =>
    mem fun w239 => stN 5 v202 v237 fun v238 =>
    F22_j2 R x0 x2 v202)])])
theorem F22_j1_ok (R : ER) (e : Env) : den Pg R (cd Try.f22 [1,1]) e (kont Pg R Try.f22) = (F22_j1 R (e 0) (e 2)) := (den_join Pg R 0 (cd Try.f22 [1,1]) (cd Try.f22 [1,1,1]) e (kont Pg R Try.f22) (fun e => F22_j2 R (e 0) (e 2) (e 4)) _ (by kernel_rfl) (fun e => F22_j2_ok R e) (by kernel_rfl))
def F22_j8 (R : ER) (x0 x2 : Value) : WP :=
  pv (lenS x0) fun v240 =>
  pv (bin .lss v240 (.int .i64 24)) fun v241 =>
  gd v241 false (pv (some x0)) fun v242 =>
  gd v241 false (pv (slS 1 v242 (some (.int .i64 2)) (some (.int .i64 4)))) fun v243 =>
  gd v241 false (cal Pg R 46 ⟨[v243]⟩) fun v244 =>
  gd v241 false (pv (cvI .i64 v244)) fun v245 =>
  gd v241 false (pv (some x0)) fun v246 =>
  gd v241 false (pv (lenS v246)) fun v247 =>
  gd v241 false (pv (bin .sub v247 (.int .i64 24))) fun v248 =>
  gd v241 false (pv (bin .neq v245 v248)) fun v249 =>
  pv (pickO v241 (.bool true) v249) fun v250 =>
  gd v250 false (pv (some x0)) fun v251 =>
  gd v250 false (pv (lenS v251)) fun v252 =>
  gd v250 false (pv (bin .sub v252 (.int .i64 24))) fun v253 =>
  gd v250 false (pv (bin .gtr v253 (.int .i64 4096))) fun v254 =>
  pv (pickO v250 (.bool true) v254) fun v255 =>
  cnd v255 (
   pv (bldO [.int .i64 0, .bool false, .int .i64 0, .int .i64 0, .slice none 0 0] []) fun v256 =>
   stN 5 x2 v256 fun _ =>
   ldN 5 x2 fun v257 => R (.returned (.tuple ⟨[v257, (.int .i64 12)]⟩))) (
   F22_j1 R x0 x2)
theorem F22_j8_ok (R : ER) (e : Env) : den Pg R (cd Try.f22 [1,0]) e (setN (kont Pg R Try.f22) (fun e => F22_j1 R (e 0) (e 2))) = (F22_j8 R (e 0) (e 2)) := (by kernel_rfl)
def F22 (R : ER) (x0 : Value) : WP :=
  al Pg 52 fun v258 =>
  F22_j8 R x0 v258
theorem orpimentref35_Decode_den (R : ER) (x0 : Value) : den Pg R (cd Try.f22 []) (argsEnv [x0]) (kont Pg R Try.f22) = F22 R x0 :=
  have h : ∀ e, den Pg R (cd Try.f22 []) e (kont Pg R Try.f22) = F22 R (e 0) := fun e => (den_join Pg R 1 (cd Try.f22 []) (cd Try.f22 [1,1]) e (kont Pg R Try.f22) (fun e => F22_j1 R (e 0) (e 2)) _ (by kernel_rfl) (fun e => F22_j1_ok R e) (den_join Pg R 0 (pre 1 (cd Try.f22 [])) (cd Try.f22 [1,0]) e (setN (kont Pg R Try.f22) (fun e => F22_j1 R (e 0) (e 2))) (fun e => F22_j8 R (e 0) (e 2)) _ (by kernel_rfl) (fun e => F22_j8_ok R e) (by kernel_rfl)))
  h _
theorem F22_calls {R : ER} {x0 : Value} {w : World} (h : F22 R x0 w) : Calls Pg 22 ⟨[x0]⟩ w R :=
  calls_of_den Try.func22 (by kernel_rfl) (by kernel_rfl) (orpimentref35_Decode_den R x0) h
/-! ### 23: F23 -/
def F23_j6 (R : ER) (x0 x1 x13 : Value) : WP :=
  drewV (
  pv (nilO x0) fun v1 =>
  pv (faO 17 v1) fun v2 =>
  ld1 v2 fun v3 =>
  pv (nilO x0) fun v4 =>
  pv (faO 11 v4) fun v5 =>
  ldN 5 v5 fun v6 =>
  pv (bldO [.int .i64 0, .int .i64 0, .bool false, .int .i64 0, .int .i64 0, .slice none 0 0] [(0,1, x1), (1,5, v6)]) fun v7 =>
  mem fun w9 => valV Pg noR (Instr.buildSlice 94 1 ⟨[(0, v7)]⟩) fun v8 =>
  rd1 v2 v3 <|
  mem fun w11 => blt Pg noR .append ⟨[94,94]⟩ 94 ⟨[false, false]⟩ ⟨[v3, v8]⟩ fun v10 =>
  pv (nilO x0) fun v12 =>
  pv (faO 17 v12) fun v13 =>
  mem fun w15 => st1 v13 v10 fun v14 =>
  R (.returned (.tuple ⟨[x13, (.int .i64 0)]⟩)))
theorem F23_j6_ok (R : ER) (e : Env) : den Pg R (cd Try.f23 [1,1,1,1,1,1,1,1,1,1]) e (kont Pg R Try.f23) = (F23_j6 R (e 0) (e 1) (e 13)) := by kernel_rfl
def F23_j11 (R : ER) (x0 x1 x13 x14 : Value) : WP :=
  pv (nilO x0) fun v16 =>
  pv (faO 16 v16) fun v17 =>
  ld1 v17 fun v18 =>
  valV Pg R (Instr.buildSlice 36 1 ⟨[(0, v18)]⟩) fun v19 =>
  blt Pg R .append ⟨[36,36]⟩ 36 ⟨[false, false]⟩ ⟨[x13, v19]⟩ fun v20 =>
  pv (nilO x0) fun v21 =>
  pv (faO 16 v21) fun v22 =>
  st1 v22 (.slice none 0 0) fun _ =>
  pv (nilO x14) fun v23 =>
  pv (faO 2 v23) fun v24 =>
  ld1 v24 fun v25 =>
  pv (bin .add v25 (.int .i64 1)) fun v26 =>
  pv (nilO x14) fun v27 =>
  pv (faO 2 v27) fun v28 =>
  st1 v28 v26 fun _ =>
  pv (nilO x14) fun v29 =>
  pv (faO 3 v29) fun v30 =>
  st1 v30 (.int .i64 0) fun _ =>
  F23_j6 R x0 x1 v20
theorem F23_j11_ok (R : ER) (e : Env) : den Pg R (cd Try.f23 [1,1,1,1,1,1,1,1,1,0,1,1,0,1,1,1,0]) e (setN (kont Pg R Try.f23) (fun e => F23_j6 R (e 0) (e 1) (e 13))) = (F23_j11 R (e 0) (e 1) (e 13) (e 14)) := by kernel_rfl
def F23_j10 (R : ER) (x0 x1 x13 x14 x101 : Value) : WP :=
  cnd x101 (F23_j11 R x0 x1 x13 x14) (F23_j6 R x0 x1 x13)
theorem F23_j10_ok (R : ER) (e : Env) : den Pg R (cd Try.f23 [1,1,1,1,1,1,1,1,1,0,1,1,0,1,1,1]) e (setN (kont Pg R Try.f23) (fun e => F23_j6 R (e 0) (e 1) (e 13))) = (F23_j10 R (e 0) (e 1) (e 13) (e 14) (e 101)) := (den_if Pg R (cd Try.f23 [1,1,1,1,1,1,1,1,1,0,1,1,0,1,1,1]) (cd Try.f23 [1,1,1,1,1,1,1,1,1,0,1,1,0,1,1,1,0]) (cd Try.f23 [1,1,1,1,1,1,1,1,1,0,1,1,0,1,1,1,1]) e (setN (kont Pg R Try.f23) (fun e => F23_j6 R (e 0) (e 1) (e 13))) (F23_j11 R (e 0) (e 1) (e 13) (e 14)) _ _ (by kernel_rfl) (F23_j11_ok R e) rfl (by kernel_rfl))
def F23_j9 (R : ER) (x0 x1 x11 x13 x14 : Value) : WP :=
  drewV (
  pv (nilO x0) fun v31 =>
  pv (faO 16 v31) fun v32 =>
  ld1 v32 fun v33 =>
  pv (faO 4 x11) fun v34 =>
  ld1 v34 fun v35 =>
  mem fun w37 => blt Pg noR .append ⟨[24,24]⟩ 24 ⟨[false, false]⟩ ⟨[v33, v35]⟩ fun v36 =>
  pv (nilO x0) fun v38 =>
  pv (faO 16 v38) fun v39 =>
  mem fun w41 => st1 v39 v36 fun v40 =>
  pv (nilO x14) fun v42 =>
  pv (faO 3 v42) fun v43 =>
  ld1 v43 fun v44 =>
  pv (bin .add v44 (.int .i64 1)) fun v45 =>
  pv (nilO x14) fun v46 =>
  pv (faO 3 v46) fun v47 =>
  st1 v47 v45 fun _ =>
  pv (faO 1 x11) fun v48 =>
  ld1 v48 fun v49 =>
  F23_j10 R x0 x1 x13 x14 v49)
theorem F23_j9_ok (R : ER) (e : Env) : den Pg R (cd Try.f23 [1,1,1,1,1,1,1,1,1,0,1,1,0]) e (setN (kont Pg R Try.f23) (fun e => F23_j6 R (e 0) (e 1) (e 13))) = (F23_j9 R (e 0) (e 1) (e 11) (e 13) (e 14)) := (den_join Pg R 2 (cd Try.f23 [1,1,1,1,1,1,1,1,1,0,1,1,0]) (cd Try.f23 [1,1,1,1,1,1,1,1,1,0,1,1,0,1,1,1]) e (setN (kont Pg R Try.f23) (fun e => F23_j6 R (e 0) (e 1) (e 13))) (fun e => F23_j10 R (e 0) (e 1) (e 13) (e 14) (e 101)) _ (by kernel_rfl) (fun e => F23_j10_ok R e) (by kernel_rfl))
def F23_j8 (R : ER) (x0 x1 x11 x13 x14 x82 : Value) : WP :=
  cnd x82 (F23_j9 R x0 x1 x11 x13 x14) (F23_j6 R x0 x1 x13)
theorem F23_j8_ok (R : ER) (e : Env) : den Pg R (cd Try.f23 [1,1,1,1,1,1,1,1,1,0,1,1]) e (setN (kont Pg R Try.f23) (fun e => F23_j6 R (e 0) (e 1) (e 13))) = (F23_j8 R (e 0) (e 1) (e 11) (e 13) (e 14) (e 82)) := (den_if Pg R (cd Try.f23 [1,1,1,1,1,1,1,1,1,0,1,1]) (cd Try.f23 [1,1,1,1,1,1,1,1,1,0,1,1,0]) (cd Try.f23 [1,1,1,1,1,1,1,1,1,0,1,1,1]) e (setN (kont Pg R Try.f23) (fun e => F23_j6 R (e 0) (e 1) (e 13))) (F23_j9 R (e 0) (e 1) (e 11) (e 13) (e 14)) _ _ (by kernel_rfl) (F23_j9_ok R e) rfl (by kernel_rfl))
def F23_j7 (R : ER) (x0 x1 x11 x13 : Value) : WP :=
  pv (nilO x0) fun v50 =>
  pv (faO 11 v50) fun v51 =>
  drewV (
  pv (faO 2 x11) fun v52 =>
  ld1 v52 fun v53 =>
  pv (nilO v51) fun v54 =>
  pv (faO 2 v54) fun v55 =>
  ld1 v55 fun v56 =>
  pv (bin .eql v53 v56) fun v57 =>
  gd v57 true (pv (faO 3 x11)) fun v58 =>
  gd v57 true (ld1 v58) fun v59 =>
  gd v57 true (pv (some v51)) fun v60 =>
  gd v57 true (pv (nilO v60)) fun v61 =>
  gd v57 true (pv (faO 3 v61)) fun v62 =>
  gd v57 true (ld1 v62) fun v63 =>
  gd v57 true (pv (bin .eql v59 v63)) fun v64 =>
  pv (pickO v57 v64 (.bool false)) fun v65 =>
  gd v65 true (pv (some x0)) fun v66 =>
  gd v65 true (pv (nilO v66)) fun v67 =>
  gd v65 true (pv (faO 16 v67)) fun v68 =>
  gd v65 true (ld1 v68) fun v69 =>
  gd v65 true (pv (lenS v69)) fun v70 =>
  gd v65 true (pv (faO 4 x11)) fun v71 =>
  gd v65 true (ld1 v71) fun v72 =>
  gd v65 true (pv (lenS v72)) fun v73 =>
  gd v65 true (pv (bin .add v70 v73)) fun v74 =>
  gd v65 true (pv (bin .leq v74 (.int .i64 4096))) fun v75 =>
  pv (pickO v65 v75 (.bool false)) fun v76 =>
  F23_j8 R x0 x1 x11 x13 v51 v76)
theorem F23_j7_ok (R : ER) (e : Env) : den Pg R (cd Try.f23 [1,1,1,1,1,1,1,1,1,0]) e (setN (kont Pg R Try.f23) (fun e => F23_j6 R (e 0) (e 1) (e 13))) = (F23_j7 R (e 0) (e 1) (e 11) (e 13)) := (den_join Pg R 1 (cd Try.f23 [1,1,1,1,1,1,1,1,1,0]) (cd Try.f23 [1,1,1,1,1,1,1,1,1,0,1,1]) e (setN (kont Pg R Try.f23) (fun e => F23_j6 R (e 0) (e 1) (e 13))) (fun e => F23_j8 R (e 0) (e 1) (e 11) (e 13) (e 14) (e 82)) _ (by kernel_rfl) (fun e => F23_j8_ok R e) (by kernel_rfl))
def F23_j5 (R : ER) (x0 x1 x11 : Value) : WP :=
  F23_j7 R x0 x1 x11 (.slice none 0 0)
theorem F23_j5_ok (R : ER) (e : Env) : den Pg R (cd Try.f23 [1,1,1,1,1,1,1,1]) e (kont Pg R Try.f23) = (F23_j5 R (e 0) (e 1) (e 11)) := (den_join Pg R 1 (cd Try.f23 [1,1,1,1,1,1,1,1]) (cd Try.f23 [1,1,1,1,1,1,1,1,1,1]) e (kont Pg R Try.f23) (fun e => F23_j6 R (e 0) (e 1) (e 13)) _ (by kernel_rfl) (fun e => F23_j6_ok R e) (den_join Pg R 0 (pre 1 (cd Try.f23 [1,1,1,1,1,1,1,1])) (cd Try.f23 [1,1,1,1,1,1,1,1,1,0]) e (setN (kont Pg R Try.f23) (fun e => F23_j6 R (e 0) (e 1) (e 13))) (fun e => F23_j7 R (e 0) (e 1) (e 11) (e 13)) _ (by kernel_rfl) (fun e => F23_j7_ok R e) (by kernel_rfl)))
def F23_j4 (R : ER) (x0 x1 x3 x11 : Value) : WP :=
  pv (nilO x0) fun v77 =>
  pv (faO 4 v77) fun v78 =>
  st1 v78 x3 fun _ =>
  pv (faO 0 x11) fun v79 =>
  ld1 v79 fun v80 =>
  pv (bin .eql v80 (.int .i64 2)) fun v81 =>
  cnd v81 (
   ldN 5 x11 fun v82 =>
   cal Pg R 47 ⟨[x0, v82]⟩ fun v83 =>
   R (.returned (.tuple ⟨[(.slice none 0 0), (.int .i64 0)]⟩))) (
   F23_j5 R x0 x1 x11)
theorem F23_j4_ok (R : ER) (e : Env) : den Pg R (cd Try.f23 [1,1,1,1,1,1]) e (kont Pg R Try.f23) = (F23_j4 R (e 0) (e 1) (e 3) (e 11)) := (den_join Pg R 1 (cd Try.f23 [1,1,1,1,1,1]) (cd Try.f23 [1,1,1,1,1,1,1,1]) e (kont Pg R Try.f23) (fun e => F23_j5 R (e 0) (e 1) (e 11)) _ (by kernel_rfl) (fun e => F23_j5_ok R e) (by kernel_rfl))
def F23_j3 (R : ER) (x0 x1 x2 x3 : Value) : WP :=
  cal Pg R 20 ⟨[x2]⟩ fun v84 =>
  pv (extO 0 v84) fun v85 =>
  pv (extO 1 v84) fun v86 =>
  al Pg 48 fun v87 =>
  stN 5 v87 v85 fun _ =>
  pv (bin .neq v86 (.int .i64 0)) fun v88 =>
  cnd v88 (
   R (.returned (.tuple ⟨[(.slice none 0 0), v86]⟩))) (
   F23_j4 R x0 x1 x3 v87)
theorem F23_j3_ok (R : ER) (e : Env) : den Pg R (cd Try.f23 [1,1,1,1]) e (kont Pg R Try.f23) = (F23_j3 R (e 0) (e 1) (e 2) (e 3)) := (den_join Pg R 1 (cd Try.f23 [1,1,1,1]) (cd Try.f23 [1,1,1,1,1,1]) e (kont Pg R Try.f23) (fun e => F23_j4 R (e 0) (e 1) (e 3) (e 11)) _ (by kernel_rfl) (fun e => F23_j4_ok R e) (by kernel_rfl))
def F23_j2 (R : ER) (x0 x1 x2 x3 : Value) : WP :=
  cal Pg R 34 ⟨[x0, x3]⟩ fun v89 =>
  pv (bin .neq v89 (.int .i64 0)) fun v90 =>
  cnd v90 (
   R (.returned (.tuple ⟨[(.slice none 0 0), v89]⟩))) (
   F23_j3 R x0 x1 x2 x3)
theorem F23_j2_ok (R : ER) (e : Env) : den Pg R (cd Try.f23 [1,1,1]) e (kont Pg R Try.f23) = (F23_j2 R (e 0) (e 1) (e 2) (e 3)) := (den_join Pg R 0 (cd Try.f23 [1,1,1]) (cd Try.f23 [1,1,1,1]) e (kont Pg R Try.f23) (fun e => F23_j3 R (e 0) (e 1) (e 2) (e 3)) _ (by kernel_rfl) (fun e => F23_j3_ok R e) (by kernel_rfl))
def F23_j12 (R : ER) (x0 x1 x2 x3 : Value) : WP :=
  pv (bin .lss x1 (.int .i64 0)) fun v91 =>
  gd v91 false (pv (some x1)) fun v92 =>
  gd v91 false (pv (some x0)) fun v93 =>
  gd v91 false (pv (nilO v93)) fun v94 =>
  gd v91 false (pv (faO 0 v94)) fun v95 =>
  gd v91 false (ld1 v95) fun v96 =>
  gd v91 false (pv (lenS v96)) fun v97 =>
  gd v91 false (pv (bin .geq v92 v97)) fun v98 =>
  pv (pickO v91 (.bool true) v98) fun v99 =>
  cnd v99 (
   R (.returned (.tuple ⟨[(.slice none 0 0), (.int .i64 3)]⟩))) (
   F23_j2 R x0 x1 x2 x3)
theorem F23_j12_ok (R : ER) (e : Env) : den Pg R (cd Try.f23 [1,1,0]) e (setN (kont Pg R Try.f23) (fun e => F23_j2 R (e 0) (e 1) (e 2) (e 3))) = (F23_j12 R (e 0) (e 1) (e 2) (e 3)) := (by kernel_rfl)
def F23_j1 (R : ER) (x0 x1 x2 x3 : Value) : WP :=
  F23_j12 R x0 x1 x2 x3
theorem F23_j1_ok (R : ER) (e : Env) : den Pg R (cd Try.f23 [1,1]) e (kont Pg R Try.f23) = (F23_j1 R (e 0) (e 1) (e 2) (e 3)) := (den_join Pg R 0 (cd Try.f23 [1,1]) (cd Try.f23 [1,1,1]) e (kont Pg R Try.f23) (fun e => F23_j2 R (e 0) (e 1) (e 2) (e 3)) _ (by kernel_rfl) (fun e => F23_j2_ok R e) (den_conv Pg R (pre 0 (cd Try.f23 [1,1])) (cd Try.f23 [1,1,0]) e (setN (kont Pg R Try.f23) (fun e => F23_j2 R (e 0) (e 1) (e 2) (e 3))) _ (by kernel_rfl) (F23_j12_ok R e)))
def F23 (R : ER) (x0 x1 x2 x3 : Value) : WP :=
  pv (eqNilP x0) fun v100 =>
  cnd v100 (
   R (.returned (.tuple ⟨[(.slice none 0 0), (.int .i64 35)]⟩))) (
   F23_j1 R x0 x1 x2 x3)
theorem links_Link_Input_den (R : ER) (x0 x1 x2 x3 : Value) : den Pg R (cd Try.f23 []) (argsEnv [x0, x1, x2, x3]) (kont Pg R Try.f23) = F23 R x0 x1 x2 x3 :=
  have h : ∀ e, den Pg R (cd Try.f23 []) e (kont Pg R Try.f23) = F23 R (e 0) (e 1) (e 2) (e 3) := fun e => (den_join Pg R 1 (cd Try.f23 []) (cd Try.f23 [1,1]) e (kont Pg R Try.f23) (fun e => F23_j1 R (e 0) (e 1) (e 2) (e 3)) _ (by kernel_rfl) (fun e => F23_j1_ok R e) (by kernel_rfl))
  h _
theorem F23_calls {R : ER} {x0 x1 x2 x3 : Value} {w : World} (h : F23 R x0 x1 x2 x3 w) : Calls Pg 23 ⟨[x0, x1, x2, x3]⟩ w R :=
  calls_of_den Try.func23 (by kernel_rfl) (by kernel_rfl) (links_Link_Input_den R x0 x1 x2 x3) h
/-! ### 24: F24 -/
def F24_j1 (R : ER) (x0 x1 x2 : Value) : WP :=
  pv (bin .lss x1 (.int .i64 0)) fun v1 =>
  gd v1 false (pv (some x1)) fun v2 =>
  gd v1 false (pv (some x0)) fun v3 =>
  gd v1 false (pv (nilO v3)) fun v4 =>
  gd v1 false (pv (faO 0 v4)) fun v5 =>
  gd v1 false (ld1 v5) fun v6 =>
  gd v1 false (pv (lenS v6)) fun v7 =>
  gd v1 false (pv (bin .geq v2 v7)) fun v8 =>
  pv (pickO v1 (.bool true) v8) fun v9 =>
  cnd v9 (
   R (.returned (.int .i64 3))) (
   pv (nilO x0) fun v10 =>
  pv (faO 0 v10) fun v11 =>
  ld1 v11 fun v12 =>
  pv (ixS 1 v12 x1) fun v13 =>
  st1 v13 x2 fun _ =>
  R (.returned (.int .i64 0)))
theorem F24_j1_ok (R : ER) (e : Env) : den Pg R (cd Try.f24 [1,1]) e (kont Pg R Try.f24) = (F24_j1 R (e 0) (e 1) (e 2)) := (by kernel_rfl)
def F24 (R : ER) (x0 x1 x2 : Value) : WP :=
  pv (eqNilP x0) fun v14 =>
  cnd v14 (
   R (.returned (.int .i64 35))) (
   F24_j1 R x0 x1 x2)
theorem links_Link_Set_den (R : ER) (x0 x1 x2 : Value) : den Pg R (cd Try.f24 []) (argsEnv [x0, x1, x2]) (kont Pg R Try.f24) = F24 R x0 x1 x2 :=
  have h : ∀ e, den Pg R (cd Try.f24 []) e (kont Pg R Try.f24) = F24 R (e 0) (e 1) (e 2) := fun e => (den_join Pg R 1 (cd Try.f24 []) (cd Try.f24 [1,1]) e (kont Pg R Try.f24) (fun e => F24_j1 R (e 0) (e 1) (e 2)) _ (by kernel_rfl) (fun e => F24_j1_ok R e) (by kernel_rfl))
  h _
theorem F24_calls {R : ER} {x0 x1 x2 : Value} {w : World} (h : F24 R x0 x1 x2 w) : Calls Pg 24 ⟨[x0, x1, x2]⟩ w R :=
  calls_of_den Try.func24 (by kernel_rfl) (by kernel_rfl) (links_Link_Set_den R x0 x1 x2) h
/-! ### 25: F25 -/
def F25 (R : ER) (x0 : Value) : WP :=
  pv (eqNilP x0) fun v1 =>
  cnd v1 (
   R (.returned (.int .i64 0))) (
   pv (nilO x0) fun v2 =>
  pv (faO 7 v2) fun v3 =>
  ld1 v3 fun v4 =>
  R (.returned v4))
theorem links_Link_Acknowledged_den (R : ER) (x0 : Value) : den Pg R (cd Try.f25 []) (argsEnv [x0]) (kont Pg R Try.f25) = F25 R x0 :=
  have h : ∀ e, den Pg R (cd Try.f25 []) e (kont Pg R Try.f25) = F25 R (e 0) := fun e => by kernel_rfl
  h _
theorem F25_calls {R : ER} {x0 : Value} {w : World} (h : F25 R x0 w) : Calls Pg 25 ⟨[x0]⟩ w R :=
  calls_of_den Try.func25 (by kernel_rfl) (by kernel_rfl) (links_Link_Acknowledged_den R x0) h
/-! ### 26: F26 -/
def F26 (R : ER) (x0 : Value) : WP :=
  pv (eqNilS x0) fun v1 =>
  cnd v1 (
   R (.returned (.slice none 0 0))) (
   valV Pg R (Instr.buildSlice 24 0 ⟨[]⟩) fun v2 =>
  blt Pg R .append ⟨[24,24]⟩ 24 ⟨[false, false]⟩ ⟨[v2, x0]⟩ fun v3 =>
  R (.returned v3))
theorem slices_Clone_den (R : ER) (x0 : Value) : den Pg R (cd Try.f26 []) (argsEnv [x0]) (kont Pg R Try.f26) = F26 R x0 :=
  have h : ∀ e, den Pg R (cd Try.f26 []) e (kont Pg R Try.f26) = F26 R (e 0) := fun e => by kernel_rfl
  h _
theorem F26_calls {R : ER} {x0 : Value} {w : World} (h : F26 R x0 w) : Calls Pg 26 ⟨[x0]⟩ w R :=
  calls_of_den Try.func26 (by kernel_rfl) (by kernel_rfl) (slices_Clone_den R x0) h
end Go.Proofs.Ytmnpndgmfmjfhaa.Den
end
