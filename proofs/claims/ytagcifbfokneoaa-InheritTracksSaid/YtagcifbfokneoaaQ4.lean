/- Printed by a program of this session: what the functions mean, and that the model means just that. Conditions: none. -/
import Derived.Test.YtagcifbfokneoaaQ3
section
set_option linter.unusedVariables false
set_option maxRecDepth 100000
namespace Go.Proofs.Ytagcifbfokneoaa.Den
open Go
/-! ### 3: orpimentlaw05_InheritEffective -/
def F3_j1 (R : ER) (x1 : Value) : WP :=
  ldN 2 x1 fun v1 =>
  cal Pg R 13 ⟨[v1]⟩ fun v2 =>
  pv (extO 0 v2) fun v3 =>
  pv (extO 1 v2) fun v4 =>
  ldN 2 x1 fun v5 =>
  cal Pg R 15 ⟨[v5]⟩ fun v6 =>
  cal Pg R 14 ⟨[v6]⟩ fun v7 =>
  pv (extO 0 v7) fun v8 =>
  pv (extO 1 v7) fun v9 =>
  drewV (
  ldN 2 x1 fun v10 =>
  mem fun w12 => cal Pg noR 16 ⟨[v10]⟩ fun v11 =>
  ldNS [w12] 2 x1 fun v13 =>
  mem fun w15 => cal Pg noR 15 ⟨[v13]⟩ fun v14 =>
  mem fun w17 => cal Pg noR 17 ⟨[v14]⟩ fun v16 =>
  pv (bin .eql v11 v16) fun v18 =>
  gd v18 true (pv (some v3)) fun v19 =>
  gd v18 true (pv (some v8)) fun v20 =>
  mem fun w22 => gd v18 true (cal Pg noR 18 ⟨[v19, v20]⟩) fun v21 =>
  pv (pickO v18 v21 (.bool false)) fun v23 =>
  gd v23 true (pv (some v4)) fun v24 =>
  gd v23 true (pv (some v9)) fun v25 =>
  gd v23 true (pv (bin .eql v24 v25)) fun v26 =>
  pv (pickO v23 v26 (.bool false)) fun v27 =>
  mem fun w29 => gd v27 true (cal Pg noR 12 ⟨[]⟩) fun v28 =>
  pv (pickO v27 v28 (.bool false)) fun v30 =>
  R (.returned v30))
theorem F3_j1_ok (R : ER) (e : Env) : den Pg R (cd Try.f3 [1,1]) e (kont Pg R Try.f3) = (F3_j1 R (e 1)) := by kernel_rfl
def F3 (R : ER) (x0 : Value) : WP :=
  bx 25 x0 fun v31 =>
  pv (faO 0 v31) fun v32 =>
  ld1 v32 fun v33 =>
  pv (faO 1 v31) fun v34 =>
  ld1 v34 fun v35 =>
  cal Pg R 11 ⟨[v33, v35]⟩ fun v36 =>
  pv (unO .not v36) fun v37 =>
  cnd v37 (
   cal Pg R 12 ⟨[]⟩ fun v38 =>
   R (.returned v38)) (
   F3_j1 R v31)
theorem F3_den (R : ER) (x0 : Value) : den Pg R (cd Try.f3 []) (argsEnv [x0]) (kont Pg R Try.f3) = F3 R x0 :=
  have h : ∀ e, den Pg R (cd Try.f3 []) e (kont Pg R Try.f3) = F3 R (e 0) := fun e => (den_join Pg R 1 (cd Try.f3 []) (cd Try.f3 [1,1]) e (kont Pg R Try.f3) (fun e => F3_j1 R (e 1)) _ (by kernel_rfl) (fun e => F3_j1_ok R e) (by kernel_rfl))
  h _
theorem F3_calls {R : ER} {x0 : Value} {w : World} (h : F3 R x0 w) : Calls Pg 3 ⟨[x0]⟩ w R :=
  calls_of_den Try.func3 (by kernel_rfl) (by kernel_rfl) (F3_den R x0) h
/-! ### 4: orpimentlaw05_InheritLimits -/
def F4_j3 (R : ER) (x5 x8 : Value) : WP :=
  ldN 2 x5 fun v1 =>
  cal Pg R 16 ⟨[v1]⟩ fun v2 =>
  pv (bin .eql v2 x8) fun v3 =>
  gd v3 true (cal Pg R 12 ⟨[]⟩) fun v4 =>
  pv (pickO v3 v4 (.bool false)) fun v5 =>
  R (.returned v5)
theorem F4_j3_ok (R : ER) (e : Env) : den Pg R (cd Try.f4 [1,1,1,1,1,1]) e (kont Pg R Try.f4) = (F4_j3 R (e 5) (e 8)) := by kernel_rfl
def F4_j2 (R : ER) (x5 : Value) : WP :=
  pv (faO 0 x5) fun v6 =>
  ld1 v6 fun v7 =>
  pv (lenS v7) fun v8 =>
  pv (bin .gtr v8 (.int .i64 256)) fun v9 =>
  gd v9 false (pv (faO 1 x5)) fun v10 =>
  gd v9 false (ld1 v10) fun v11 =>
  gd v9 false (pv (lenS v11)) fun v12 =>
  gd v9 false (pv (bin .gtr v12 (.int .i64 2000))) fun v13 =>
  pv (pickO v9 (.bool true) v13) fun v14 =>
  cnd v14 (
   F4_j3 R x5 (.int .i64 18)) (
   F4_j3 R x5 (.int .i64 0))
theorem F4_j2_ok (R : ER) (e : Env) : den Pg R (cd Try.f4 [1,1,1,1]) e (kont Pg R Try.f4) = (F4_j2 R (e 5)) := (den_join Pg R 1 (cd Try.f4 [1,1,1,1]) (cd Try.f4 [1,1,1,1,1,1]) e (kont Pg R Try.f4) (fun e => F4_j3 R (e 5) (e 8)) _ (by kernel_rfl) (fun e => F4_j3_ok R e) (by kernel_rfl))
def F4_j6 (R : ER) (k1 : V3) (x1 x5 x7 : Value) : WP :=
  pv (faO 1 x5) fun v15 =>
  ld1 v15 fun v16 =>
  pv (bin .rem x7 (.int .i64 249)) fun v17 =>
  pv (bin .quo x7 (.int .i64 249)) fun v18 =>
  pv (bin .add x7 v18) fun v19 =>
  pv (bin .add v19 (.int .i64 1)) fun v20 =>
  pv (bin .rem v20 (.int .i64 249)) fun v21 =>
  pv (bldO [.int .i64 0, .int .i64 0] [(0,1, v17), (1,1, v21)]) fun v22 =>
  valV Pg R (Instr.buildSlice 23 1 ⟨[(0, v22)]⟩) fun v23 =>
  blt Pg R .append ⟨[23,23]⟩ 23 ⟨[false, false]⟩ ⟨[v16, v23]⟩ fun v24 =>
  pv (faO 1 x5) fun v25 =>
  st1 v25 v24 fun _ =>
  pv (bin .add x7 (.int .i64 1)) fun v26 =>
  k1 x1 x5 v26
theorem F4_j6_ok (R : ER) (k1 : V3) (e : Env) : den Pg R (cd Try.f4 [1,1,1,0,1,0,0,1]) e (setN (inB 2 (setN (kont Pg R Try.f4) (fun e => F4_j2 R (e 5)))) (fun e => k1 (e 1) (e 5) (e 7))) = (F4_j6 R k1 (e 1) (e 5) (e 7)) := by kernel_rfl
def F4_b1 (R : ER) (k1 : V3) (x1 x5 x7 : Value) : WP :=
  pv (bin .rem x1 (.int .u8 11)) fun v27 =>
  pv (cvI .i64 v27) fun v28 =>
  pv (bin .add (.int .i64 1995) v28) fun v29 =>
  pv (bin .lss x7 v29) fun v30 =>
  cnd v30 (
   F4_j6 R k1 x1 x5 x7) (
   F4_j2 R x5)
theorem F4_b1_ok (R : ER) (k1 : V3) (e : Env) : den Pg R (cd Try.f4 [1,1,1,0,1,0,0]) e (setN (inB 2 (setN (kont Pg R Try.f4) (fun e => F4_j2 R (e 5)))) (fun e => k1 (e 1) (e 5) (e 7))) = (F4_b1 R k1 (e 1) (e 5) (e 7)) := (den_join Pg R 0 (cd Try.f4 [1,1,1,0,1,0,0]) (cd Try.f4 [1,1,1,0,1,0,0,1]) e (setN (inB 2 (setN (kont Pg R Try.f4) (fun e => F4_j2 R (e 5)))) (fun e => k1 (e 1) (e 5) (e 7))) (fun e => F4_j6 R k1 (e 1) (e 5) (e 7)) _ (by kernel_rfl) (fun e => F4_j6_ok R k1 e) (by kernel_rfl))
noncomputable def F4_l1 (R : ER) (n : Nat) : V3 := Nat.rec (motive := fun _ => V3) (fun _ _ _ => fun _ => False) (fun _ ih => fun x1 x5 x7 => F4_b1 R ih x1 x5 x7) n
theorem F4_l1_succ (R : ER) (n : Nat) (x1 x5 x7 : Value) : F4_l1 R (n + 1) x1 x5 x7 = F4_b1 R (F4_l1 R n) x1 x5 x7 := rfl
theorem F4_l1_ok (R : ER) : ∀ (n : Nat) (e : Env), iterL (den Pg R (cd Try.f4 [1,1,1,0,1,0,0])) n e (inB 2 (setN (kont Pg R Try.f4) (fun e => F4_j2 R (e 5)))) = F4_l1 R n (e 1) (e 5) (e 7) :=
  iterL_join (den Pg R (cd Try.f4 [1,1,1,0,1,0,0])) (inB 2 (setN (kont Pg R Try.f4) (fun e => F4_j2 R (e 5)))) (fun n e => F4_l1 R n (e 1) (e 5) (e 7)) (fun _ => rfl) (fun n e => (F4_b1_ok R (F4_l1 R n) e).trans (F4_l1_succ R n (e 1) (e 5) (e 7)).symm)
def F4_j5 (R : ER) (x1 x5 x7 : Value) : WP :=
  exN fun n => F4_l1 R n x1 x5 x7
theorem F4_j5_ok (R : ER) (e : Env) : den Pg R (cd Try.f4 [1,1,1,0,1]) e (setN (kont Pg R Try.f4) (fun e => F4_j2 R (e 5))) = (F4_j5 R (e 1) (e 5) (e 7)) := (den_block Pg R (cd Try.f4 [1,1,1,0,1]) 2 (cd Try.f4 [1,1,1,0,1,0]) e (setN (kont Pg R Try.f4) (fun e => F4_j2 R (e 5))) _ (by kernel_rfl) (den_loop Pg R (cd Try.f4 [1,1,1,0,1,0]) (cd Try.f4 [1,1,1,0,1,0,0]) e (inB 2 (setN (kont Pg R Try.f4) (fun e => F4_j2 R (e 5)))) (fun n e => F4_l1 R n (e 1) (e 5) (e 7)) _ (by kernel_rfl) (F4_l1_ok R) (by kernel_rfl)))
def F4_j4 (R : ER) (x1 x5 : Value) : WP :=
  F4_j5 R x1 x5 (.int .i64 0)
theorem F4_j4_ok (R : ER) (e : Env) : den Pg R (cd Try.f4 [1,1,1,0]) e (setN (kont Pg R Try.f4) (fun e => F4_j2 R (e 5))) = (F4_j4 R (e 1) (e 5)) := (den_join Pg R 0 (cd Try.f4 [1,1,1,0]) (cd Try.f4 [1,1,1,0,1]) e (setN (kont Pg R Try.f4) (fun e => F4_j2 R (e 5))) (fun e => F4_j5 R (e 1) (e 5) (e 7)) _ (by kernel_rfl) (fun e => F4_j5_ok R e) (by kernel_rfl))
def F4_j1 (R : ER) (x1 x5 : Value) : WP :=
  F4_j4 R x1 x5
theorem F4_j1_ok (R : ER) (e : Env) : den Pg R (cd Try.f4 [1,1,1]) e (kont Pg R Try.f4) = (F4_j1 R (e 1) (e 5)) := (den_join Pg R 0 (cd Try.f4 [1,1,1]) (cd Try.f4 [1,1,1,1]) e (kont Pg R Try.f4) (fun e => F4_j2 R (e 5)) _ (by kernel_rfl) (fun e => F4_j2_ok R e) (den_conv Pg R (pre 0 (cd Try.f4 [1,1,1])) (cd Try.f4 [1,1,1,0]) e (setN (kont Pg R Try.f4) (fun e => F4_j2 R (e 5))) _ (by kernel_rfl) (F4_j4_ok R e)))
def F4_j9 (R : ER) (k1 : V4) (x0 x1 x5 x6 : Value) : WP :=
  pv (faO 0 x5) fun v31 =>
  ld1 v31 fun v32 =>
  pv (bin .rem x6 (.int .i64 256)) fun v33 =>
  valV Pg R (Instr.buildSlice 22 1 ⟨[(0, v33)]⟩) fun v34 =>
  blt Pg R .append ⟨[22,22]⟩ 22 ⟨[false, false]⟩ ⟨[v32, v34]⟩ fun v35 =>
  pv (faO 0 x5) fun v36 =>
  st1 v36 v35 fun _ =>
  pv (bin .add x6 (.int .i64 1)) fun v37 =>
  k1 x0 x1 x5 v37
theorem F4_j9_ok (R : ER) (k1 : V4) (e : Env) : den Pg R (cd Try.f4 [1,1,0,1,0,0,1]) e (setN (inB 0 (setN (kont Pg R Try.f4) (fun e => F4_j1 R (e 1) (e 5)))) (fun e => k1 (e 0) (e 1) (e 5) (e 6))) = (F4_j9 R k1 (e 0) (e 1) (e 5) (e 6)) := by kernel_rfl
def F4_b2 (R : ER) (k1 : V4) (x0 x1 x5 x6 : Value) : WP :=
  pv (bin .rem x0 (.int .u8 11)) fun v38 =>
  pv (cvI .i64 v38) fun v39 =>
  pv (bin .add (.int .i64 250) v39) fun v40 =>
  pv (bin .lss x6 v40) fun v41 =>
  cnd v41 (
   F4_j9 R k1 x0 x1 x5 x6) (
   F4_j1 R x1 x5)
theorem F4_b2_ok (R : ER) (k1 : V4) (e : Env) : den Pg R (cd Try.f4 [1,1,0,1,0,0]) e (setN (inB 0 (setN (kont Pg R Try.f4) (fun e => F4_j1 R (e 1) (e 5)))) (fun e => k1 (e 0) (e 1) (e 5) (e 6))) = (F4_b2 R k1 (e 0) (e 1) (e 5) (e 6)) := (den_join Pg R 0 (cd Try.f4 [1,1,0,1,0,0]) (cd Try.f4 [1,1,0,1,0,0,1]) e (setN (inB 0 (setN (kont Pg R Try.f4) (fun e => F4_j1 R (e 1) (e 5)))) (fun e => k1 (e 0) (e 1) (e 5) (e 6))) (fun e => F4_j9 R k1 (e 0) (e 1) (e 5) (e 6)) _ (by kernel_rfl) (fun e => F4_j9_ok R k1 e) (by kernel_rfl))
noncomputable def F4_l2 (R : ER) (n : Nat) : V4 := Nat.rec (motive := fun _ => V4) (fun _ _ _ _ => fun _ => False) (fun _ ih => fun x0 x1 x5 x6 => F4_b2 R ih x0 x1 x5 x6) n
theorem F4_l2_succ (R : ER) (n : Nat) (x0 x1 x5 x6 : Value) : F4_l2 R (n + 1) x0 x1 x5 x6 = F4_b2 R (F4_l2 R n) x0 x1 x5 x6 := rfl
theorem F4_l2_ok (R : ER) : ∀ (n : Nat) (e : Env), iterL (den Pg R (cd Try.f4 [1,1,0,1,0,0])) n e (inB 0 (setN (kont Pg R Try.f4) (fun e => F4_j1 R (e 1) (e 5)))) = F4_l2 R n (e 0) (e 1) (e 5) (e 6) :=
  iterL_join (den Pg R (cd Try.f4 [1,1,0,1,0,0])) (inB 0 (setN (kont Pg R Try.f4) (fun e => F4_j1 R (e 1) (e 5)))) (fun n e => F4_l2 R n (e 0) (e 1) (e 5) (e 6)) (fun _ => rfl) (fun n e => (F4_b2_ok R (F4_l2 R n) e).trans (F4_l2_succ R n (e 0) (e 1) (e 5) (e 6)).symm)
def F4_j8 (R : ER) (x0 x1 x5 x6 : Value) : WP :=
  exN fun n => F4_l2 R n x0 x1 x5 x6
theorem F4_j8_ok (R : ER) (e : Env) : den Pg R (cd Try.f4 [1,1,0,1]) e (setN (kont Pg R Try.f4) (fun e => F4_j1 R (e 1) (e 5))) = (F4_j8 R (e 0) (e 1) (e 5) (e 6)) := (den_block Pg R (cd Try.f4 [1,1,0,1]) 0 (cd Try.f4 [1,1,0,1,0]) e (setN (kont Pg R Try.f4) (fun e => F4_j1 R (e 1) (e 5))) _ (by kernel_rfl) (den_loop Pg R (cd Try.f4 [1,1,0,1,0]) (cd Try.f4 [1,1,0,1,0,0]) e (inB 0 (setN (kont Pg R Try.f4) (fun e => F4_j1 R (e 1) (e 5)))) (fun n e => F4_l2 R n (e 0) (e 1) (e 5) (e 6)) _ (by kernel_rfl) (F4_l2_ok R) (by kernel_rfl)))
def F4_j7 (R : ER) (x0 x1 x5 : Value) : WP :=
  F4_j8 R x0 x1 x5 (.int .i64 0)
theorem F4_j7_ok (R : ER) (e : Env) : den Pg R (cd Try.f4 [1,1,0]) e (setN (kont Pg R Try.f4) (fun e => F4_j1 R (e 1) (e 5))) = (F4_j7 R (e 0) (e 1) (e 5)) := (den_join Pg R 0 (cd Try.f4 [1,1,0]) (cd Try.f4 [1,1,0,1]) e (setN (kont Pg R Try.f4) (fun e => F4_j1 R (e 1) (e 5))) (fun e => F4_j8 R (e 0) (e 1) (e 5) (e 6)) _ (by kernel_rfl) (fun e => F4_j8_ok R e) (by kernel_rfl))
def F4 (R : ER) (x0 x1 : Value) : WP :=
  pv (bldO [.slice none 0 0, .slice none 0 0] []) fun v42 =>
  al Pg 25 fun v43 =>
  stN 2 v43 v42 fun _ =>
  F4_j7 R x0 x1 v43
theorem F4_den (R : ER) (x0 x1 : Value) : den Pg R (cd Try.f4 []) (argsEnv [x0, x1]) (kont Pg R Try.f4) = F4 R x0 x1 :=
  have h : ∀ e, den Pg R (cd Try.f4 []) e (kont Pg R Try.f4) = F4 R (e 0) (e 1) := fun e => (den_join Pg R 2 (cd Try.f4 []) (cd Try.f4 [1,1,1]) e (kont Pg R Try.f4) (fun e => F4_j1 R (e 1) (e 5)) _ (by kernel_rfl) (fun e => F4_j1_ok R e) (den_join Pg R 1 (pre 2 (cd Try.f4 [])) (cd Try.f4 [1,1,0]) e (setN (kont Pg R Try.f4) (fun e => F4_j1 R (e 1) (e 5))) (fun e => F4_j7 R (e 0) (e 1) (e 5)) _ (by kernel_rfl) (fun e => F4_j7_ok R e) (by kernel_rfl)))
  h _
theorem F4_calls {R : ER} {x0 x1 : Value} {w : World} (h : F4 R x0 x1 w) : Calls Pg 4 ⟨[x0, x1]⟩ w R :=
  calls_of_den Try.func4 (by kernel_rfl) (by kernel_rfl) (F4_den R x0 x1) h
/-! ### 5: orpimentlaw05_InheritReasons -/
def F5_j1 (R : ER) (x1 x2 : Value) : WP :=
  ldN 2 x2 fun v1 =>
  cal Pg R 19 ⟨[v1, x1]⟩ fun v2 =>
  pv (extO 0 v2) fun v3 =>
  pv (extO 1 v2) fun v4 =>
  ldN 2 x2 fun v5 =>
  cal Pg R 15 ⟨[v5]⟩ fun v6 =>
  cal Pg R 20 ⟨[v6, x1]⟩ fun v7 =>
  pv (extO 0 v7) fun v8 =>
  pv (extO 1 v7) fun v9 =>
  cal Pg R 18 ⟨[v3, v8]⟩ fun v10 =>
  gd v10 true (pv (some v4)) fun v11 =>
  gd v10 true (pv (some v9)) fun v12 =>
  gd v10 true (pv (bin .eql v11 v12)) fun v13 =>
  pv (pickO v10 v13 (.bool false)) fun v14 =>
  gd v14 true (cal Pg R 12 ⟨[]⟩) fun v15 =>
  pv (pickO v14 v15 (.bool false)) fun v16 =>
  R (.returned v16)
theorem F5_j1_ok (R : ER) (e : Env) : den Pg R (cd Try.f5 [1,1]) e (kont Pg R Try.f5) = (F5_j1 R (e 1) (e 2)) := by kernel_rfl
def F5 (R : ER) (x0 x1 : Value) : WP :=
  bx 25 x0 fun v17 =>
  pv (faO 0 v17) fun v18 =>
  ld1 v18 fun v19 =>
  pv (faO 1 v17) fun v20 =>
  ld1 v20 fun v21 =>
  cal Pg R 11 ⟨[v19, v21]⟩ fun v22 =>
  pv (unO .not v22) fun v23 =>
  cnd v23 (
   cal Pg R 12 ⟨[]⟩ fun v24 =>
   R (.returned v24)) (
   F5_j1 R x1 v17)
theorem F5_den (R : ER) (x0 x1 : Value) : den Pg R (cd Try.f5 []) (argsEnv [x0, x1]) (kont Pg R Try.f5) = F5 R x0 x1 :=
  have h : ∀ e, den Pg R (cd Try.f5 []) e (kont Pg R Try.f5) = F5 R (e 0) (e 1) := fun e => (den_join Pg R 1 (cd Try.f5 []) (cd Try.f5 [1,1]) e (kont Pg R Try.f5) (fun e => F5_j1 R (e 1) (e 2)) _ (by kernel_rfl) (fun e => F5_j1_ok R e) (by kernel_rfl))
  h _
theorem F5_calls {R : ER} {x0 x1 : Value} {w : World} (h : F5 R x0 x1 w) : Calls Pg 5 ⟨[x0, x1]⟩ w R :=
  calls_of_den Try.func5 (by kernel_rfl) (by kernel_rfl) (F5_den R x0 x1) h
/-! ### 6: orpimentlaw05_InheritCycles -/
def F6_j1 (R : ER) (x1 : Value) : WP :=
  ldN 2 x1 fun v1 =>
  cal Pg R 21 ⟨[v1]⟩ fun v2 =>
  pv (extO 0 v2) fun v3 =>
  pv (extO 1 v2) fun v4 =>
  ldN 2 x1 fun v5 =>
  cal Pg R 15 ⟨[v5]⟩ fun v6 =>
  cal Pg R 22 ⟨[v6]⟩ fun v7 =>
  pv (extO 0 v7) fun v8 =>
  pv (extO 1 v7) fun v9 =>
  cal Pg R 18 ⟨[v3, v8]⟩ fun v10 =>
  gd v10 true (pv (some v4)) fun v11 =>
  gd v10 true (pv (some v9)) fun v12 =>
  gd v10 true (pv (bin .eql v11 v12)) fun v13 =>
  pv (pickO v10 v13 (.bool false)) fun v14 =>
  gd v14 true (cal Pg R 12 ⟨[]⟩) fun v15 =>
  pv (pickO v14 v15 (.bool false)) fun v16 =>
  R (.returned v16)
theorem F6_j1_ok (R : ER) (e : Env) : den Pg R (cd Try.f6 [1,1]) e (kont Pg R Try.f6) = (F6_j1 R (e 1)) := by kernel_rfl
def F6 (R : ER) (x0 : Value) : WP :=
  bx 25 x0 fun v17 =>
  pv (faO 0 v17) fun v18 =>
  ld1 v18 fun v19 =>
  pv (faO 1 v17) fun v20 =>
  ld1 v20 fun v21 =>
  cal Pg R 11 ⟨[v19, v21]⟩ fun v22 =>
  pv (unO .not v22) fun v23 =>
  cnd v23 (
   cal Pg R 12 ⟨[]⟩ fun v24 =>
   R (.returned v24)) (
   F6_j1 R v17)
theorem F6_den (R : ER) (x0 : Value) : den Pg R (cd Try.f6 []) (argsEnv [x0]) (kont Pg R Try.f6) = F6 R x0 :=
  have h : ∀ e, den Pg R (cd Try.f6 []) e (kont Pg R Try.f6) = F6 R (e 0) := fun e => (den_join Pg R 1 (cd Try.f6 []) (cd Try.f6 [1,1]) e (kont Pg R Try.f6) (fun e => F6_j1 R (e 1)) _ (by kernel_rfl) (fun e => F6_j1_ok R e) (by kernel_rfl))
  h _
theorem F6_calls {R : ER} {x0 : Value} {w : World} (h : F6 R x0 w) : Calls Pg 6 ⟨[x0]⟩ w R :=
  calls_of_den Try.func6 (by kernel_rfl) (by kernel_rfl) (F6_den R x0) h
/-! ### 7: orpimentlaw05_InheritMonotone -/
def F7_j5 (R : ER) : WP :=
  cal Pg R 12 ⟨[]⟩ fun v1 =>
  R (.returned v1)
theorem F7_j5_ok (R : ER) (e : Env) : den Pg R (cd Try.f7 [1,1,1,1,1,1,1,1]) e (kont Pg R Try.f7) = (F7_j5 R) := by kernel_rfl
def F7_j9 (R : ER) (k1 : V3) (x2 x5 x14 : Value) : WP :=
  pv (bin .add x14 (.int .i64 1)) fun v2 =>
  k1 x2 x5 v2
theorem F7_j9_ok (R : ER) (k1 : V3) (e : Env) : den Pg R (cd Try.f7 [1,1,1,1,1,1,1,0,1,0,0,1,1]) e (setN (inB 4 (setN (kont Pg R Try.f7) (fun e => F7_j5 R))) (fun e => k1 (e 2) (e 5) (e 14))) = (F7_j9 R k1 (e 2) (e 5) (e 14)) := by kernel_rfl
def F7_j13 (R : ER) (k1 : V3) (k2 : V5) (x2 x5 x14 x15 x17 : Value) : WP :=
  drewV (
  pv (ixS 1 x15 x17) fun v3 =>
  ld1 v3 fun v4 =>
  pv (bin .lss v4 (.int .i64 0)) fun v5 =>
  gd v5 false (pv (some x15)) fun v6 =>
  gd v5 false (pv (some x17)) fun v7 =>
  gd v5 false (pv (ixS 1 v6 v7)) fun v8 =>
  gd v5 false (ld1 v8) fun v9 =>
  gd v5 false (pv (some x5)) fun v10 =>
  gd v5 false (pv (lenS v10)) fun v11 =>
  gd v5 false (pv (bin .geq v9 v11)) fun v12 =>
  pv (pickO v5 (.bool true) v12) fun v13 =>
  gd v13 false (pv (some x5)) fun v14 =>
  gd v13 false (pv (some x15)) fun v15 =>
  gd v13 false (pv (some x17)) fun v16 =>
  gd v13 false (pv (ixS 1 v15 v16)) fun v17 =>
  gd v13 false (ld1 v17) fun v18 =>
  gd v13 false (pv (ixS 1 v14 v18)) fun v19 =>
  gd v13 false (ld1 v19) fun v20 =>
  gd v13 false (pv (some x5)) fun v21 =>
  gd v13 false (pv (some x14)) fun v22 =>
  gd v13 false (pv (ixS 1 v21 v22)) fun v23 =>
  gd v13 false (ld1 v23) fun v24 =>
  gd v13 false (pv (bin .gtr v20 v24)) fun v25 =>
  pv (pickO v13 (.bool true) v25) fun v26 =>
  cnd v26 (
   R (.returned (.bool false))) (
   pv (bin .add x17 (.int .i64 1)) fun v27 =>
  k2 x2 x5 x14 x15 v27))
theorem F7_j13_ok (R : ER) (k1 : V3) (k2 : V5) (e : Env) : den Pg R (cd Try.f7 [1,1,1,1,1,1,1,0,1,0,0,1,0,0,1,1,1,0,0,1]) e (setN (inB 6 (inB 5 (setN (setN (inB 4 (setN (kont Pg R Try.f7) (fun e => F7_j5 R))) (fun e => k1 (e 2) (e 5) (e 14))) (fun e => F7_j9 R k1 (e 2) (e 5) (e 14))))) (fun e => k2 (e 2) (e 5) (e 14) (e 15) (e 17))) = (F7_j13 R k1 k2 (e 2) (e 5) (e 14) (e 15) (e 17)) := (by kernel_rfl)
def F7_b2 (R : ER) (k1 : V3) (k2 : V5) (x2 x5 x14 x15 x17 : Value) : WP :=
  pv (lenS x15) fun v28 =>
  pv (bin .lss x17 v28) fun v29 =>
  cnd v29 (
   F7_j13 R k1 k2 x2 x5 x14 x15 x17) (
   F7_j9 R k1 x2 x5 x14)
theorem F7_b2_ok (R : ER) (k1 : V3) (k2 : V5) (e : Env) : den Pg R (cd Try.f7 [1,1,1,1,1,1,1,0,1,0,0,1,0,0,1,1,1,0,0]) e (setN (inB 6 (inB 5 (setN (setN (inB 4 (setN (kont Pg R Try.f7) (fun e => F7_j5 R))) (fun e => k1 (e 2) (e 5) (e 14))) (fun e => F7_j9 R k1 (e 2) (e 5) (e 14))))) (fun e => k2 (e 2) (e 5) (e 14) (e 15) (e 17))) = (F7_b2 R k1 k2 (e 2) (e 5) (e 14) (e 15) (e 17)) := (den_join Pg R 0 (cd Try.f7 [1,1,1,1,1,1,1,0,1,0,0,1,0,0,1,1,1,0,0]) (cd Try.f7 [1,1,1,1,1,1,1,0,1,0,0,1,0,0,1,1,1,0,0,1]) e (setN (inB 6 (inB 5 (setN (setN (inB 4 (setN (kont Pg R Try.f7) (fun e => F7_j5 R))) (fun e => k1 (e 2) (e 5) (e 14))) (fun e => F7_j9 R k1 (e 2) (e 5) (e 14))))) (fun e => k2 (e 2) (e 5) (e 14) (e 15) (e 17))) (fun e => F7_j13 R k1 k2 (e 2) (e 5) (e 14) (e 15) (e 17)) _ (by kernel_rfl) (fun e => F7_j13_ok R k1 k2 e) (by kernel_rfl))
noncomputable def F7_l1 (R : ER) (k1 : V3) (n : Nat) : V5 := Nat.rec (motive := fun _ => V5) (fun _ _ _ _ _ => fun _ => False) (fun _ ih => fun x2 x5 x14 x15 x17 => F7_b2 R k1 ih x2 x5 x14 x15 x17) n
theorem F7_l1_succ (R : ER) (k1 : V3) (n : Nat) (x2 x5 x14 x15 x17 : Value) : F7_l1 R k1 (n + 1) x2 x5 x14 x15 x17 = F7_b2 R k1 (F7_l1 R k1 n) x2 x5 x14 x15 x17 := rfl
theorem F7_l1_ok (R : ER) (k1 : V3) : ∀ (n : Nat) (e : Env), iterL (den Pg R (cd Try.f7 [1,1,1,1,1,1,1,0,1,0,0,1,0,0,1,1,1,0,0])) n e (inB 6 (inB 5 (setN (setN (inB 4 (setN (kont Pg R Try.f7) (fun e => F7_j5 R))) (fun e => k1 (e 2) (e 5) (e 14))) (fun e => F7_j9 R k1 (e 2) (e 5) (e 14))))) = F7_l1 R k1 n (e 2) (e 5) (e 14) (e 15) (e 17) :=
  iterL_join (den Pg R (cd Try.f7 [1,1,1,1,1,1,1,0,1,0,0,1,0,0,1,1,1,0,0])) (inB 6 (inB 5 (setN (setN (inB 4 (setN (kont Pg R Try.f7) (fun e => F7_j5 R))) (fun e => k1 (e 2) (e 5) (e 14))) (fun e => F7_j9 R k1 (e 2) (e 5) (e 14))))) (fun n e => F7_l1 R k1 n (e 2) (e 5) (e 14) (e 15) (e 17)) (fun _ => rfl) (fun n e => (F7_b2_ok R k1 (F7_l1 R k1 n) e).trans (F7_l1_succ R k1 n (e 2) (e 5) (e 14) (e 15) (e 17)).symm)
def F7_j12 (R : ER) (k1 : V3) (x2 x5 x14 x15 x17 : Value) : WP :=
  exN fun n => F7_l1 R k1 n x2 x5 x14 x15 x17
theorem F7_j12_ok (R : ER) (k1 : V3) (e : Env) : den Pg R (cd Try.f7 [1,1,1,1,1,1,1,0,1,0,0,1,0,0,1,1,1]) e (inB 5 (setN (setN (inB 4 (setN (kont Pg R Try.f7) (fun e => F7_j5 R))) (fun e => k1 (e 2) (e 5) (e 14))) (fun e => F7_j9 R k1 (e 2) (e 5) (e 14)))) = (F7_j12 R k1 (e 2) (e 5) (e 14) (e 15) (e 17)) := (den_block Pg R (cd Try.f7 [1,1,1,1,1,1,1,0,1,0,0,1,0,0,1,1,1]) 6 (cd Try.f7 [1,1,1,1,1,1,1,0,1,0,0,1,0,0,1,1,1,0]) e (inB 5 (setN (setN (inB 4 (setN (kont Pg R Try.f7) (fun e => F7_j5 R))) (fun e => k1 (e 2) (e 5) (e 14))) (fun e => F7_j9 R k1 (e 2) (e 5) (e 14)))) _ (by kernel_rfl) (den_loop Pg R (cd Try.f7 [1,1,1,1,1,1,1,0,1,0,0,1,0,0,1,1,1,0]) (cd Try.f7 [1,1,1,1,1,1,1,0,1,0,0,1,0,0,1,1,1,0,0]) e (inB 6 (inB 5 (setN (setN (inB 4 (setN (kont Pg R Try.f7) (fun e => F7_j5 R))) (fun e => k1 (e 2) (e 5) (e 14))) (fun e => F7_j9 R k1 (e 2) (e 5) (e 14))))) (fun n e => F7_l1 R k1 n (e 2) (e 5) (e 14) (e 15) (e 17)) _ (by kernel_rfl) (F7_l1_ok R k1) (by kernel_rfl)))
def F7_j11 (R : ER) (k1 : V3) (x2 x5 x14 x15 : Value) : WP :=
  F7_j12 R k1 x2 x5 x14 x15 (.int .i64 0)
theorem F7_j11_ok (R : ER) (k1 : V3) (e : Env) : den Pg R (cd Try.f7 [1,1,1,1,1,1,1,0,1,0,0,1,0,0,1,1]) e (inB 5 (setN (setN (inB 4 (setN (kont Pg R Try.f7) (fun e => F7_j5 R))) (fun e => k1 (e 2) (e 5) (e 14))) (fun e => F7_j9 R k1 (e 2) (e 5) (e 14)))) = (F7_j11 R k1 (e 2) (e 5) (e 14) (e 15)) := (den_join Pg R 0 (cd Try.f7 [1,1,1,1,1,1,1,0,1,0,0,1,0,0,1,1]) (cd Try.f7 [1,1,1,1,1,1,1,0,1,0,0,1,0,0,1,1,1]) e (inB 5 (setN (setN (inB 4 (setN (kont Pg R Try.f7) (fun e => F7_j5 R))) (fun e => k1 (e 2) (e 5) (e 14))) (fun e => F7_j9 R k1 (e 2) (e 5) (e 14)))) (fun e => F7_j12 R k1 (e 2) (e 5) (e 14) (e 15) (e 17)) _ (by kernel_rfl) (fun e => F7_j12_ok R k1 e) (by kernel_rfl))
def F7_j14 (R : ER) (k1 : V3) (x2 x5 x14 x15 x16 : Value) : WP :=
  drewV (
  pv (bin .neq x16 (.int .i64 0)) fun v30 =>
  gd v30 false (pv (some x15)) fun v31 =>
  gd v30 false (pv (lenS v31)) fun v32 =>
  gd v30 false (pv (bin .eql v32 (.int .i64 0))) fun v33 =>
  pv (pickO v30 (.bool true) v33) fun v34 =>
  gd v34 false (pv (some x15)) fun v35 =>
  gd v34 false (pv (some x15)) fun v36 =>
  gd v34 false (pv (lenS v36)) fun v37 =>
  gd v34 false (pv (bin .sub v37 (.int .i64 1))) fun v38 =>
  gd v34 false (pv (ixS 1 v35 v38)) fun v39 =>
  gd v34 false (ld1 v39) fun v40 =>
  gd v34 false (pv (some x14)) fun v41 =>
  gd v34 false (pv (bin .neq v40 v41)) fun v42 =>
  pv (pickO v34 (.bool true) v42) fun v43 =>
  gd v43 false (pv (some x15)) fun v44 =>
  gd v43 false (pv (ixS 1 v44 (.int .i64 0))) fun v45 =>
  gd v43 false (ld1 v45) fun v46 =>
  gd v43 false (pv (bin .lss v46 (.int .i64 0))) fun v47 =>
  pv (pickO v43 (.bool true) v47) fun v48 =>
  gd v48 false (pv (some x15)) fun v49 =>
  gd v48 false (pv (ixS 1 v49 (.int .i64 0))) fun v50 =>
  gd v48 false (ld1 v50) fun v51 =>
  gd v48 false (pv (some x5)) fun v52 =>
  gd v48 false (pv (lenS v52)) fun v53 =>
  gd v48 false (pv (bin .geq v51 v53)) fun v54 =>
  pv (pickO v48 (.bool true) v54) fun v55 =>
  gd v55 false (pv (faO 0 x2)) fun v56 =>
  gd v55 false (ld1 v56) fun v57 =>
  gd v55 false (pv (some x15)) fun v58 =>
  gd v55 false (pv (ixS 1 v58 (.int .i64 0))) fun v59 =>
  gd v55 false (ld1 v59) fun v60 =>
  gd v55 false (pv (ixS 1 v57 v60)) fun v61 =>
  gd v55 false (ld1 v61) fun v62 =>
  gd v55 false (pv (some x5)) fun v63 =>
  gd v55 false (pv (some x14)) fun v64 =>
  gd v55 false (pv (ixS 1 v63 v64)) fun v65 =>
  gd v55 false (ld1 v65) fun v66 =>
  gd v55 false (pv (bin .neq v62 v66)) fun v67 =>
  pv (pickO v55 (.bool true) v67) fun v68 =>
  cnd v68 (
   R (.returned (.bool false))) (
   F7_j11 R k1 x2 x5 x14 x15))
theorem F7_j14_ok (R : ER) (k1 : V3) (e : Env) : den Pg R (cd Try.f7 [1,1,1,1,1,1,1,0,1,0,0,1,0,0,1,0]) e (setN (inB 5 (setN (setN (inB 4 (setN (kont Pg R Try.f7) (fun e => F7_j5 R))) (fun e => k1 (e 2) (e 5) (e 14))) (fun e => F7_j9 R k1 (e 2) (e 5) (e 14)))) (fun e => F7_j11 R k1 (e 2) (e 5) (e 14) (e 15))) = (F7_j14 R k1 (e 2) (e 5) (e 14) (e 15) (e 16)) := (by kernel_rfl)
def F7_j10 (R : ER) (k1 : V3) (x2 x5 x14 : Value) : WP :=
  ldN 2 x2 fun v69 =>
  cal Pg R 19 ⟨[v69, x14]⟩ fun v70 =>
  pv (extO 0 v70) fun v71 =>
  pv (extO 1 v70) fun v72 =>
  F7_j14 R k1 x2 x5 x14 v71 v72
theorem F7_j10_ok (R : ER) (k1 : V3) (e : Env) : den Pg R (cd Try.f7 [1,1,1,1,1,1,1,0,1,0,0,1,0]) e (setN (setN (inB 4 (setN (kont Pg R Try.f7) (fun e => F7_j5 R))) (fun e => k1 (e 2) (e 5) (e 14))) (fun e => F7_j9 R k1 (e 2) (e 5) (e 14))) = (F7_j10 R k1 (e 2) (e 5) (e 14)) := (den_block Pg R (cd Try.f7 [1,1,1,1,1,1,1,0,1,0,0,1,0]) 5 (cd Try.f7 [1,1,1,1,1,1,1,0,1,0,0,1,0,0]) e (setN (setN (inB 4 (setN (kont Pg R Try.f7) (fun e => F7_j5 R))) (fun e => k1 (e 2) (e 5) (e 14))) (fun e => F7_j9 R k1 (e 2) (e 5) (e 14))) _ (by kernel_rfl) (den_join Pg R 1 (cd Try.f7 [1,1,1,1,1,1,1,0,1,0,0,1,0,0]) (cd Try.f7 [1,1,1,1,1,1,1,0,1,0,0,1,0,0,1,1]) e (inB 5 (setN (setN (inB 4 (setN (kont Pg R Try.f7) (fun e => F7_j5 R))) (fun e => k1 (e 2) (e 5) (e 14))) (fun e => F7_j9 R k1 (e 2) (e 5) (e 14)))) (fun e => F7_j11 R k1 (e 2) (e 5) (e 14) (e 15)) _ (by kernel_rfl) (fun e => F7_j11_ok R k1 e) (den_join Pg R 0 (pre 1 (cd Try.f7 [1,1,1,1,1,1,1,0,1,0,0,1,0,0])) (cd Try.f7 [1,1,1,1,1,1,1,0,1,0,0,1,0,0,1,0]) e (setN (inB 5 (setN (setN (inB 4 (setN (kont Pg R Try.f7) (fun e => F7_j5 R))) (fun e => k1 (e 2) (e 5) (e 14))) (fun e => F7_j9 R k1 (e 2) (e 5) (e 14)))) (fun e => F7_j11 R k1 (e 2) (e 5) (e 14) (e 15))) (fun e => F7_j14 R k1 (e 2) (e 5) (e 14) (e 15) (e 16)) _ (by kernel_rfl) (fun e => F7_j14_ok R k1 e) (by kernel_rfl))))
def F7_j8 (R : ER) (k1 : V3) (x2 x5 x14 : Value) : WP :=
  F7_j10 R k1 x2 x5 x14
theorem F7_j8_ok (R : ER) (k1 : V3) (e : Env) : den Pg R (cd Try.f7 [1,1,1,1,1,1,1,0,1,0,0,1]) e (setN (inB 4 (setN (kont Pg R Try.f7) (fun e => F7_j5 R))) (fun e => k1 (e 2) (e 5) (e 14))) = (F7_j8 R k1 (e 2) (e 5) (e 14)) := (den_join Pg R 0 (cd Try.f7 [1,1,1,1,1,1,1,0,1,0,0,1]) (cd Try.f7 [1,1,1,1,1,1,1,0,1,0,0,1,1]) e (setN (inB 4 (setN (kont Pg R Try.f7) (fun e => F7_j5 R))) (fun e => k1 (e 2) (e 5) (e 14))) (fun e => F7_j9 R k1 (e 2) (e 5) (e 14)) _ (by kernel_rfl) (fun e => F7_j9_ok R k1 e) (den_conv Pg R (pre 0 (cd Try.f7 [1,1,1,1,1,1,1,0,1,0,0,1])) (cd Try.f7 [1,1,1,1,1,1,1,0,1,0,0,1,0]) e (setN (setN (inB 4 (setN (kont Pg R Try.f7) (fun e => F7_j5 R))) (fun e => k1 (e 2) (e 5) (e 14))) (fun e => F7_j9 R k1 (e 2) (e 5) (e 14))) _ (by kernel_rfl) (F7_j10_ok R k1 e)))
def F7_b1 (R : ER) (k1 : V3) (x2 x5 x14 : Value) : WP :=
  pv (lenS x5) fun v73 =>
  pv (bin .lss x14 v73) fun v74 =>
  cnd v74 (
   F7_j8 R k1 x2 x5 x14) (
   F7_j5 R)
theorem F7_b1_ok (R : ER) (k1 : V3) (e : Env) : den Pg R (cd Try.f7 [1,1,1,1,1,1,1,0,1,0,0]) e (setN (inB 4 (setN (kont Pg R Try.f7) (fun e => F7_j5 R))) (fun e => k1 (e 2) (e 5) (e 14))) = (F7_b1 R k1 (e 2) (e 5) (e 14)) := (den_join Pg R 0 (cd Try.f7 [1,1,1,1,1,1,1,0,1,0,0]) (cd Try.f7 [1,1,1,1,1,1,1,0,1,0,0,1]) e (setN (inB 4 (setN (kont Pg R Try.f7) (fun e => F7_j5 R))) (fun e => k1 (e 2) (e 5) (e 14))) (fun e => F7_j8 R k1 (e 2) (e 5) (e 14)) _ (by kernel_rfl) (fun e => F7_j8_ok R k1 e) (by kernel_rfl))
noncomputable def F7_l2 (R : ER) (n : Nat) : V3 := Nat.rec (motive := fun _ => V3) (fun _ _ _ => fun _ => False) (fun _ ih => fun x2 x5 x14 => F7_b1 R ih x2 x5 x14) n
theorem F7_l2_succ (R : ER) (n : Nat) (x2 x5 x14 : Value) : F7_l2 R (n + 1) x2 x5 x14 = F7_b1 R (F7_l2 R n) x2 x5 x14 := rfl
theorem F7_l2_ok (R : ER) : ∀ (n : Nat) (e : Env), iterL (den Pg R (cd Try.f7 [1,1,1,1,1,1,1,0,1,0,0])) n e (inB 4 (setN (kont Pg R Try.f7) (fun e => F7_j5 R))) = F7_l2 R n (e 2) (e 5) (e 14) :=
  iterL_join (den Pg R (cd Try.f7 [1,1,1,1,1,1,1,0,1,0,0])) (inB 4 (setN (kont Pg R Try.f7) (fun e => F7_j5 R))) (fun n e => F7_l2 R n (e 2) (e 5) (e 14)) (fun _ => rfl) (fun n e => (F7_b1_ok R (F7_l2 R n) e).trans (F7_l2_succ R n (e 2) (e 5) (e 14)).symm)
def F7_j7 (R : ER) (x2 x5 x14 : Value) : WP :=
  exN fun n => F7_l2 R n x2 x5 x14
theorem F7_j7_ok (R : ER) (e : Env) : den Pg R (cd Try.f7 [1,1,1,1,1,1,1,0,1]) e (setN (kont Pg R Try.f7) (fun e => F7_j5 R)) = (F7_j7 R (e 2) (e 5) (e 14)) := (den_block Pg R (cd Try.f7 [1,1,1,1,1,1,1,0,1]) 4 (cd Try.f7 [1,1,1,1,1,1,1,0,1,0]) e (setN (kont Pg R Try.f7) (fun e => F7_j5 R)) _ (by kernel_rfl) (den_loop Pg R (cd Try.f7 [1,1,1,1,1,1,1,0,1,0]) (cd Try.f7 [1,1,1,1,1,1,1,0,1,0,0]) e (inB 4 (setN (kont Pg R Try.f7) (fun e => F7_j5 R))) (fun n e => F7_l2 R n (e 2) (e 5) (e 14)) _ (by kernel_rfl) (F7_l2_ok R) (by kernel_rfl)))
def F7_j6 (R : ER) (x2 x5 : Value) : WP :=
  F7_j7 R x2 x5 (.int .i64 0)
theorem F7_j6_ok (R : ER) (e : Env) : den Pg R (cd Try.f7 [1,1,1,1,1,1,1,0]) e (setN (kont Pg R Try.f7) (fun e => F7_j5 R)) = (F7_j6 R (e 2) (e 5)) := (den_join Pg R 0 (cd Try.f7 [1,1,1,1,1,1,1,0]) (cd Try.f7 [1,1,1,1,1,1,1,0,1]) e (setN (kont Pg R Try.f7) (fun e => F7_j5 R)) (fun e => F7_j7 R (e 2) (e 5) (e 14)) _ (by kernel_rfl) (fun e => F7_j7_ok R e) (by kernel_rfl))
def F7_j4 (R : ER) (x2 x5 : Value) : WP :=
  F7_j6 R x2 x5
theorem F7_j4_ok (R : ER) (e : Env) : den Pg R (cd Try.f7 [1,1,1,1,1,1,1]) e (kont Pg R Try.f7) = (F7_j4 R (e 2) (e 5)) := (den_join Pg R 0 (cd Try.f7 [1,1,1,1,1,1,1]) (cd Try.f7 [1,1,1,1,1,1,1,1]) e (kont Pg R Try.f7) (fun e => F7_j5 R) _ (by kernel_rfl) (fun e => F7_j5_ok R e) (den_conv Pg R (pre 0 (cd Try.f7 [1,1,1,1,1,1,1])) (cd Try.f7 [1,1,1,1,1,1,1,0]) e (setN (kont Pg R Try.f7) (fun e => F7_j5 R)) _ (by kernel_rfl) (F7_j6_ok R e)))
def F7_j17 (R : ER) (k1 : V5) (x2 x5 x11 x12 x13 : Value) : WP :=
  drewV (
  pv (ixS 1 x11 x13) fun v75 =>
  ld1 v75 fun v76 =>
  pv (bin .lss v76 (.int .i64 0)) fun v77 =>
  gd v77 false (pv (some x11)) fun v78 =>
  gd v77 false (pv (some x13)) fun v79 =>
  gd v77 false (pv (ixS 1 v78 v79)) fun v80 =>
  gd v77 false (ld1 v80) fun v81 =>
  gd v77 false (pv (some x5)) fun v82 =>
  gd v77 false (pv (lenS v82)) fun v83 =>
  gd v77 false (pv (bin .geq v81 v83)) fun v84 =>
  pv (pickO v77 (.bool true) v84) fun v85 =>
  gd v85 false (pv (some x5)) fun v86 =>
  gd v85 false (pv (some x11)) fun v87 =>
  gd v85 false (pv (some x13)) fun v88 =>
  gd v85 false (pv (ixS 1 v87 v88)) fun v89 =>
  gd v85 false (ld1 v89) fun v90 =>
  gd v85 false (pv (ixS 1 v86 v90)) fun v91 =>
  gd v85 false (ld1 v91) fun v92 =>
  gd v85 false (pv (some x5)) fun v93 =>
  gd v85 false (pv (some x11)) fun v94 =>
  gd v85 false (pv (ixS 1 v94 (.int .i64 0))) fun v95 =>
  gd v85 false (ld1 v95) fun v96 =>
  gd v85 false (pv (ixS 1 v93 v96)) fun v97 =>
  gd v85 false (ld1 v97) fun v98 =>
  gd v85 false (pv (bin .neq v92 v98)) fun v99 =>
  pv (pickO v85 (.bool true) v99) fun v100 =>
  cnd v100 (
   R (.returned (.bool false))) (
   pv (bin .add x13 (.int .i64 1)) fun v101 =>
  k1 x2 x5 x11 x12 v101))
theorem F7_j17_ok (R : ER) (k1 : V5) (e : Env) : den Pg R (cd Try.f7 [1,1,1,1,1,1,0,1,0,0,1]) e (setN (inB 2 (setN (kont Pg R Try.f7) (fun e => F7_j4 R (e 2) (e 5)))) (fun e => k1 (e 2) (e 5) (e 11) (e 12) (e 13))) = (F7_j17 R k1 (e 2) (e 5) (e 11) (e 12) (e 13)) := (by kernel_rfl)
def F7_b3 (R : ER) (k1 : V5) (x2 x5 x11 x12 x13 : Value) : WP :=
  pv (bin .eql x12 (.int .i64 0)) fun v102 =>
  gd v102 true (pv (some x13)) fun v103 =>
  gd v102 true (pv (some x11)) fun v104 =>
  gd v102 true (pv (lenS v104)) fun v105 =>
  gd v102 true (pv (bin .lss v103 v105)) fun v106 =>
  pv (pickO v102 v106 (.bool false)) fun v107 =>
  cnd v107 (
   F7_j17 R k1 x2 x5 x11 x12 x13) (
   F7_j4 R x2 x5)
theorem F7_b3_ok (R : ER) (k1 : V5) (e : Env) : den Pg R (cd Try.f7 [1,1,1,1,1,1,0,1,0,0]) e (setN (inB 2 (setN (kont Pg R Try.f7) (fun e => F7_j4 R (e 2) (e 5)))) (fun e => k1 (e 2) (e 5) (e 11) (e 12) (e 13))) = (F7_b3 R k1 (e 2) (e 5) (e 11) (e 12) (e 13)) := (den_join Pg R 0 (cd Try.f7 [1,1,1,1,1,1,0,1,0,0]) (cd Try.f7 [1,1,1,1,1,1,0,1,0,0,1]) e (setN (inB 2 (setN (kont Pg R Try.f7) (fun e => F7_j4 R (e 2) (e 5)))) (fun e => k1 (e 2) (e 5) (e 11) (e 12) (e 13))) (fun e => F7_j17 R k1 (e 2) (e 5) (e 11) (e 12) (e 13)) _ (by kernel_rfl) (fun e => F7_j17_ok R k1 e) (by kernel_rfl))
noncomputable def F7_l3 (R : ER) (n : Nat) : V5 := Nat.rec (motive := fun _ => V5) (fun _ _ _ _ _ => fun _ => False) (fun _ ih => fun x2 x5 x11 x12 x13 => F7_b3 R ih x2 x5 x11 x12 x13) n
theorem F7_l3_succ (R : ER) (n : Nat) (x2 x5 x11 x12 x13 : Value) : F7_l3 R (n + 1) x2 x5 x11 x12 x13 = F7_b3 R (F7_l3 R n) x2 x5 x11 x12 x13 := rfl
theorem F7_l3_ok (R : ER) : ∀ (n : Nat) (e : Env), iterL (den Pg R (cd Try.f7 [1,1,1,1,1,1,0,1,0,0])) n e (inB 2 (setN (kont Pg R Try.f7) (fun e => F7_j4 R (e 2) (e 5)))) = F7_l3 R n (e 2) (e 5) (e 11) (e 12) (e 13) :=
  iterL_join (den Pg R (cd Try.f7 [1,1,1,1,1,1,0,1,0,0])) (inB 2 (setN (kont Pg R Try.f7) (fun e => F7_j4 R (e 2) (e 5)))) (fun n e => F7_l3 R n (e 2) (e 5) (e 11) (e 12) (e 13)) (fun _ => rfl) (fun n e => (F7_b3_ok R (F7_l3 R n) e).trans (F7_l3_succ R n (e 2) (e 5) (e 11) (e 12) (e 13)).symm)
def F7_j16 (R : ER) (x2 x5 x11 x12 x13 : Value) : WP :=
  exN fun n => F7_l3 R n x2 x5 x11 x12 x13
theorem F7_j16_ok (R : ER) (e : Env) : den Pg R (cd Try.f7 [1,1,1,1,1,1,0,1]) e (setN (kont Pg R Try.f7) (fun e => F7_j4 R (e 2) (e 5))) = (F7_j16 R (e 2) (e 5) (e 11) (e 12) (e 13)) := (den_block Pg R (cd Try.f7 [1,1,1,1,1,1,0,1]) 2 (cd Try.f7 [1,1,1,1,1,1,0,1,0]) e (setN (kont Pg R Try.f7) (fun e => F7_j4 R (e 2) (e 5))) _ (by kernel_rfl) (den_loop Pg R (cd Try.f7 [1,1,1,1,1,1,0,1,0]) (cd Try.f7 [1,1,1,1,1,1,0,1,0,0]) e (inB 2 (setN (kont Pg R Try.f7) (fun e => F7_j4 R (e 2) (e 5)))) (fun n e => F7_l3 R n (e 2) (e 5) (e 11) (e 12) (e 13)) _ (by kernel_rfl) (F7_l3_ok R) (by kernel_rfl)))
def F7_j15 (R : ER) (x2 x5 x11 x12 : Value) : WP :=
  F7_j16 R x2 x5 x11 x12 (.int .i64 0)
theorem F7_j15_ok (R : ER) (e : Env) : den Pg R (cd Try.f7 [1,1,1,1,1,1,0]) e (setN (kont Pg R Try.f7) (fun e => F7_j4 R (e 2) (e 5))) = (F7_j15 R (e 2) (e 5) (e 11) (e 12)) := (den_join Pg R 0 (cd Try.f7 [1,1,1,1,1,1,0]) (cd Try.f7 [1,1,1,1,1,1,0,1]) e (setN (kont Pg R Try.f7) (fun e => F7_j4 R (e 2) (e 5))) (fun e => F7_j16 R (e 2) (e 5) (e 11) (e 12) (e 13)) _ (by kernel_rfl) (fun e => F7_j16_ok R e) (by kernel_rfl))
def F7_j3 (R : ER) (x2 x5 : Value) : WP :=
  ldN 2 x2 fun v108 =>
  cal Pg R 21 ⟨[v108]⟩ fun v109 =>
  pv (extO 0 v109) fun v110 =>
  pv (extO 1 v109) fun v111 =>
  F7_j15 R x2 x5 v110 v111
theorem F7_j3_ok (R : ER) (e : Env) : den Pg R (cd Try.f7 [1,1,1,1,1]) e (kont Pg R Try.f7) = (F7_j3 R (e 2) (e 5)) := (den_join Pg R 1 (cd Try.f7 [1,1,1,1,1]) (cd Try.f7 [1,1,1,1,1,1,1]) e (kont Pg R Try.f7) (fun e => F7_j4 R (e 2) (e 5)) _ (by kernel_rfl) (fun e => F7_j4_ok R e) (den_join Pg R 0 (pre 1 (cd Try.f7 [1,1,1,1,1])) (cd Try.f7 [1,1,1,1,1,1,0]) e (setN (kont Pg R Try.f7) (fun e => F7_j4 R (e 2) (e 5))) (fun e => F7_j15 R (e 2) (e 5) (e 11) (e 12)) _ (by kernel_rfl) (fun e => F7_j15_ok R e) (by kernel_rfl)))
def F7_j23 (R : ER) (k1 : V4) (x2 x5 x8 x10 : Value) : WP :=
  drewV (
  pv (ixS 1 x8 x10) fun v112 =>
  ld1 v112 fun v113 =>
  pv (ixS 1 x5 x10) fun v114 =>
  ld1 v114 fun v115 =>
  pv (bin .lss v113 v115) fun v116 =>
  cnd v116 (
   R (.returned (.bool false))) (
   pv (bin .add x10 (.int .i64 1)) fun v117 =>
  k1 x2 x5 x8 v117))
theorem F7_j23_ok (R : ER) (k1 : V4) (e : Env) : den Pg R (cd Try.f7 [1,1,1,1,0,1,0,1,1,1,0,0,1]) e (setN (inB 0 (setN (kont Pg R Try.f7) (fun e => F7_j3 R (e 2) (e 5)))) (fun e => k1 (e 2) (e 5) (e 8) (e 10))) = (F7_j23 R k1 (e 2) (e 5) (e 8) (e 10)) := (by kernel_rfl)
def F7_b4 (R : ER) (k1 : V4) (x2 x5 x8 x10 : Value) : WP :=
  pv (lenS x5) fun v118 =>
  pv (bin .lss x10 v118) fun v119 =>
  cnd v119 (
   F7_j23 R k1 x2 x5 x8 x10) (
   F7_j3 R x2 x5)
theorem F7_b4_ok (R : ER) (k1 : V4) (e : Env) : den Pg R (cd Try.f7 [1,1,1,1,0,1,0,1,1,1,0,0]) e (setN (inB 0 (setN (kont Pg R Try.f7) (fun e => F7_j3 R (e 2) (e 5)))) (fun e => k1 (e 2) (e 5) (e 8) (e 10))) = (F7_b4 R k1 (e 2) (e 5) (e 8) (e 10)) := (den_join Pg R 0 (cd Try.f7 [1,1,1,1,0,1,0,1,1,1,0,0]) (cd Try.f7 [1,1,1,1,0,1,0,1,1,1,0,0,1]) e (setN (inB 0 (setN (kont Pg R Try.f7) (fun e => F7_j3 R (e 2) (e 5)))) (fun e => k1 (e 2) (e 5) (e 8) (e 10))) (fun e => F7_j23 R k1 (e 2) (e 5) (e 8) (e 10)) _ (by kernel_rfl) (fun e => F7_j23_ok R k1 e) (by kernel_rfl))
noncomputable def F7_l4 (R : ER) (n : Nat) : V4 := Nat.rec (motive := fun _ => V4) (fun _ _ _ _ => fun _ => False) (fun _ ih => fun x2 x5 x8 x10 => F7_b4 R ih x2 x5 x8 x10) n
theorem F7_l4_succ (R : ER) (n : Nat) (x2 x5 x8 x10 : Value) : F7_l4 R (n + 1) x2 x5 x8 x10 = F7_b4 R (F7_l4 R n) x2 x5 x8 x10 := rfl
theorem F7_l4_ok (R : ER) : ∀ (n : Nat) (e : Env), iterL (den Pg R (cd Try.f7 [1,1,1,1,0,1,0,1,1,1,0,0])) n e (inB 0 (setN (kont Pg R Try.f7) (fun e => F7_j3 R (e 2) (e 5)))) = F7_l4 R n (e 2) (e 5) (e 8) (e 10) :=
  iterL_join (den Pg R (cd Try.f7 [1,1,1,1,0,1,0,1,1,1,0,0])) (inB 0 (setN (kont Pg R Try.f7) (fun e => F7_j3 R (e 2) (e 5)))) (fun n e => F7_l4 R n (e 2) (e 5) (e 8) (e 10)) (fun _ => rfl) (fun n e => (F7_b4_ok R (F7_l4 R n) e).trans (F7_l4_succ R n (e 2) (e 5) (e 8) (e 10)).symm)
def F7_j22 (R : ER) (x2 x5 x8 x10 : Value) : WP :=
  exN fun n => F7_l4 R n x2 x5 x8 x10
theorem F7_j22_ok (R : ER) (e : Env) : den Pg R (cd Try.f7 [1,1,1,1,0,1,0,1,1,1]) e (setN (kont Pg R Try.f7) (fun e => F7_j3 R (e 2) (e 5))) = (F7_j22 R (e 2) (e 5) (e 8) (e 10)) := (den_block Pg R (cd Try.f7 [1,1,1,1,0,1,0,1,1,1]) 0 (cd Try.f7 [1,1,1,1,0,1,0,1,1,1,0]) e (setN (kont Pg R Try.f7) (fun e => F7_j3 R (e 2) (e 5))) _ (by kernel_rfl) (den_loop Pg R (cd Try.f7 [1,1,1,1,0,1,0,1,1,1,0]) (cd Try.f7 [1,1,1,1,0,1,0,1,1,1,0,0]) e (inB 0 (setN (kont Pg R Try.f7) (fun e => F7_j3 R (e 2) (e 5)))) (fun n e => F7_l4 R n (e 2) (e 5) (e 8) (e 10)) _ (by kernel_rfl) (F7_l4_ok R) (by kernel_rfl)))
def F7_j21 (R : ER) (x2 x5 x8 : Value) : WP :=
  F7_j22 R x2 x5 x8 (.int .i64 0)
theorem F7_j21_ok (R : ER) (e : Env) : den Pg R (cd Try.f7 [1,1,1,1,0,1,0,1,1]) e (setN (kont Pg R Try.f7) (fun e => F7_j3 R (e 2) (e 5))) = (F7_j21 R (e 2) (e 5) (e 8)) := (den_join Pg R 0 (cd Try.f7 [1,1,1,1,0,1,0,1,1]) (cd Try.f7 [1,1,1,1,0,1,0,1,1,1]) e (setN (kont Pg R Try.f7) (fun e => F7_j3 R (e 2) (e 5))) (fun e => F7_j22 R (e 2) (e 5) (e 8) (e 10)) _ (by kernel_rfl) (fun e => F7_j22_ok R e) (by kernel_rfl))
def F7_j20 (R : ER) (x2 x5 x7 : Value) : WP :=
  ldN 2 x7 fun v120 =>
  cal Pg R 13 ⟨[v120]⟩ fun v121 =>
  pv (extO 0 v121) fun v122 =>
  pv (extO 1 v121) fun v123 =>
  pv (bin .neq v123 (.int .i64 0)) fun v124 =>
  gd v124 false (pv (some v122)) fun v125 =>
  gd v124 false (pv (lenS v125)) fun v126 =>
  gd v124 false (pv (some x5)) fun v127 =>
  gd v124 false (pv (lenS v127)) fun v128 =>
  gd v124 false (pv (bin .neq v126 v128)) fun v129 =>
  pv (pickO v124 (.bool true) v129) fun v130 =>
  cnd v130 (
   R (.returned (.bool false))) (
   F7_j21 R x2 x5 v122)
theorem F7_j20_ok (R : ER) (e : Env) : den Pg R (cd Try.f7 [1,1,1,1,0,1,0]) e (setN (kont Pg R Try.f7) (fun e => F7_j3 R (e 2) (e 5))) = (F7_j20 R (e 2) (e 5) (e 7)) := (den_join Pg R 1 (cd Try.f7 [1,1,1,1,0,1,0]) (cd Try.f7 [1,1,1,1,0,1,0,1,1]) e (setN (kont Pg R Try.f7) (fun e => F7_j3 R (e 2) (e 5))) (fun e => F7_j21 R (e 2) (e 5) (e 8)) _ (by kernel_rfl) (fun e => F7_j21_ok R e) (by kernel_rfl))
def F7_j19 (R : ER) (x2 x5 x7 x47 : Value) : WP :=
  cnd x47 (F7_j20 R x2 x5 x7) (F7_j3 R x2 x5)
theorem F7_j19_ok (R : ER) (e : Env) : den Pg R (cd Try.f7 [1,1,1,1,0,1]) e (setN (kont Pg R Try.f7) (fun e => F7_j3 R (e 2) (e 5))) = (F7_j19 R (e 2) (e 5) (e 7) (e 47)) := (den_if Pg R (cd Try.f7 [1,1,1,1,0,1]) (cd Try.f7 [1,1,1,1,0,1,0]) (cd Try.f7 [1,1,1,1,0,1,1]) e (setN (kont Pg R Try.f7) (fun e => F7_j3 R (e 2) (e 5))) (F7_j20 R (e 2) (e 5) (e 7)) _ _ (by kernel_rfl) (F7_j20_ok R e) rfl (by kernel_rfl))
def F7_j18 (R : ER) (x2 x5 x7 : Value) : WP :=
  ldN 2 x7 fun v131 =>
  cal Pg R 16 ⟨[v131]⟩ fun v132 =>
  pv (bin .eql v132 (.int .i64 0)) fun v133 =>
  F7_j19 R x2 x5 x7 v133
theorem F7_j18_ok (R : ER) (e : Env) : den Pg R (cd Try.f7 [1,1,1,1,0]) e (setN (kont Pg R Try.f7) (fun e => F7_j3 R (e 2) (e 5))) = (F7_j18 R (e 2) (e 5) (e 7)) := (den_join Pg R 0 (cd Try.f7 [1,1,1,1,0]) (cd Try.f7 [1,1,1,1,0,1]) e (setN (kont Pg R Try.f7) (fun e => F7_j3 R (e 2) (e 5))) (fun e => F7_j19 R (e 2) (e 5) (e 7) (e 47)) _ (by kernel_rfl) (fun e => F7_j19_ok R e) (by kernel_rfl))
def F7_j2 (R : ER) (x2 x5 x7 : Value) : WP :=
  F7_j18 R x2 x5 x7
theorem F7_j2_ok (R : ER) (e : Env) : den Pg R (cd Try.f7 [1,1,1,1]) e (kont Pg R Try.f7) = (F7_j2 R (e 2) (e 5) (e 7)) := (den_join Pg R 0 (cd Try.f7 [1,1,1,1]) (cd Try.f7 [1,1,1,1,1]) e (kont Pg R Try.f7) (fun e => F7_j3 R (e 2) (e 5)) _ (by kernel_rfl) (fun e => F7_j3_ok R e) (den_conv Pg R (pre 0 (cd Try.f7 [1,1,1,1])) (cd Try.f7 [1,1,1,1,0]) e (setN (kont Pg R Try.f7) (fun e => F7_j3 R (e 2) (e 5))) _ (by kernel_rfl) (F7_j18_ok R e)))
def F7_j1 (R : ER) (x2 x3 : Value) : WP :=
  ldN 2 x2 fun v134 =>
  cal Pg R 13 ⟨[v134]⟩ fun v135 =>
  pv (extO 0 v135) fun v136 =>
  pv (extO 1 v135) fun v137 =>
  drewV (
  pv (faO 0 x2) fun v138 =>
  ld1 v138 fun v139 =>
  pv (faO 1 x2) fun v140 =>
  ld1 v140 fun v141 =>
  ldN 2 x3 fun v142 =>
  allW [
  (mem fun w144 => valV Pg noR (Instr.buildSlice 23 0 ⟨[]⟩) fun v143 =>
   rdN 2 x3 v142 <|
   rd1 v140 v141 <|
   rd1 v138 v139 <|
   allW [
   (mem fun w146 => blt Pg noR .append ⟨[23,23]⟩ 23 ⟨[false, false]⟩ ⟨[v143, v141]⟩ fun v145 =>
    rdN 2 x3 v142 <|
    rd1 v138 v139 <|
    allW [
    (mem fun w148 => valV Pg noR (Instr.buildSlice 23 1 ⟨[(0, v142)]⟩) fun v147 =>
     rd1 v140 v141 <|
     rd1 v138 v139 <|
     allW [
     (mem fun w150 => blt Pg noR .append ⟨[23,23]⟩ 23 ⟨[false, false]⟩ ⟨[v145, v147]⟩ fun v149 =>
      rd1 v138 v139 <|
      pv (bldO [.slice none 0 0, .slice none 0 0] [(0,1, v139), (1,1, v149)]) fun v151 =>
      mem fun w153 => al Pg 25 fun v152 =>
      rdN 2 x3 v142 <|
      rd1 v140 v141 <|
      rd1 v138 v139 <|
      mem fun w155 => stN 2 v152 v151 fun v154 =>
      F7_j2 R x2 v136 v152),
     (mem fun w157 => al Pg 25 fun v156 =>
      rdN 2 x3 v142 <|
      rd1 v140 v141 <|
      rd1 v138 v139 <|
      mem fun w159 => blt Pg noR .append ⟨[23,23]⟩ 23 ⟨[false, false]⟩ ⟨[v145, v147]⟩ fun v158 =>
      rd1 v138 v139 <|
      pv (bldO [.slice none 0 0, .slice none 0 0] [(0,1, v139), (1,1, v158)]) fun v160 =>
      mem fun w162 => stN 2 v156 v160 fun v161 =>
      F7_j2 R x2 v136 v156)]),
    (mem fun w164 => al Pg 25 fun v163 =>
     rdN 2 x3 v142 <|
     rd1 v140 v141 <|
     rd1 v138 v139 <|
     mem fun w166 => valV Pg noR (Instr.buildSlice 23 1 ⟨[(0, v142)]⟩) fun v165 =>
     rd1 v140 v141 <|
     rd1 v138 v139 <|
     mem fun w168 => blt Pg noR .append ⟨[23,23]⟩ 23 ⟨[false, false]⟩ ⟨[v145, v165]⟩ fun v167 =>
     rd1 v138 v139 <|
     pv (bldO [.slice none 0 0, .slice none 0 0] [(0,1, v139), (1,1, v167)]) fun v169 =>
     mem fun w171 => stN 2 v163 v169 fun v170 =>
     F7_j2 R x2 v136 v163)]),
   (mem fun w173 => valV Pg noR (Instr.buildSlice 23 1 ⟨[(0, v142)]⟩) fun v172 =>
    rd1 v140 v141 <|
    rd1 v138 v139 <|
    allW [
    (mem fun w175 => blt Pg noR .append ⟨[23,23]⟩ 23 ⟨[false, false]⟩ ⟨[v143, v141]⟩ fun v174 =>
     rdN 2 x3 v142 <|
     rd1 v138 v139 <|
     allW [
     (mem fun w177 => blt Pg noR .append ⟨[23,23]⟩ 23 ⟨[false, false]⟩ ⟨[v174, v172]⟩ fun v176 =>
      rd1 v138 v139 <|
      pv (bldO [.slice none 0 0, .slice none 0 0] [(0,1, v139), (1,1, v176)]) fun v178 =>
      mem fun w180 => al Pg 25 fun v179 =>
      rdN 2 x3 v142 <|
      rd1 v140 v141 <|
      rd1 v138 v139 <|
      mem fun w182 => stN 2 v179 v178 fun v181 =>
      F7_j2 R x2 v136 v179),
     (mem fun w184 => al Pg 25 fun v183 =>
      rdN 2 x3 v142 <|
      rd1 v140 v141 <|
      rd1 v138 v139 <|
      mem fun w186 => blt Pg noR .append ⟨[23,23]⟩ 23 ⟨[false, false]⟩ ⟨[v174, v172]⟩ fun v185 =>
      rd1 v138 v139 <|
      pv (bldO [.slice none 0 0, .slice none 0 0] [(0,1, v139), (1,1, v185)]) fun v187 =>
      mem fun w189 => stN 2 v183 v187 fun v188 =>
      F7_j2 R x2 v136 v183)]),
    (mem fun w191 => al Pg 25 fun v190 =>
     rdN 2 x3 v142 <|
     rd1 v140 v141 <|
     rd1 v138 v139 <|
     mem fun w193 => blt Pg noR .append ⟨[23,23]⟩ 23 ⟨[false, false]⟩ ⟨[v143, v141]⟩ fun v192 =>
     rdN 2 x3 v142 <|
     rd1 v138 v139 <|
     mem fun w195 => blt Pg noR .append ⟨[23,23]⟩ 23 ⟨[false, false]⟩ ⟨[v192, v172]⟩ fun v194 =>
     rd1 v138 v139 <|
     pv (bldO [.slice none 0 0, .slice none 0 0] [(0,1, v139), (1,1, v194)]) fun v196 =>
     mem fun w198 => stN 2 v190 v196 fun v197 =>
     F7_j2 R x2 v136 v190)]),
   (mem fun w200 => al Pg 25 fun v199 =>
    rdN 2 x3 v142 <|
    rd1 v140 v141 <|
    rd1 v138 v139 <|
    allW [
    (mem fun w202 => blt Pg noR .append ⟨[23,23]⟩ 23 ⟨[false, false]⟩ ⟨[v143, v141]⟩ fun v201 =>
     rdN 2 x3 v142 <|
     rd1 v138 v139 <|
     mem fun w204 => valV Pg noR (Instr.buildSlice 23 1 ⟨[(0, v142)]⟩) fun v203 =>
     rd1 v140 v141 <|
     rd1 v138 v139 <|
     mem fun w206 => blt Pg noR .append ⟨[23,23]⟩ 23 ⟨[false, false]⟩ ⟨[v201, v203]⟩ fun v205 =>
     rd1 v138 v139 <|
     pv (bldO [.slice none 0 0, .slice none 0 0] [(0,1, v139), (1,1, v205)]) fun v207 =>
     mem fun w209 => stN 2 v199 v207 fun v208 =>
     F7_j2 R x2 v136 v199),
    (mem fun w211 => valV Pg noR (Instr.buildSlice 23 1 ⟨[(0, v142)]⟩) fun v210 =>
     rd1 v140 v141 <|
     rd1 v138 v139 <|
     mem fun w213 => blt Pg noR .append ⟨[23,23]⟩ 23 ⟨[false, false]⟩ ⟨[v143, v141]⟩ fun v212 =>
     rdN 2 x3 v142 <|
     rd1 v138 v139 <|
     mem fun w215 => blt Pg noR .append ⟨[23,23]⟩ 23 ⟨[false, false]⟩ ⟨[v212, v210]⟩ fun v214 =>
     rd1 v138 v139 <|
     pv (bldO [.slice none 0 0, .slice none 0 0] [(0,1, v139), (1,1, v214)]) fun v216 =>
     mem fun w218 => stN 2 v199 v216 fun v217 =>
     F7_j2 R x2 v136 v199)])]),
  (mem fun w220 => valV Pg noR (Instr.buildSlice 23 1 ⟨[(0, v142)]⟩) fun v219 =>
   rd1 v140 v141 <|
   rd1 v138 v139 <|
   allW [
   (mem fun w222 => valV Pg noR (Instr.buildSlice 23 0 ⟨[]⟩) fun v221 =>
    rdN 2 x3 v142 <|
    rd1 v140 v141 <|
    rd1 v138 v139 <|
    allW [
    (mem fun w224 => blt Pg noR .append ⟨[23,23]⟩ 23 ⟨[false, false]⟩ ⟨[v221, v141]⟩ fun v223 =>
     rdN 2 x3 v142 <|
     rd1 v138 v139 <|
     allW [
     (mem fun w226 => blt Pg noR .append ⟨[23,23]⟩ 23 ⟨[false, false]⟩ ⟨[v223, v219]⟩ fun v225 =>
      rd1 v138 v139 <|
      pv (bldO [.slice none 0 0, .slice none 0 0] [(0,1, v139), (1,1, v225)]) fun v227 =>
      mem fun w229 => al Pg 25 fun v228 =>
      rdN 2 x3 v142 <|
      rd1 v140 v141 <|
      rd1 v138 v139 <|
      mem fun w231 => stN 2 v228 v227 fun v230 =>
      F7_j2 R x2 v136 v228),
     (mem fun w233 => al Pg 25 fun v232 =>
      rdN 2 x3 v142 <|
      rd1 v140 v141 <|
      rd1 v138 v139 <|
      mem fun w235 => blt Pg noR .append ⟨[23,23]⟩ 23 ⟨[false, false]⟩ ⟨[v223, v219]⟩ fun v234 =>
      rd1 v138 v139 <|
      pv (bldO [.slice none 0 0, .slice none 0 0] [(0,1, v139), (1,1, v234)]) fun v236 =>
      mem fun w238 => stN 2 v232 v236 fun v237 =>
      F7_j2 R x2 v136 v232)]),
    (mem fun w240 => al Pg 25 fun v239 =>
     rdN 2 x3 v142 <|
     rd1 v140 v141 <|
     rd1 v138 v139 <|
     mem fun w242 => blt Pg noR .append ⟨[23,23]⟩ 23 ⟨[false, false]⟩ ⟨[v221, v141]⟩ fun v241 =>
     rdN 2 x3 v142 <|
     rd1 v138 v139 <|
     mem fun w244 => blt Pg noR .append ⟨[23,23]⟩ 23 ⟨[false, false]⟩ ⟨[v241, v219]⟩ fun v243 =>
     rd1 v138 v139 <|
     pv (bldO [.slice none 0 0, .slice none 0 0] [(0,1, v139), (1,1, v243)]) fun v245 =>
     mem fun w247 => stN 2 v239 v245 fun v246 =>
     F7_j2 R x2 v136 v239)]),
   (mem fun w249 => al Pg 25 fun v248 =>
    rdN 2 x3 v142 <|
    rd1 v140 v141 <|
    rd1 v138 v139 <|
    mem fun w251 => valV Pg noR (Instr.buildSlice 23 0 ⟨[]⟩) fun v250 =>
    rdN 2 x3 v142 <|
    rd1 v140 v141 <|
    rd1 v138 v139 <|
    mem fun w253 => blt Pg noR .append ⟨[23,23]⟩ 23 ⟨[false, false]⟩ ⟨[v250, v141]⟩ fun v252 =>
    rdN 2 x3 v142 <|
    rd1 v138 v139 <|
    mem fun w255 => blt Pg noR .append ⟨[23,23]⟩ 23 ⟨[false, false]⟩ ⟨[v252, v219]⟩ fun v254 =>
    rd1 v138 v139 <|
    pv (bldO [.slice none 0 0, .slice none 0 0] [(0,1, v139), (1,1, v254)]) fun v256 =>
    mem fun w258 => stN 2 v248 v256 fun v257 =>
    F7_j2 R x2 v136 v248)]),
  (mem fun w260 => al Pg 25 fun v259 =>
   rdN 2 x3 v142 <|
   rd1 v140 v141 <|
   rd1 v138 v139 <|
   allW [
   (mem fun w262 => valV Pg noR (Instr.buildSlice 23 0 ⟨[]⟩) fun v261 =>
    rdN 2 x3 v142 <|
    rd1 v140 v141 <|
    rd1 v138 v139 <|
    allW [
    (mem fun w264 => blt Pg noR .append ⟨[23,23]⟩ 23 ⟨[false, false]⟩ ⟨[v261, v141]⟩ fun v263 =>
     rdN 2 x3 v142 <|
     rd1 v138 v139 <|
     mem fun w266 => valV Pg noR (Instr.buildSlice 23 1 ⟨[(0, v142)]⟩) fun v265 =>
     rd1 v140 v141 <|
     rd1 v138 v139 <|
     mem fun w268 => blt Pg noR .append ⟨[23,23]⟩ 23 ⟨[false, false]⟩ ⟨[v263, v265]⟩ fun v267 =>
     rd1 v138 v139 <|
     pv (bldO [.slice none 0 0, .slice none 0 0] [(0,1, v139), (1,1, v267)]) fun v269 =>
     mem fun w271 => stN 2 v259 v269 fun v270 =>
     F7_j2 R x2 v136 v259),
    (mem fun w273 => valV Pg noR (Instr.buildSlice 23 1 ⟨[(0, v142)]⟩) fun v272 =>
     rd1 v140 v141 <|
     rd1 v138 v139 <|
     mem fun w275 => blt Pg noR .append ⟨[23,23]⟩ 23 ⟨[false, false]⟩ ⟨[v261, v141]⟩ fun v274 =>
     rdN 2 x3 v142 <|
     rd1 v138 v139 <|
     mem fun w277 => blt Pg noR .append ⟨[23,23]⟩ 23 ⟨[false, false]⟩ ⟨[v274, v272]⟩ fun v276 =>
     rd1 v138 v139 <|
     pv (bldO [.slice none 0 0, .slice none 0 0] [(0,1, v139), (1,1, v276)]) fun v278 =>
     mem fun w280 => stN 2 v259 v278 fun v279 =>
     F7_j2 R x2 v136 v259)]),
   (mem fun w282 => valV Pg noR (Instr.buildSlice 23 1 ⟨[(0, v142)]⟩) fun v281 =>
    rd1 v140 v141 <|
    rd1 v138 v139 <|
    mem fun w284 => valV Pg noR (Instr.buildSlice 23 0 ⟨[]⟩) fun v283 =>
    rdN 2 x3 v142 <|
    rd1 v140 v141 <|
    rd1 v138 v139 <|
    mem fun w286 => blt Pg noR .append ⟨[23,23]⟩ 23 ⟨[false, false]⟩ ⟨[v283, v141]⟩ fun v285 =>
    rdN 2 x3 v142 <|
    rd1 v138 v139 <|
    mem fun w288 => blt Pg noR .append ⟨[23,23]⟩ 23 ⟨[false, false]⟩ ⟨[v285, v281]⟩ fun v287 =>
    rd1 v138 v139 <|
    pv (bldO [.slice none 0 0, .slice none 0 0] [(0,1, v139), (1,1, v287)]) fun v289 =>
    mem fun w291 => stN 2 v259 v289 fun v290 =>
    F7_j2 R x2 v136 v259)])])
theorem F7_j1_ok (R : ER) (e : Env) : den Pg R (cd Try.f7 [1,1]) e (kont Pg R Try.f7) = (F7_j1 R (e 2) (e 3)) := (den_join Pg R 1 (cd Try.f7 [1,1]) (cd Try.f7 [1,1,1,1]) e (kont Pg R Try.f7) (fun e => F7_j2 R (e 2) (e 5) (e 7)) _ (by kernel_rfl) (fun e => F7_j2_ok R e) (by kernel_rfl))
def F7_j24 (R : ER) (x2 x3 : Value) : WP :=
  pv (faO 0 x2) fun v292 =>
  ld1 v292 fun v293 =>
  pv (faO 1 x2) fun v294 =>
  ld1 v294 fun v295 =>
  cal Pg R 11 ⟨[v293, v295]⟩ fun v296 =>
  pv (unO .not v296) fun v297 =>
  gd v297 false (ldN 2 x2) fun v298 =>
  gd v297 false (cal Pg R 16 ⟨[v298]⟩) fun v299 =>
  gd v297 false (pv (bin .neq v299 (.int .i64 0))) fun v300 =>
  pv (pickO v297 (.bool true) v300) fun v301 =>
  cnd v301 (
   cal Pg R 12 ⟨[]⟩ fun v302 =>
   R (.returned v302)) (
   F7_j1 R x2 x3)
theorem F7_j24_ok (R : ER) (e : Env) : den Pg R (cd Try.f7 [1,0]) e (setN (kont Pg R Try.f7) (fun e => F7_j1 R (e 2) (e 3))) = (F7_j24 R (e 2) (e 3)) := (by kernel_rfl)
def F7 (R : ER) (x0 x1 : Value) : WP :=
  bx 25 x0 fun v303 =>
  bx 39 x1 fun v304 =>
  F7_j24 R v303 v304
theorem F7_den (R : ER) (x0 x1 : Value) : den Pg R (cd Try.f7 []) (argsEnv [x0, x1]) (kont Pg R Try.f7) = F7 R x0 x1 :=
  have h : ∀ e, den Pg R (cd Try.f7 []) e (kont Pg R Try.f7) = F7 R (e 0) (e 1) := fun e => (den_join Pg R 1 (cd Try.f7 []) (cd Try.f7 [1,1]) e (kont Pg R Try.f7) (fun e => F7_j1 R (e 2) (e 3)) _ (by kernel_rfl) (fun e => F7_j1_ok R e) (den_join Pg R 0 (pre 1 (cd Try.f7 [])) (cd Try.f7 [1,0]) e (setN (kont Pg R Try.f7) (fun e => F7_j1 R (e 2) (e 3))) (fun e => F7_j24 R (e 2) (e 3)) _ (by kernel_rfl) (fun e => F7_j24_ok R e) (by kernel_rfl)))
  h _
theorem F7_calls {R : ER} {x0 x1 : Value} {w : World} (h : F7 R x0 x1 w) : Calls Pg 7 ⟨[x0, x1]⟩ w R :=
  calls_of_den Try.func7 (by kernel_rfl) (by kernel_rfl) (F7_den R x0 x1) h
/-! ### 8: orpimentlaw05_InheritNil -/
def F8 (R : ER) (x0 : Value) : WP :=
  bx 46 x0 fun v1 =>
  cal Pg R 23 ⟨[(.pointer none)]⟩ fun v2 =>
  al Pg 25 fun v3 =>
  stN 2 v3 v2 fun _ =>
  ldN 4 v1 fun v4 =>
  cal Pg R 24 ⟨[(.pointer none), (.pointer none), v4]⟩ fun v5 =>
  gd v5 true (pv (faO 0 v3)) fun v6 =>
  gd v5 true (ld1 v6) fun v7 =>
  gd v5 true (pv (lenS v7)) fun v8 =>
  gd v5 true (pv (bin .eql v8 (.int .i64 0))) fun v9 =>
  pv (pickO v5 v9 (.bool false)) fun v10 =>
  gd v10 true (pv (faO 1 v3)) fun v11 =>
  gd v10 true (ld1 v11) fun v12 =>
  gd v10 true (pv (lenS v12)) fun v13 =>
  gd v10 true (pv (bin .eql v13 (.int .i64 0))) fun v14 =>
  pv (pickO v10 v14 (.bool false)) fun v15 =>
  gd v15 true (cal Pg R 12 ⟨[]⟩) fun v16 =>
  pv (pickO v15 v16 (.bool false)) fun v17 =>
  R (.returned v17)
theorem F8_den (R : ER) (x0 : Value) : den Pg R (cd Try.f8 []) (argsEnv [x0]) (kont Pg R Try.f8) = F8 R x0 :=
  have h : ∀ e, den Pg R (cd Try.f8 []) e (kont Pg R Try.f8) = F8 R (e 0) := fun e => by kernel_rfl
  h _
theorem F8_calls {R : ER} {x0 : Value} {w : World} (h : F8 R x0 w) : Calls Pg 8 ⟨[x0]⟩ w R :=
  calls_of_den Try.func8 (by kernel_rfl) (by kernel_rfl) (F8_den R x0) h
/-! ### 9: orpimentlaw05_InheritTracks -/
def F9_j3 (R : ER) : WP :=
  cal Pg R 12 ⟨[]⟩ fun v1 =>
  R (.returned v1)
theorem F9_j3_ok (R : ER) (e : Env) : den Pg R (cd Try.f9 [1,1,1,1,1,1]) e (kont Pg R Try.f9) = (F9_j3 R) := by kernel_rfl
def F9_j7 (R : ER) (k1 : V4) (x1 x5 x7 x9 : Value) : WP :=
  pv (bin .add x9 (.int .i64 1)) fun v2 =>
  k1 x1 x5 x7 v2
theorem F9_j7_ok (R : ER) (k1 : V4) (e : Env) : den Pg R (cd Try.f9 [1,1,1,1,1,0,1,0,0,1,1]) e (setN (inB 0 (setN (kont Pg R Try.f9) (fun e => F9_j3 R))) (fun e => k1 (e 1) (e 5) (e 7) (e 9))) = (F9_j7 R k1 (e 1) (e 5) (e 7) (e 9)) := by kernel_rfl
def F9_j13 (R : ER) (k1 : V4) (k2 : V7) (x1 x5 x7 x9 x10 x11 x12 : Value) : WP :=
  drewV (
  pv (faO 1 x10) fun v3 =>
  ld1 v3 fun v4 =>
  pv (ixS 2 v4 x12) fun v5 =>
  ldN 2 v5 fun v6 =>
  pv (faO 1 x11) fun v7 =>
  ld1 v7 fun v8 =>
  pv (ixS 2 v8 x12) fun v9 =>
  ldN 2 v9 fun v10 =>
  pv (neAgg [0,0] v6 v10) fun v11 =>
  cnd v11 (
   R (.returned (.bool false))) (
   pv (bin .add x12 (.int .i64 1)) fun v12 =>
  k2 x1 x5 x7 x9 x10 x11 v12))
theorem F9_j13_ok (R : ER) (k1 : V4) (k2 : V7) (e : Env) : den Pg R (cd Try.f9 [1,1,1,1,1,0,1,0,0,1,0,0,1,1,1,1,1,0,0,1]) e (setN (inB 2 (inB 1 (setN (setN (inB 0 (setN (kont Pg R Try.f9) (fun e => F9_j3 R))) (fun e => k1 (e 1) (e 5) (e 7) (e 9))) (fun e => F9_j7 R k1 (e 1) (e 5) (e 7) (e 9))))) (fun e => k2 (e 1) (e 5) (e 7) (e 9) (e 10) (e 11) (e 12))) = (F9_j13 R k1 k2 (e 1) (e 5) (e 7) (e 9) (e 10) (e 11) (e 12)) := (by kernel_rfl)
def F9_b2 (R : ER) (k1 : V4) (k2 : V7) (x1 x5 x7 x9 x10 x11 x12 : Value) : WP :=
  pv (faO 1 x10) fun v13 =>
  ld1 v13 fun v14 =>
  pv (lenS v14) fun v15 =>
  pv (bin .lss x12 v15) fun v16 =>
  cnd v16 (
   F9_j13 R k1 k2 x1 x5 x7 x9 x10 x11 x12) (
   F9_j7 R k1 x1 x5 x7 x9)
theorem F9_b2_ok (R : ER) (k1 : V4) (k2 : V7) (e : Env) : den Pg R (cd Try.f9 [1,1,1,1,1,0,1,0,0,1,0,0,1,1,1,1,1,0,0]) e (setN (inB 2 (inB 1 (setN (setN (inB 0 (setN (kont Pg R Try.f9) (fun e => F9_j3 R))) (fun e => k1 (e 1) (e 5) (e 7) (e 9))) (fun e => F9_j7 R k1 (e 1) (e 5) (e 7) (e 9))))) (fun e => k2 (e 1) (e 5) (e 7) (e 9) (e 10) (e 11) (e 12))) = (F9_b2 R k1 k2 (e 1) (e 5) (e 7) (e 9) (e 10) (e 11) (e 12)) := (den_join Pg R 0 (cd Try.f9 [1,1,1,1,1,0,1,0,0,1,0,0,1,1,1,1,1,0,0]) (cd Try.f9 [1,1,1,1,1,0,1,0,0,1,0,0,1,1,1,1,1,0,0,1]) e (setN (inB 2 (inB 1 (setN (setN (inB 0 (setN (kont Pg R Try.f9) (fun e => F9_j3 R))) (fun e => k1 (e 1) (e 5) (e 7) (e 9))) (fun e => F9_j7 R k1 (e 1) (e 5) (e 7) (e 9))))) (fun e => k2 (e 1) (e 5) (e 7) (e 9) (e 10) (e 11) (e 12))) (fun e => F9_j13 R k1 k2 (e 1) (e 5) (e 7) (e 9) (e 10) (e 11) (e 12)) _ (by kernel_rfl) (fun e => F9_j13_ok R k1 k2 e) (by kernel_rfl))
noncomputable def F9_l1 (R : ER) (k1 : V4) (n : Nat) : V7 := Nat.rec (motive := fun _ => V7) (fun _ _ _ _ _ _ _ => fun _ => False) (fun _ ih => fun x1 x5 x7 x9 x10 x11 x12 => F9_b2 R k1 ih x1 x5 x7 x9 x10 x11 x12) n
theorem F9_l1_succ (R : ER) (k1 : V4) (n : Nat) (x1 x5 x7 x9 x10 x11 x12 : Value) : F9_l1 R k1 (n + 1) x1 x5 x7 x9 x10 x11 x12 = F9_b2 R k1 (F9_l1 R k1 n) x1 x5 x7 x9 x10 x11 x12 := rfl
theorem F9_l1_ok (R : ER) (k1 : V4) : ∀ (n : Nat) (e : Env), iterL (den Pg R (cd Try.f9 [1,1,1,1,1,0,1,0,0,1,0,0,1,1,1,1,1,0,0])) n e (inB 2 (inB 1 (setN (setN (inB 0 (setN (kont Pg R Try.f9) (fun e => F9_j3 R))) (fun e => k1 (e 1) (e 5) (e 7) (e 9))) (fun e => F9_j7 R k1 (e 1) (e 5) (e 7) (e 9))))) = F9_l1 R k1 n (e 1) (e 5) (e 7) (e 9) (e 10) (e 11) (e 12) :=
  iterL_join (den Pg R (cd Try.f9 [1,1,1,1,1,0,1,0,0,1,0,0,1,1,1,1,1,0,0])) (inB 2 (inB 1 (setN (setN (inB 0 (setN (kont Pg R Try.f9) (fun e => F9_j3 R))) (fun e => k1 (e 1) (e 5) (e 7) (e 9))) (fun e => F9_j7 R k1 (e 1) (e 5) (e 7) (e 9))))) (fun n e => F9_l1 R k1 n (e 1) (e 5) (e 7) (e 9) (e 10) (e 11) (e 12)) (fun _ => rfl) (fun n e => (F9_b2_ok R k1 (F9_l1 R k1 n) e).trans (F9_l1_succ R k1 n (e 1) (e 5) (e 7) (e 9) (e 10) (e 11) (e 12)).symm)
def F9_j12 (R : ER) (k1 : V4) (x1 x5 x7 x9 x10 x11 x12 : Value) : WP :=
  exN fun n => F9_l1 R k1 n x1 x5 x7 x9 x10 x11 x12
theorem F9_j12_ok (R : ER) (k1 : V4) (e : Env) : den Pg R (cd Try.f9 [1,1,1,1,1,0,1,0,0,1,0,0,1,1,1,1,1]) e (inB 1 (setN (setN (inB 0 (setN (kont Pg R Try.f9) (fun e => F9_j3 R))) (fun e => k1 (e 1) (e 5) (e 7) (e 9))) (fun e => F9_j7 R k1 (e 1) (e 5) (e 7) (e 9)))) = (F9_j12 R k1 (e 1) (e 5) (e 7) (e 9) (e 10) (e 11) (e 12)) := (den_block Pg R (cd Try.f9 [1,1,1,1,1,0,1,0,0,1,0,0,1,1,1,1,1]) 2 (cd Try.f9 [1,1,1,1,1,0,1,0,0,1,0,0,1,1,1,1,1,0]) e (inB 1 (setN (setN (inB 0 (setN (kont Pg R Try.f9) (fun e => F9_j3 R))) (fun e => k1 (e 1) (e 5) (e 7) (e 9))) (fun e => F9_j7 R k1 (e 1) (e 5) (e 7) (e 9)))) _ (by kernel_rfl) (den_loop Pg R (cd Try.f9 [1,1,1,1,1,0,1,0,0,1,0,0,1,1,1,1,1,0]) (cd Try.f9 [1,1,1,1,1,0,1,0,0,1,0,0,1,1,1,1,1,0,0]) e (inB 2 (inB 1 (setN (setN (inB 0 (setN (kont Pg R Try.f9) (fun e => F9_j3 R))) (fun e => k1 (e 1) (e 5) (e 7) (e 9))) (fun e => F9_j7 R k1 (e 1) (e 5) (e 7) (e 9))))) (fun n e => F9_l1 R k1 n (e 1) (e 5) (e 7) (e 9) (e 10) (e 11) (e 12)) _ (by kernel_rfl) (F9_l1_ok R k1) (by kernel_rfl)))
def F9_j11 (R : ER) (k1 : V4) (x1 x5 x7 x9 x10 x11 : Value) : WP :=
  F9_j12 R k1 x1 x5 x7 x9 x10 x11 (.int .i64 0)
theorem F9_j11_ok (R : ER) (k1 : V4) (e : Env) : den Pg R (cd Try.f9 [1,1,1,1,1,0,1,0,0,1,0,0,1,1,1,1]) e (inB 1 (setN (setN (inB 0 (setN (kont Pg R Try.f9) (fun e => F9_j3 R))) (fun e => k1 (e 1) (e 5) (e 7) (e 9))) (fun e => F9_j7 R k1 (e 1) (e 5) (e 7) (e 9)))) = (F9_j11 R k1 (e 1) (e 5) (e 7) (e 9) (e 10) (e 11)) := (den_join Pg R 0 (cd Try.f9 [1,1,1,1,1,0,1,0,0,1,0,0,1,1,1,1]) (cd Try.f9 [1,1,1,1,1,0,1,0,0,1,0,0,1,1,1,1,1]) e (inB 1 (setN (setN (inB 0 (setN (kont Pg R Try.f9) (fun e => F9_j3 R))) (fun e => k1 (e 1) (e 5) (e 7) (e 9))) (fun e => F9_j7 R k1 (e 1) (e 5) (e 7) (e 9)))) (fun e => F9_j12 R k1 (e 1) (e 5) (e 7) (e 9) (e 10) (e 11) (e 12)) _ (by kernel_rfl) (fun e => F9_j12_ok R k1 e) (by kernel_rfl))
def F9_j14 (R : ER) (k1 : V4) (x1 x5 x7 x9 x10 x11 : Value) : WP :=
  pv (faO 0 x10) fun v17 =>
  ld1 v17 fun v18 =>
  pv (faO 0 x11) fun v19 =>
  ld1 v19 fun v20 =>
  cal Pg R 18 ⟨[v18, v20]⟩ fun v21 =>
  pv (unO .not v21) fun v22 =>
  gd v22 false (pv (faO 1 x10)) fun v23 =>
  gd v22 false (ld1 v23) fun v24 =>
  gd v22 false (pv (lenS v24)) fun v25 =>
  gd v22 false (pv (faO 1 x11)) fun v26 =>
  gd v22 false (ld1 v26) fun v27 =>
  gd v22 false (pv (lenS v27)) fun v28 =>
  gd v22 false (pv (bin .neq v25 v28)) fun v29 =>
  pv (pickO v22 (.bool true) v29) fun v30 =>
  cnd v30 (
   R (.returned (.bool false))) (
   F9_j11 R k1 x1 x5 x7 x9 x10 x11)
theorem F9_j14_ok (R : ER) (k1 : V4) (e : Env) : den Pg R (cd Try.f9 [1,1,1,1,1,0,1,0,0,1,0,0,1,1,1,0]) e (setN (inB 1 (setN (setN (inB 0 (setN (kont Pg R Try.f9) (fun e => F9_j3 R))) (fun e => k1 (e 1) (e 5) (e 7) (e 9))) (fun e => F9_j7 R k1 (e 1) (e 5) (e 7) (e 9)))) (fun e => F9_j11 R k1 (e 1) (e 5) (e 7) (e 9) (e 10) (e 11))) = (F9_j14 R k1 (e 1) (e 5) (e 7) (e 9) (e 10) (e 11)) := (by kernel_rfl)
def F9_j10 (R : ER) (k1 : V4) (x1 x5 x7 x9 : Value) : WP :=
  cal Pg R 23 ⟨[x5]⟩ fun v31 =>
  cal Pg R 27 ⟨[x7]⟩ fun v32 =>
  al Pg 25 fun v33 =>
  al Pg 32 fun v34 =>
  stN 2 v33 v31 fun _ =>
  stN 2 v34 v32 fun _ =>
  F9_j14 R k1 x1 x5 x7 x9 v33 v34
theorem F9_j10_ok (R : ER) (k1 : V4) (e : Env) : den Pg R (cd Try.f9 [1,1,1,1,1,0,1,0,0,1,0,0,1,1]) e (inB 1 (setN (setN (inB 0 (setN (kont Pg R Try.f9) (fun e => F9_j3 R))) (fun e => k1 (e 1) (e 5) (e 7) (e 9))) (fun e => F9_j7 R k1 (e 1) (e 5) (e 7) (e 9)))) = (F9_j10 R k1 (e 1) (e 5) (e 7) (e 9)) := (den_join Pg R 1 (cd Try.f9 [1,1,1,1,1,0,1,0,0,1,0,0,1,1]) (cd Try.f9 [1,1,1,1,1,0,1,0,0,1,0,0,1,1,1,1]) e (inB 1 (setN (setN (inB 0 (setN (kont Pg R Try.f9) (fun e => F9_j3 R))) (fun e => k1 (e 1) (e 5) (e 7) (e 9))) (fun e => F9_j7 R k1 (e 1) (e 5) (e 7) (e 9)))) (fun e => F9_j11 R k1 (e 1) (e 5) (e 7) (e 9) (e 10) (e 11)) _ (by kernel_rfl) (fun e => F9_j11_ok R k1 e) (den_join Pg R 0 (pre 1 (cd Try.f9 [1,1,1,1,1,0,1,0,0,1,0,0,1,1])) (cd Try.f9 [1,1,1,1,1,0,1,0,0,1,0,0,1,1,1,0]) e (setN (inB 1 (setN (setN (inB 0 (setN (kont Pg R Try.f9) (fun e => F9_j3 R))) (fun e => k1 (e 1) (e 5) (e 7) (e 9))) (fun e => F9_j7 R k1 (e 1) (e 5) (e 7) (e 9)))) (fun e => F9_j11 R k1 (e 1) (e 5) (e 7) (e 9) (e 10) (e 11))) (fun e => F9_j14 R k1 (e 1) (e 5) (e 7) (e 9) (e 10) (e 11)) _ (by kernel_rfl) (fun e => F9_j14_ok R k1 e) (by kernel_rfl)))
def F9_j9 (R : ER) (k1 : V4) (x1 x5 x7 x9 : Value) : WP :=
  pv (ixS 4 x1 x9) fun v35 =>
  ldN 4 v35 fun v36 =>
  cal Pg R 24 ⟨[x5, x7, v36]⟩ fun v37 =>
  pv (unO .not v37) fun v38 =>
  cnd v38 (
   R (.returned (.bool false))) (
   F9_j10 R k1 x1 x5 x7 x9)
theorem F9_j9_ok (R : ER) (k1 : V4) (e : Env) : den Pg R (cd Try.f9 [1,1,1,1,1,0,1,0,0,1,0,0,1]) e (inB 1 (setN (setN (inB 0 (setN (kont Pg R Try.f9) (fun e => F9_j3 R))) (fun e => k1 (e 1) (e 5) (e 7) (e 9))) (fun e => F9_j7 R k1 (e 1) (e 5) (e 7) (e 9)))) = (F9_j9 R k1 (e 1) (e 5) (e 7) (e 9)) := (den_join Pg R 0 (cd Try.f9 [1,1,1,1,1,0,1,0,0,1,0,0,1]) (cd Try.f9 [1,1,1,1,1,0,1,0,0,1,0,0,1,1]) e (inB 1 (setN (setN (inB 0 (setN (kont Pg R Try.f9) (fun e => F9_j3 R))) (fun e => k1 (e 1) (e 5) (e 7) (e 9))) (fun e => F9_j7 R k1 (e 1) (e 5) (e 7) (e 9)))) (fun e => F9_j10 R k1 (e 1) (e 5) (e 7) (e 9)) _ (by kernel_rfl) (fun e => F9_j10_ok R k1 e) (by kernel_rfl))
def F9_j8 (R : ER) (k1 : V4) (x1 x5 x7 x9 : Value) : WP :=
  pv (ixS 4 x1 x9) fun v39 =>
  pv (faO 3 v39) fun v40 =>
  ld1 v40 fun v41 =>
  pv (lenS v41) fun v42 =>
  pv (bin .gtr v42 (.int .i64 60)) fun v43 =>
  cnd v43 (
   cal Pg R 12 ⟨[]⟩ fun v44 =>
   R (.returned v44)) (
   F9_j9 R k1 x1 x5 x7 x9)
theorem F9_j8_ok (R : ER) (k1 : V4) (e : Env) : den Pg R (cd Try.f9 [1,1,1,1,1,0,1,0,0,1,0]) e (setN (setN (inB 0 (setN (kont Pg R Try.f9) (fun e => F9_j3 R))) (fun e => k1 (e 1) (e 5) (e 7) (e 9))) (fun e => F9_j7 R k1 (e 1) (e 5) (e 7) (e 9))) = (F9_j8 R k1 (e 1) (e 5) (e 7) (e 9)) := (den_block Pg R (cd Try.f9 [1,1,1,1,1,0,1,0,0,1,0]) 1 (cd Try.f9 [1,1,1,1,1,0,1,0,0,1,0,0]) e (setN (setN (inB 0 (setN (kont Pg R Try.f9) (fun e => F9_j3 R))) (fun e => k1 (e 1) (e 5) (e 7) (e 9))) (fun e => F9_j7 R k1 (e 1) (e 5) (e 7) (e 9))) _ (by kernel_rfl) (den_join Pg R 0 (cd Try.f9 [1,1,1,1,1,0,1,0,0,1,0,0]) (cd Try.f9 [1,1,1,1,1,0,1,0,0,1,0,0,1]) e (inB 1 (setN (setN (inB 0 (setN (kont Pg R Try.f9) (fun e => F9_j3 R))) (fun e => k1 (e 1) (e 5) (e 7) (e 9))) (fun e => F9_j7 R k1 (e 1) (e 5) (e 7) (e 9)))) (fun e => F9_j9 R k1 (e 1) (e 5) (e 7) (e 9)) _ (by kernel_rfl) (fun e => F9_j9_ok R k1 e) (by kernel_rfl)))
def F9_j6 (R : ER) (k1 : V4) (x1 x5 x7 x9 : Value) : WP :=
  F9_j8 R k1 x1 x5 x7 x9
theorem F9_j6_ok (R : ER) (k1 : V4) (e : Env) : den Pg R (cd Try.f9 [1,1,1,1,1,0,1,0,0,1]) e (setN (inB 0 (setN (kont Pg R Try.f9) (fun e => F9_j3 R))) (fun e => k1 (e 1) (e 5) (e 7) (e 9))) = (F9_j6 R k1 (e 1) (e 5) (e 7) (e 9)) := (den_join Pg R 0 (cd Try.f9 [1,1,1,1,1,0,1,0,0,1]) (cd Try.f9 [1,1,1,1,1,0,1,0,0,1,1]) e (setN (inB 0 (setN (kont Pg R Try.f9) (fun e => F9_j3 R))) (fun e => k1 (e 1) (e 5) (e 7) (e 9))) (fun e => F9_j7 R k1 (e 1) (e 5) (e 7) (e 9)) _ (by kernel_rfl) (fun e => F9_j7_ok R k1 e) (den_conv Pg R (pre 0 (cd Try.f9 [1,1,1,1,1,0,1,0,0,1])) (cd Try.f9 [1,1,1,1,1,0,1,0,0,1,0]) e (setN (setN (inB 0 (setN (kont Pg R Try.f9) (fun e => F9_j3 R))) (fun e => k1 (e 1) (e 5) (e 7) (e 9))) (fun e => F9_j7 R k1 (e 1) (e 5) (e 7) (e 9))) _ (by kernel_rfl) (F9_j8_ok R k1 e)))
def F9_b1 (R : ER) (k1 : V4) (x1 x5 x7 x9 : Value) : WP :=
  pv (lenS x1) fun v45 =>
  pv (bin .lss x9 v45) fun v46 =>
  cnd v46 (
   F9_j6 R k1 x1 x5 x7 x9) (
   F9_j3 R)
theorem F9_b1_ok (R : ER) (k1 : V4) (e : Env) : den Pg R (cd Try.f9 [1,1,1,1,1,0,1,0,0]) e (setN (inB 0 (setN (kont Pg R Try.f9) (fun e => F9_j3 R))) (fun e => k1 (e 1) (e 5) (e 7) (e 9))) = (F9_b1 R k1 (e 1) (e 5) (e 7) (e 9)) := (den_join Pg R 0 (cd Try.f9 [1,1,1,1,1,0,1,0,0]) (cd Try.f9 [1,1,1,1,1,0,1,0,0,1]) e (setN (inB 0 (setN (kont Pg R Try.f9) (fun e => F9_j3 R))) (fun e => k1 (e 1) (e 5) (e 7) (e 9))) (fun e => F9_j6 R k1 (e 1) (e 5) (e 7) (e 9)) _ (by kernel_rfl) (fun e => F9_j6_ok R k1 e) (by kernel_rfl))
noncomputable def F9_l2 (R : ER) (n : Nat) : V4 := Nat.rec (motive := fun _ => V4) (fun _ _ _ _ => fun _ => False) (fun _ ih => fun x1 x5 x7 x9 => F9_b1 R ih x1 x5 x7 x9) n
theorem F9_l2_succ (R : ER) (n : Nat) (x1 x5 x7 x9 : Value) : F9_l2 R (n + 1) x1 x5 x7 x9 = F9_b1 R (F9_l2 R n) x1 x5 x7 x9 := rfl
theorem F9_l2_ok (R : ER) : ∀ (n : Nat) (e : Env), iterL (den Pg R (cd Try.f9 [1,1,1,1,1,0,1,0,0])) n e (inB 0 (setN (kont Pg R Try.f9) (fun e => F9_j3 R))) = F9_l2 R n (e 1) (e 5) (e 7) (e 9) :=
  iterL_join (den Pg R (cd Try.f9 [1,1,1,1,1,0,1,0,0])) (inB 0 (setN (kont Pg R Try.f9) (fun e => F9_j3 R))) (fun n e => F9_l2 R n (e 1) (e 5) (e 7) (e 9)) (fun _ => rfl) (fun n e => (F9_b1_ok R (F9_l2 R n) e).trans (F9_l2_succ R n (e 1) (e 5) (e 7) (e 9)).symm)
def F9_j5 (R : ER) (x1 x5 x7 x9 : Value) : WP :=
  exN fun n => F9_l2 R n x1 x5 x7 x9
theorem F9_j5_ok (R : ER) (e : Env) : den Pg R (cd Try.f9 [1,1,1,1,1,0,1]) e (setN (kont Pg R Try.f9) (fun e => F9_j3 R)) = (F9_j5 R (e 1) (e 5) (e 7) (e 9)) := (den_block Pg R (cd Try.f9 [1,1,1,1,1,0,1]) 0 (cd Try.f9 [1,1,1,1,1,0,1,0]) e (setN (kont Pg R Try.f9) (fun e => F9_j3 R)) _ (by kernel_rfl) (den_loop Pg R (cd Try.f9 [1,1,1,1,1,0,1,0]) (cd Try.f9 [1,1,1,1,1,0,1,0,0]) e (inB 0 (setN (kont Pg R Try.f9) (fun e => F9_j3 R))) (fun n e => F9_l2 R n (e 1) (e 5) (e 7) (e 9)) _ (by kernel_rfl) (F9_l2_ok R) (by kernel_rfl)))
def F9_j4 (R : ER) (x1 x5 x7 : Value) : WP :=
  F9_j5 R x1 x5 x7 (.int .i64 0)
theorem F9_j4_ok (R : ER) (e : Env) : den Pg R (cd Try.f9 [1,1,1,1,1,0]) e (setN (kont Pg R Try.f9) (fun e => F9_j3 R)) = (F9_j4 R (e 1) (e 5) (e 7)) := (den_join Pg R 0 (cd Try.f9 [1,1,1,1,1,0]) (cd Try.f9 [1,1,1,1,1,0,1]) e (setN (kont Pg R Try.f9) (fun e => F9_j3 R)) (fun e => F9_j5 R (e 1) (e 5) (e 7) (e 9)) _ (by kernel_rfl) (fun e => F9_j5_ok R e) (by kernel_rfl))
def F9_j2 (R : ER) (x1 x5 x7 : Value) : WP :=
  F9_j4 R x1 x5 x7
theorem F9_j2_ok (R : ER) (e : Env) : den Pg R (cd Try.f9 [1,1,1,1,1]) e (kont Pg R Try.f9) = (F9_j2 R (e 1) (e 5) (e 7)) := (den_join Pg R 0 (cd Try.f9 [1,1,1,1,1]) (cd Try.f9 [1,1,1,1,1,1]) e (kont Pg R Try.f9) (fun e => F9_j3 R) _ (by kernel_rfl) (fun e => F9_j3_ok R e) (den_conv Pg R (pre 0 (cd Try.f9 [1,1,1,1,1])) (cd Try.f9 [1,1,1,1,1,0]) e (setN (kont Pg R Try.f9) (fun e => F9_j3 R)) _ (by kernel_rfl) (F9_j4_ok R e)))
def F9_j1 (R : ER) (x0 x1 : Value) : WP :=
  cal Pg R 25 ⟨[x0]⟩ fun v47 =>
  pv (extO 0 v47) fun v48 =>
  pv (extO 1 v47) fun v49 =>
  cal Pg R 26 ⟨[x0]⟩ fun v50 =>
  pv (extO 0 v50) fun v51 =>
  pv (extO 1 v50) fun v52 =>
  pv (bin .neq v49 v52) fun v53 =>
  gd v53 false (pv (some v48)) fun v54 =>
  gd v53 false (pv (eqNilP v54)) fun v55 =>
  gd v53 false (pv (some v51)) fun v56 =>
  gd v53 false (pv (eqNilP v56)) fun v57 =>
  gd v53 false (pv (binB .neq v55 v57)) fun v58 =>
  pv (pickO v53 (.bool true) v58) fun v59 =>
  cnd v59 (
   R (.returned (.bool false))) (
   F9_j2 R x1 v48 v51)
theorem F9_j1_ok (R : ER) (e : Env) : den Pg R (cd Try.f9 [1,1]) e (kont Pg R Try.f9) = (F9_j1 R (e 0) (e 1)) := (den_join Pg R 2 (cd Try.f9 [1,1]) (cd Try.f9 [1,1,1,1,1]) e (kont Pg R Try.f9) (fun e => F9_j2 R (e 1) (e 5) (e 7)) _ (by kernel_rfl) (fun e => F9_j2_ok R e) (by kernel_rfl))
def F9 (R : ER) (x0 x1 : Value) : WP :=
  pv (lenS x0) fun v60 =>
  pv (bin .gtr v60 (.int .i64 30)) fun v61 =>
  gd v61 false (pv (some x1)) fun v62 =>
  gd v61 false (pv (lenS v62)) fun v63 =>
  gd v61 false (pv (bin .gtr v63 (.int .i64 40))) fun v64 =>
  pv (pickO v61 (.bool true) v64) fun v65 =>
  cnd v65 (
   cal Pg R 12 ⟨[]⟩ fun v66 =>
   R (.returned v66)) (
   F9_j1 R x0 x1)
theorem F9_den (R : ER) (x0 x1 : Value) : den Pg R (cd Try.f9 []) (argsEnv [x0, x1]) (kont Pg R Try.f9) = F9 R x0 x1 :=
  have h : ∀ e, den Pg R (cd Try.f9 []) e (kont Pg R Try.f9) = F9 R (e 0) (e 1) := fun e => (den_join Pg R 1 (cd Try.f9 []) (cd Try.f9 [1,1]) e (kont Pg R Try.f9) (fun e => F9_j1 R (e 0) (e 1)) _ (by kernel_rfl) (fun e => F9_j1_ok R e) (by kernel_rfl))
  h _
theorem F9_calls {R : ER} {x0 x1 : Value} {w : World} (h : F9 R x0 x1 w) : Calls Pg 9 ⟨[x0, x1]⟩ w R :=
  calls_of_den Try.func9 (by kernel_rfl) (by kernel_rfl) (F9_den R x0 x1) h
/-! ### 10: orpimentlaw05_InheritAgrees -/
def F10_j2 (R : ER) : WP :=
  cal Pg R 12 ⟨[]⟩ fun v1 =>
  R (.returned v1)
theorem F10_j2_ok (R : ER) (e : Env) : den Pg R (cd Try.f10 [1,1,1,1]) e (kont Pg R Try.f10) = (F10_j2 R) := by kernel_rfl
def F10_j6 (R : ER) (k1 : V4) (x0 x1 x5 x7 : Value) : WP :=
  pv (bin .add x7 (.int .i64 1)) fun v2 =>
  k1 x0 x1 x5 v2
theorem F10_j6_ok (R : ER) (k1 : V4) (e : Env) : den Pg R (cd Try.f10 [1,1,1,0,1,0,0,1,1]) e (setN (inB 0 (setN (kont Pg R Try.f10) (fun e => F10_j2 R))) (fun e => k1 (e 0) (e 1) (e 5) (e 7))) = (F10_j6 R k1 (e 0) (e 1) (e 5) (e 7)) := by kernel_rfl
def F10_j12 (R : ER) (k1 : V4) (k2 : V7) (x0 x1 x5 x7 x9 x10 x12 : Value) : WP :=
  cal Pg R 32 ⟨[x5, x12]⟩ fun v3 =>
  pv (extO 0 v3) fun v4 =>
  pv (extO 1 v3) fun v5 =>
  pv (ixS 1 x10 x12) fun v6 =>
  ld1 v6 fun v7 =>
  pv (bin .neq v4 v7) fun v8 =>
  gd v8 false (pv (some v5)) fun v9 =>
  gd v8 false (pv (bin .neq v9 (.int .i64 0))) fun v10 =>
  pv (pickO v8 (.bool true) v10) fun v11 =>
  gd v11 false (pv (some v4)) fun v12 =>
  gd v11 false (pv (faO 0 x9)) fun v13 =>
  gd v11 false (ld1 v13) fun v14 =>
  gd v11 false (pv (some x12)) fun v15 =>
  gd v11 false (pv (ixS 1 v14 v15)) fun v16 =>
  gd v11 false (ld1 v16) fun v17 =>
  gd v11 false (pv (bin .lss v12 v17)) fun v18 =>
  pv (pickO v11 (.bool true) v18) fun v19 =>
  cnd v19 (
   R (.returned (.bool false))) (
   pv (bin .add x12 (.int .i64 1)) fun v20 =>
  k2 x0 x1 x5 x7 x9 x10 v20)
theorem F10_j12_ok (R : ER) (k1 : V4) (k2 : V7) (e : Env) : den Pg R (cd Try.f10 [1,1,1,0,1,0,0,1,0,0,1,1,1,1,1,1,1,0,0,1]) e (setN (inB 3 (inB 1 (setN (setN (inB 0 (setN (kont Pg R Try.f10) (fun e => F10_j2 R))) (fun e => k1 (e 0) (e 1) (e 5) (e 7))) (fun e => F10_j6 R k1 (e 0) (e 1) (e 5) (e 7))))) (fun e => k2 (e 0) (e 1) (e 5) (e 7) (e 9) (e 10) (e 12))) = (F10_j12 R k1 k2 (e 0) (e 1) (e 5) (e 7) (e 9) (e 10) (e 12)) := (by kernel_rfl)
def F10_b2 (R : ER) (k1 : V4) (k2 : V7) (x0 x1 x5 x7 x9 x10 x12 : Value) : WP :=
  pv (lenS x10) fun v21 =>
  pv (bin .lss x12 v21) fun v22 =>
  cnd v22 (
   F10_j12 R k1 k2 x0 x1 x5 x7 x9 x10 x12) (
   F10_j6 R k1 x0 x1 x5 x7)
theorem F10_b2_ok (R : ER) (k1 : V4) (k2 : V7) (e : Env) : den Pg R (cd Try.f10 [1,1,1,0,1,0,0,1,0,0,1,1,1,1,1,1,1,0,0]) e (setN (inB 3 (inB 1 (setN (setN (inB 0 (setN (kont Pg R Try.f10) (fun e => F10_j2 R))) (fun e => k1 (e 0) (e 1) (e 5) (e 7))) (fun e => F10_j6 R k1 (e 0) (e 1) (e 5) (e 7))))) (fun e => k2 (e 0) (e 1) (e 5) (e 7) (e 9) (e 10) (e 12))) = (F10_b2 R k1 k2 (e 0) (e 1) (e 5) (e 7) (e 9) (e 10) (e 12)) := (den_join Pg R 0 (cd Try.f10 [1,1,1,0,1,0,0,1,0,0,1,1,1,1,1,1,1,0,0]) (cd Try.f10 [1,1,1,0,1,0,0,1,0,0,1,1,1,1,1,1,1,0,0,1]) e (setN (inB 3 (inB 1 (setN (setN (inB 0 (setN (kont Pg R Try.f10) (fun e => F10_j2 R))) (fun e => k1 (e 0) (e 1) (e 5) (e 7))) (fun e => F10_j6 R k1 (e 0) (e 1) (e 5) (e 7))))) (fun e => k2 (e 0) (e 1) (e 5) (e 7) (e 9) (e 10) (e 12))) (fun e => F10_j12 R k1 k2 (e 0) (e 1) (e 5) (e 7) (e 9) (e 10) (e 12)) _ (by kernel_rfl) (fun e => F10_j12_ok R k1 k2 e) (by kernel_rfl))
noncomputable def F10_l1 (R : ER) (k1 : V4) (n : Nat) : V7 := Nat.rec (motive := fun _ => V7) (fun _ _ _ _ _ _ _ => fun _ => False) (fun _ ih => fun x0 x1 x5 x7 x9 x10 x12 => F10_b2 R k1 ih x0 x1 x5 x7 x9 x10 x12) n
theorem F10_l1_succ (R : ER) (k1 : V4) (n : Nat) (x0 x1 x5 x7 x9 x10 x12 : Value) : F10_l1 R k1 (n + 1) x0 x1 x5 x7 x9 x10 x12 = F10_b2 R k1 (F10_l1 R k1 n) x0 x1 x5 x7 x9 x10 x12 := rfl
theorem F10_l1_ok (R : ER) (k1 : V4) : ∀ (n : Nat) (e : Env), iterL (den Pg R (cd Try.f10 [1,1,1,0,1,0,0,1,0,0,1,1,1,1,1,1,1,0,0])) n e (inB 3 (inB 1 (setN (setN (inB 0 (setN (kont Pg R Try.f10) (fun e => F10_j2 R))) (fun e => k1 (e 0) (e 1) (e 5) (e 7))) (fun e => F10_j6 R k1 (e 0) (e 1) (e 5) (e 7))))) = F10_l1 R k1 n (e 0) (e 1) (e 5) (e 7) (e 9) (e 10) (e 12) :=
  iterL_join (den Pg R (cd Try.f10 [1,1,1,0,1,0,0,1,0,0,1,1,1,1,1,1,1,0,0])) (inB 3 (inB 1 (setN (setN (inB 0 (setN (kont Pg R Try.f10) (fun e => F10_j2 R))) (fun e => k1 (e 0) (e 1) (e 5) (e 7))) (fun e => F10_j6 R k1 (e 0) (e 1) (e 5) (e 7))))) (fun n e => F10_l1 R k1 n (e 0) (e 1) (e 5) (e 7) (e 9) (e 10) (e 12)) (fun _ => rfl) (fun n e => (F10_b2_ok R k1 (F10_l1 R k1 n) e).trans (F10_l1_succ R k1 n (e 0) (e 1) (e 5) (e 7) (e 9) (e 10) (e 12)).symm)
def F10_j11 (R : ER) (k1 : V4) (x0 x1 x5 x7 x9 x10 x12 : Value) : WP :=
  exN fun n => F10_l1 R k1 n x0 x1 x5 x7 x9 x10 x12
theorem F10_j11_ok (R : ER) (k1 : V4) (e : Env) : den Pg R (cd Try.f10 [1,1,1,0,1,0,0,1,0,0,1,1,1,1,1,1,1]) e (inB 1 (setN (setN (inB 0 (setN (kont Pg R Try.f10) (fun e => F10_j2 R))) (fun e => k1 (e 0) (e 1) (e 5) (e 7))) (fun e => F10_j6 R k1 (e 0) (e 1) (e 5) (e 7)))) = (F10_j11 R k1 (e 0) (e 1) (e 5) (e 7) (e 9) (e 10) (e 12)) := (den_block Pg R (cd Try.f10 [1,1,1,0,1,0,0,1,0,0,1,1,1,1,1,1,1]) 3 (cd Try.f10 [1,1,1,0,1,0,0,1,0,0,1,1,1,1,1,1,1,0]) e (inB 1 (setN (setN (inB 0 (setN (kont Pg R Try.f10) (fun e => F10_j2 R))) (fun e => k1 (e 0) (e 1) (e 5) (e 7))) (fun e => F10_j6 R k1 (e 0) (e 1) (e 5) (e 7)))) _ (by kernel_rfl) (den_loop Pg R (cd Try.f10 [1,1,1,0,1,0,0,1,0,0,1,1,1,1,1,1,1,0]) (cd Try.f10 [1,1,1,0,1,0,0,1,0,0,1,1,1,1,1,1,1,0,0]) e (inB 3 (inB 1 (setN (setN (inB 0 (setN (kont Pg R Try.f10) (fun e => F10_j2 R))) (fun e => k1 (e 0) (e 1) (e 5) (e 7))) (fun e => F10_j6 R k1 (e 0) (e 1) (e 5) (e 7))))) (fun n e => F10_l1 R k1 n (e 0) (e 1) (e 5) (e 7) (e 9) (e 10) (e 12)) _ (by kernel_rfl) (F10_l1_ok R k1) (by kernel_rfl)))
def F10_j10 (R : ER) (k1 : V4) (x0 x1 x5 x7 x9 x10 : Value) : WP :=
  F10_j11 R k1 x0 x1 x5 x7 x9 x10 (.int .i64 0)
theorem F10_j10_ok (R : ER) (k1 : V4) (e : Env) : den Pg R (cd Try.f10 [1,1,1,0,1,0,0,1,0,0,1,1,1,1,1,1]) e (inB 1 (setN (setN (inB 0 (setN (kont Pg R Try.f10) (fun e => F10_j2 R))) (fun e => k1 (e 0) (e 1) (e 5) (e 7))) (fun e => F10_j6 R k1 (e 0) (e 1) (e 5) (e 7)))) = (F10_j10 R k1 (e 0) (e 1) (e 5) (e 7) (e 9) (e 10)) := (den_join Pg R 0 (cd Try.f10 [1,1,1,0,1,0,0,1,0,0,1,1,1,1,1,1]) (cd Try.f10 [1,1,1,0,1,0,0,1,0,0,1,1,1,1,1,1,1]) e (inB 1 (setN (setN (inB 0 (setN (kont Pg R Try.f10) (fun e => F10_j2 R))) (fun e => k1 (e 0) (e 1) (e 5) (e 7))) (fun e => F10_j6 R k1 (e 0) (e 1) (e 5) (e 7)))) (fun e => F10_j11 R k1 (e 0) (e 1) (e 5) (e 7) (e 9) (e 10) (e 12)) _ (by kernel_rfl) (fun e => F10_j11_ok R k1 e) (by kernel_rfl))
def F10_j9 (R : ER) (k1 : V4) (x0 x1 x5 x7 : Value) : WP :=
  cal Pg R 23 ⟨[x5]⟩ fun v23 =>
  al Pg 25 fun v24 =>
  stN 2 v24 v23 fun _ =>
  ldN 2 v24 fun v25 =>
  cal Pg R 13 ⟨[v25]⟩ fun v26 =>
  pv (extO 0 v26) fun v27 =>
  pv (extO 1 v26) fun v28 =>
  pv (bin .neq v28 (.int .i64 0)) fun v29 =>
  gd v29 false (pv (some v27)) fun v30 =>
  gd v29 false (pv (lenS v30)) fun v31 =>
  gd v29 false (pv (some x0)) fun v32 =>
  gd v29 false (pv (lenS v32)) fun v33 =>
  gd v29 false (pv (bin .neq v31 v33)) fun v34 =>
  pv (pickO v29 (.bool true) v34) fun v35 =>
  cnd v35 (
   R (.returned (.bool false))) (
   F10_j10 R k1 x0 x1 x5 x7 v24 v27)
theorem F10_j9_ok (R : ER) (k1 : V4) (e : Env) : den Pg R (cd Try.f10 [1,1,1,0,1,0,0,1,0,0,1,1,1]) e (inB 1 (setN (setN (inB 0 (setN (kont Pg R Try.f10) (fun e => F10_j2 R))) (fun e => k1 (e 0) (e 1) (e 5) (e 7))) (fun e => F10_j6 R k1 (e 0) (e 1) (e 5) (e 7)))) = (F10_j9 R k1 (e 0) (e 1) (e 5) (e 7)) := (den_join Pg R 2 (cd Try.f10 [1,1,1,0,1,0,0,1,0,0,1,1,1]) (cd Try.f10 [1,1,1,0,1,0,0,1,0,0,1,1,1,1,1,1]) e (inB 1 (setN (setN (inB 0 (setN (kont Pg R Try.f10) (fun e => F10_j2 R))) (fun e => k1 (e 0) (e 1) (e 5) (e 7))) (fun e => F10_j6 R k1 (e 0) (e 1) (e 5) (e 7)))) (fun e => F10_j10 R k1 (e 0) (e 1) (e 5) (e 7) (e 9) (e 10)) _ (by kernel_rfl) (fun e => F10_j10_ok R k1 e) (by kernel_rfl))
def F10_j18 (R : ER) (k1 : V4) (x0 x1 x5 x7 x8 x53 : Value) : WP :=
  pv (bin .eql x53 (.int .u8 4)) fun v36 =>
  cnd v36 (
   pv (faO 3 x8) fun v37 =>
   ld1 v37 fun v38 =>
   cal Pg R 30 ⟨[x5, v38]⟩ fun v39 =>
   F10_j9 R k1 x0 x1 x5 x7) (
   pv (faO 1 x8) fun v40 =>
   ld1 v40 fun v41 =>
   pv (faO 2 x8) fun v42 =>
   ld1 v42 fun v43 =>
   pv (bldO [.int .i64 0, .int .i64 0] [(0,1, v41), (1,1, v43)]) fun v44 =>
   cal Pg R 31 ⟨[x5, v44]⟩ fun v45 =>
   F10_j9 R k1 x0 x1 x5 x7)
theorem F10_j18_ok (R : ER) (k1 : V4) (e : Env) : den Pg R (cd Try.f10 [1,1,1,0,1,0,0,1,0,0,1,1,0,1,0,1,1,1,1]) e (inB 2 (setN (inB 1 (setN (setN (inB 0 (setN (kont Pg R Try.f10) (fun e => F10_j2 R))) (fun e => k1 (e 0) (e 1) (e 5) (e 7))) (fun e => F10_j6 R k1 (e 0) (e 1) (e 5) (e 7)))) (fun e => F10_j9 R k1 (e 0) (e 1) (e 5) (e 7)))) = (F10_j18 R k1 (e 0) (e 1) (e 5) (e 7) (e 8) (e 53)) := (by kernel_rfl)
def F10_j17 (R : ER) (k1 : V4) (x0 x1 x5 x7 x8 x53 x70 : Value) : WP :=
  cnd x70 (pv (faO 1 x8) fun v46 =>
  ld1 v46 fun v47 =>
  pv (faO 2 x8) fun v48 =>
  ld1 v48 fun v49 =>
  cal Pg R 29 ⟨[x5, v47, v49]⟩ fun v50 =>
  F10_j9 R k1 x0 x1 x5 x7) (F10_j18 R k1 x0 x1 x5 x7 x8 x53)
theorem F10_j17_ok (R : ER) (k1 : V4) (e : Env) : den Pg R (cd Try.f10 [1,1,1,0,1,0,0,1,0,0,1,1,0,1,0,1,1,1]) e (inB 2 (setN (inB 1 (setN (setN (inB 0 (setN (kont Pg R Try.f10) (fun e => F10_j2 R))) (fun e => k1 (e 0) (e 1) (e 5) (e 7))) (fun e => F10_j6 R k1 (e 0) (e 1) (e 5) (e 7)))) (fun e => F10_j9 R k1 (e 0) (e 1) (e 5) (e 7)))) = (F10_j17 R k1 (e 0) (e 1) (e 5) (e 7) (e 8) (e 53) (e 70)) := (den_if Pg R (cd Try.f10 [1,1,1,0,1,0,0,1,0,0,1,1,0,1,0,1,1,1]) (cd Try.f10 [1,1,1,0,1,0,0,1,0,0,1,1,0,1,0,1,1,1,0]) (cd Try.f10 [1,1,1,0,1,0,0,1,0,0,1,1,0,1,0,1,1,1,1]) e (inB 2 (setN (inB 1 (setN (setN (inB 0 (setN (kont Pg R Try.f10) (fun e => F10_j2 R))) (fun e => k1 (e 0) (e 1) (e 5) (e 7))) (fun e => F10_j6 R k1 (e 0) (e 1) (e 5) (e 7)))) (fun e => F10_j9 R k1 (e 0) (e 1) (e 5) (e 7)))) _ (F10_j18 R k1 (e 0) (e 1) (e 5) (e 7) (e 8) (e 53)) _ (by kernel_rfl) rfl (F10_j18_ok R k1 e) (by kernel_rfl))
def F10_j16 (R : ER) (k1 : V4) (x0 x1 x5 x7 x8 x53 : Value) : WP :=
  pv (bin .eql x53 (.int .u8 3)) fun v51 =>
  F10_j17 R k1 x0 x1 x5 x7 x8 x53 v51
theorem F10_j16_ok (R : ER) (k1 : V4) (e : Env) : den Pg R (cd Try.f10 [1,1,1,0,1,0,0,1,0,0,1,1,0,1,0,1,1]) e (inB 2 (setN (inB 1 (setN (setN (inB 0 (setN (kont Pg R Try.f10) (fun e => F10_j2 R))) (fun e => k1 (e 0) (e 1) (e 5) (e 7))) (fun e => F10_j6 R k1 (e 0) (e 1) (e 5) (e 7)))) (fun e => F10_j9 R k1 (e 0) (e 1) (e 5) (e 7)))) = (F10_j16 R k1 (e 0) (e 1) (e 5) (e 7) (e 8) (e 53)) := (den_join Pg R 0 (cd Try.f10 [1,1,1,0,1,0,0,1,0,0,1,1,0,1,0,1,1]) (cd Try.f10 [1,1,1,0,1,0,0,1,0,0,1,1,0,1,0,1,1,1]) e (inB 2 (setN (inB 1 (setN (setN (inB 0 (setN (kont Pg R Try.f10) (fun e => F10_j2 R))) (fun e => k1 (e 0) (e 1) (e 5) (e 7))) (fun e => F10_j6 R k1 (e 0) (e 1) (e 5) (e 7)))) (fun e => F10_j9 R k1 (e 0) (e 1) (e 5) (e 7)))) (fun e => F10_j17 R k1 (e 0) (e 1) (e 5) (e 7) (e 8) (e 53) (e 70)) _ (by kernel_rfl) (fun e => F10_j17_ok R k1 e) (by kernel_rfl))
def F10_j15 (R : ER) (k1 : V4) (x0 x1 x5 x7 x8 x53 x61 : Value) : WP :=
  cnd x61 (pv (faO 1 x8) fun v52 =>
  ld1 v52 fun v53 =>
  pv (faO 2 x8) fun v54 =>
  ld1 v54 fun v55 =>
  pv (bldO [.int .i64 0, .int .i64 0] [(0,1, v53), (1,1, v55)]) fun v56 =>
  cal Pg R 28 ⟨[x5, v56]⟩ fun v57 =>
  F10_j9 R k1 x0 x1 x5 x7) (F10_j16 R k1 x0 x1 x5 x7 x8 x53)
theorem F10_j15_ok (R : ER) (k1 : V4) (e : Env) : den Pg R (cd Try.f10 [1,1,1,0,1,0,0,1,0,0,1,1,0,1,0,1]) e (inB 2 (setN (inB 1 (setN (setN (inB 0 (setN (kont Pg R Try.f10) (fun e => F10_j2 R))) (fun e => k1 (e 0) (e 1) (e 5) (e 7))) (fun e => F10_j6 R k1 (e 0) (e 1) (e 5) (e 7)))) (fun e => F10_j9 R k1 (e 0) (e 1) (e 5) (e 7)))) = (F10_j15 R k1 (e 0) (e 1) (e 5) (e 7) (e 8) (e 53) (e 61)) := (den_if Pg R (cd Try.f10 [1,1,1,0,1,0,0,1,0,0,1,1,0,1,0,1]) (cd Try.f10 [1,1,1,0,1,0,0,1,0,0,1,1,0,1,0,1,0]) (cd Try.f10 [1,1,1,0,1,0,0,1,0,0,1,1,0,1,0,1,1]) e (inB 2 (setN (inB 1 (setN (setN (inB 0 (setN (kont Pg R Try.f10) (fun e => F10_j2 R))) (fun e => k1 (e 0) (e 1) (e 5) (e 7))) (fun e => F10_j6 R k1 (e 0) (e 1) (e 5) (e 7)))) (fun e => F10_j9 R k1 (e 0) (e 1) (e 5) (e 7)))) _ (F10_j16 R k1 (e 0) (e 1) (e 5) (e 7) (e 8) (e 53)) _ (by kernel_rfl) rfl (F10_j16_ok R k1 e) (by kernel_rfl))
def F10_j14 (R : ER) (k1 : V4) (x0 x1 x5 x7 x8 x53 : Value) : WP :=
  pv (bin .eql x53 (.int .u8 2)) fun v58 =>
  F10_j15 R k1 x0 x1 x5 x7 x8 x53 v58
theorem F10_j14_ok (R : ER) (k1 : V4) (e : Env) : den Pg R (cd Try.f10 [1,1,1,0,1,0,0,1,0,0,1,1,0,1]) e (setN (inB 1 (setN (setN (inB 0 (setN (kont Pg R Try.f10) (fun e => F10_j2 R))) (fun e => k1 (e 0) (e 1) (e 5) (e 7))) (fun e => F10_j6 R k1 (e 0) (e 1) (e 5) (e 7)))) (fun e => F10_j9 R k1 (e 0) (e 1) (e 5) (e 7))) = (F10_j14 R k1 (e 0) (e 1) (e 5) (e 7) (e 8) (e 53)) := (den_block Pg R (cd Try.f10 [1,1,1,0,1,0,0,1,0,0,1,1,0,1]) 2 (cd Try.f10 [1,1,1,0,1,0,0,1,0,0,1,1,0,1,0]) e (setN (inB 1 (setN (setN (inB 0 (setN (kont Pg R Try.f10) (fun e => F10_j2 R))) (fun e => k1 (e 0) (e 1) (e 5) (e 7))) (fun e => F10_j6 R k1 (e 0) (e 1) (e 5) (e 7)))) (fun e => F10_j9 R k1 (e 0) (e 1) (e 5) (e 7))) _ (by kernel_rfl) (den_join Pg R 0 (cd Try.f10 [1,1,1,0,1,0,0,1,0,0,1,1,0,1,0]) (cd Try.f10 [1,1,1,0,1,0,0,1,0,0,1,1,0,1,0,1]) e (inB 2 (setN (inB 1 (setN (setN (inB 0 (setN (kont Pg R Try.f10) (fun e => F10_j2 R))) (fun e => k1 (e 0) (e 1) (e 5) (e 7))) (fun e => F10_j6 R k1 (e 0) (e 1) (e 5) (e 7)))) (fun e => F10_j9 R k1 (e 0) (e 1) (e 5) (e 7)))) (fun e => F10_j15 R k1 (e 0) (e 1) (e 5) (e 7) (e 8) (e 53) (e 61)) _ (by kernel_rfl) (fun e => F10_j15_ok R k1 e) (by kernel_rfl)))
def F10_j13 (R : ER) (k1 : V4) (x0 x1 x5 x7 x8 : Value) : WP :=
  pv (faO 0 x8) fun v59 =>
  ld1 v59 fun v60 =>
  pv (bin .rem v60 (.int .u8 6)) fun v61 =>
  F10_j14 R k1 x0 x1 x5 x7 x8 v61
theorem F10_j13_ok (R : ER) (k1 : V4) (e : Env) : den Pg R (cd Try.f10 [1,1,1,0,1,0,0,1,0,0,1,1,0]) e (setN (inB 1 (setN (setN (inB 0 (setN (kont Pg R Try.f10) (fun e => F10_j2 R))) (fun e => k1 (e 0) (e 1) (e 5) (e 7))) (fun e => F10_j6 R k1 (e 0) (e 1) (e 5) (e 7)))) (fun e => F10_j9 R k1 (e 0) (e 1) (e 5) (e 7))) = (F10_j13 R k1 (e 0) (e 1) (e 5) (e 7) (e 8)) := (den_join Pg R 0 (cd Try.f10 [1,1,1,0,1,0,0,1,0,0,1,1,0]) (cd Try.f10 [1,1,1,0,1,0,0,1,0,0,1,1,0,1]) e (setN (inB 1 (setN (setN (inB 0 (setN (kont Pg R Try.f10) (fun e => F10_j2 R))) (fun e => k1 (e 0) (e 1) (e 5) (e 7))) (fun e => F10_j6 R k1 (e 0) (e 1) (e 5) (e 7)))) (fun e => F10_j9 R k1 (e 0) (e 1) (e 5) (e 7))) (fun e => F10_j14 R k1 (e 0) (e 1) (e 5) (e 7) (e 8) (e 53)) _ (by kernel_rfl) (fun e => F10_j14_ok R k1 e) (by kernel_rfl))
def F10_j8 (R : ER) (k1 : V4) (x0 x1 x5 x7 : Value) : WP :=
  pv (ixS 4 x1 x7) fun v62 =>
  ldN 4 v62 fun v63 =>
  al Pg 46 fun v64 =>
  stN 4 v64 v63 fun _ =>
  F10_j13 R k1 x0 x1 x5 x7 v64
theorem F10_j8_ok (R : ER) (k1 : V4) (e : Env) : den Pg R (cd Try.f10 [1,1,1,0,1,0,0,1,0,0,1]) e (inB 1 (setN (setN (inB 0 (setN (kont Pg R Try.f10) (fun e => F10_j2 R))) (fun e => k1 (e 0) (e 1) (e 5) (e 7))) (fun e => F10_j6 R k1 (e 0) (e 1) (e 5) (e 7)))) = (F10_j8 R k1 (e 0) (e 1) (e 5) (e 7)) := (den_join Pg R 1 (cd Try.f10 [1,1,1,0,1,0,0,1,0,0,1]) (cd Try.f10 [1,1,1,0,1,0,0,1,0,0,1,1,1]) e (inB 1 (setN (setN (inB 0 (setN (kont Pg R Try.f10) (fun e => F10_j2 R))) (fun e => k1 (e 0) (e 1) (e 5) (e 7))) (fun e => F10_j6 R k1 (e 0) (e 1) (e 5) (e 7)))) (fun e => F10_j9 R k1 (e 0) (e 1) (e 5) (e 7)) _ (by kernel_rfl) (fun e => F10_j9_ok R k1 e) (den_join Pg R 0 (pre 1 (cd Try.f10 [1,1,1,0,1,0,0,1,0,0,1])) (cd Try.f10 [1,1,1,0,1,0,0,1,0,0,1,1,0]) e (setN (inB 1 (setN (setN (inB 0 (setN (kont Pg R Try.f10) (fun e => F10_j2 R))) (fun e => k1 (e 0) (e 1) (e 5) (e 7))) (fun e => F10_j6 R k1 (e 0) (e 1) (e 5) (e 7)))) (fun e => F10_j9 R k1 (e 0) (e 1) (e 5) (e 7))) (fun e => F10_j13 R k1 (e 0) (e 1) (e 5) (e 7) (e 8)) _ (by kernel_rfl) (fun e => F10_j13_ok R k1 e) (by kernel_rfl)))
def F10_j7 (R : ER) (k1 : V4) (x0 x1 x5 x7 : Value) : WP :=
  pv (ixS 4 x1 x7) fun v65 =>
  pv (faO 3 v65) fun v66 =>
  ld1 v66 fun v67 =>
  pv (lenS v67) fun v68 =>
  pv (bin .gtr v68 (.int .i64 60)) fun v69 =>
  cnd v69 (
   cal Pg R 12 ⟨[]⟩ fun v70 =>
   R (.returned v70)) (
   F10_j8 R k1 x0 x1 x5 x7)
theorem F10_j7_ok (R : ER) (k1 : V4) (e : Env) : den Pg R (cd Try.f10 [1,1,1,0,1,0,0,1,0]) e (setN (setN (inB 0 (setN (kont Pg R Try.f10) (fun e => F10_j2 R))) (fun e => k1 (e 0) (e 1) (e 5) (e 7))) (fun e => F10_j6 R k1 (e 0) (e 1) (e 5) (e 7))) = (F10_j7 R k1 (e 0) (e 1) (e 5) (e 7)) := (den_block Pg R (cd Try.f10 [1,1,1,0,1,0,0,1,0]) 1 (cd Try.f10 [1,1,1,0,1,0,0,1,0,0]) e (setN (setN (inB 0 (setN (kont Pg R Try.f10) (fun e => F10_j2 R))) (fun e => k1 (e 0) (e 1) (e 5) (e 7))) (fun e => F10_j6 R k1 (e 0) (e 1) (e 5) (e 7))) _ (by kernel_rfl) (den_join Pg R 0 (cd Try.f10 [1,1,1,0,1,0,0,1,0,0]) (cd Try.f10 [1,1,1,0,1,0,0,1,0,0,1]) e (inB 1 (setN (setN (inB 0 (setN (kont Pg R Try.f10) (fun e => F10_j2 R))) (fun e => k1 (e 0) (e 1) (e 5) (e 7))) (fun e => F10_j6 R k1 (e 0) (e 1) (e 5) (e 7)))) (fun e => F10_j8 R k1 (e 0) (e 1) (e 5) (e 7)) _ (by kernel_rfl) (fun e => F10_j8_ok R k1 e) (by kernel_rfl)))
def F10_j5 (R : ER) (k1 : V4) (x0 x1 x5 x7 : Value) : WP :=
  F10_j7 R k1 x0 x1 x5 x7
theorem F10_j5_ok (R : ER) (k1 : V4) (e : Env) : den Pg R (cd Try.f10 [1,1,1,0,1,0,0,1]) e (setN (inB 0 (setN (kont Pg R Try.f10) (fun e => F10_j2 R))) (fun e => k1 (e 0) (e 1) (e 5) (e 7))) = (F10_j5 R k1 (e 0) (e 1) (e 5) (e 7)) := (den_join Pg R 0 (cd Try.f10 [1,1,1,0,1,0,0,1]) (cd Try.f10 [1,1,1,0,1,0,0,1,1]) e (setN (inB 0 (setN (kont Pg R Try.f10) (fun e => F10_j2 R))) (fun e => k1 (e 0) (e 1) (e 5) (e 7))) (fun e => F10_j6 R k1 (e 0) (e 1) (e 5) (e 7)) _ (by kernel_rfl) (fun e => F10_j6_ok R k1 e) (den_conv Pg R (pre 0 (cd Try.f10 [1,1,1,0,1,0,0,1])) (cd Try.f10 [1,1,1,0,1,0,0,1,0]) e (setN (setN (inB 0 (setN (kont Pg R Try.f10) (fun e => F10_j2 R))) (fun e => k1 (e 0) (e 1) (e 5) (e 7))) (fun e => F10_j6 R k1 (e 0) (e 1) (e 5) (e 7))) _ (by kernel_rfl) (F10_j7_ok R k1 e)))
def F10_b1 (R : ER) (k1 : V4) (x0 x1 x5 x7 : Value) : WP :=
  pv (lenS x1) fun v71 =>
  pv (bin .lss x7 v71) fun v72 =>
  cnd v72 (
   F10_j5 R k1 x0 x1 x5 x7) (
   F10_j2 R)
theorem F10_b1_ok (R : ER) (k1 : V4) (e : Env) : den Pg R (cd Try.f10 [1,1,1,0,1,0,0]) e (setN (inB 0 (setN (kont Pg R Try.f10) (fun e => F10_j2 R))) (fun e => k1 (e 0) (e 1) (e 5) (e 7))) = (F10_b1 R k1 (e 0) (e 1) (e 5) (e 7)) := (den_join Pg R 0 (cd Try.f10 [1,1,1,0,1,0,0]) (cd Try.f10 [1,1,1,0,1,0,0,1]) e (setN (inB 0 (setN (kont Pg R Try.f10) (fun e => F10_j2 R))) (fun e => k1 (e 0) (e 1) (e 5) (e 7))) (fun e => F10_j5 R k1 (e 0) (e 1) (e 5) (e 7)) _ (by kernel_rfl) (fun e => F10_j5_ok R k1 e) (by kernel_rfl))
noncomputable def F10_l2 (R : ER) (n : Nat) : V4 := Nat.rec (motive := fun _ => V4) (fun _ _ _ _ => fun _ => False) (fun _ ih => fun x0 x1 x5 x7 => F10_b1 R ih x0 x1 x5 x7) n
theorem F10_l2_succ (R : ER) (n : Nat) (x0 x1 x5 x7 : Value) : F10_l2 R (n + 1) x0 x1 x5 x7 = F10_b1 R (F10_l2 R n) x0 x1 x5 x7 := rfl
theorem F10_l2_ok (R : ER) : ∀ (n : Nat) (e : Env), iterL (den Pg R (cd Try.f10 [1,1,1,0,1,0,0])) n e (inB 0 (setN (kont Pg R Try.f10) (fun e => F10_j2 R))) = F10_l2 R n (e 0) (e 1) (e 5) (e 7) :=
  iterL_join (den Pg R (cd Try.f10 [1,1,1,0,1,0,0])) (inB 0 (setN (kont Pg R Try.f10) (fun e => F10_j2 R))) (fun n e => F10_l2 R n (e 0) (e 1) (e 5) (e 7)) (fun _ => rfl) (fun n e => (F10_b1_ok R (F10_l2 R n) e).trans (F10_l2_succ R n (e 0) (e 1) (e 5) (e 7)).symm)
def F10_j4 (R : ER) (x0 x1 x5 x7 : Value) : WP :=
  exN fun n => F10_l2 R n x0 x1 x5 x7
theorem F10_j4_ok (R : ER) (e : Env) : den Pg R (cd Try.f10 [1,1,1,0,1]) e (setN (kont Pg R Try.f10) (fun e => F10_j2 R)) = (F10_j4 R (e 0) (e 1) (e 5) (e 7)) := (den_block Pg R (cd Try.f10 [1,1,1,0,1]) 0 (cd Try.f10 [1,1,1,0,1,0]) e (setN (kont Pg R Try.f10) (fun e => F10_j2 R)) _ (by kernel_rfl) (den_loop Pg R (cd Try.f10 [1,1,1,0,1,0]) (cd Try.f10 [1,1,1,0,1,0,0]) e (inB 0 (setN (kont Pg R Try.f10) (fun e => F10_j2 R))) (fun n e => F10_l2 R n (e 0) (e 1) (e 5) (e 7)) _ (by kernel_rfl) (F10_l2_ok R) (by kernel_rfl)))
def F10_j3 (R : ER) (x0 x1 x5 : Value) : WP :=
  F10_j4 R x0 x1 x5 (.int .i64 0)
theorem F10_j3_ok (R : ER) (e : Env) : den Pg R (cd Try.f10 [1,1,1,0]) e (setN (kont Pg R Try.f10) (fun e => F10_j2 R)) = (F10_j3 R (e 0) (e 1) (e 5)) := (den_join Pg R 0 (cd Try.f10 [1,1,1,0]) (cd Try.f10 [1,1,1,0,1]) e (setN (kont Pg R Try.f10) (fun e => F10_j2 R)) (fun e => F10_j4 R (e 0) (e 1) (e 5) (e 7)) _ (by kernel_rfl) (fun e => F10_j4_ok R e) (by kernel_rfl))
def F10_j1 (R : ER) (x0 x1 x5 : Value) : WP :=
  F10_j3 R x0 x1 x5
theorem F10_j1_ok (R : ER) (e : Env) : den Pg R (cd Try.f10 [1,1,1]) e (kont Pg R Try.f10) = (F10_j1 R (e 0) (e 1) (e 5)) := (den_join Pg R 0 (cd Try.f10 [1,1,1]) (cd Try.f10 [1,1,1,1]) e (kont Pg R Try.f10) (fun e => F10_j2 R) _ (by kernel_rfl) (fun e => F10_j2_ok R e) (den_conv Pg R (pre 0 (cd Try.f10 [1,1,1])) (cd Try.f10 [1,1,1,0]) e (setN (kont Pg R Try.f10) (fun e => F10_j2 R)) _ (by kernel_rfl) (F10_j3_ok R e)))
def F10_j19 (R : ER) (x0 x1 x5 x6 : Value) : WP :=
  pv (lenS x0) fun v73 =>
  pv (bin .gtr v73 (.int .i64 30)) fun v74 =>
  gd v74 false (pv (some x1)) fun v75 =>
  gd v74 false (pv (lenS v75)) fun v76 =>
  gd v74 false (pv (bin .gtr v76 (.int .i64 40))) fun v77 =>
  pv (pickO v74 (.bool true) v77) fun v78 =>
  gd v78 false (pv (some x6)) fun v79 =>
  gd v78 false (pv (bin .neq v79 (.int .i64 0))) fun v80 =>
  pv (pickO v78 (.bool true) v80) fun v81 =>
  cnd v81 (
   cal Pg R 12 ⟨[]⟩ fun v82 =>
   R (.returned v82)) (
   F10_j1 R x0 x1 x5)
theorem F10_j19_ok (R : ER) (e : Env) : den Pg R (cd Try.f10 [1,1,0]) e (setN (kont Pg R Try.f10) (fun e => F10_j1 R (e 0) (e 1) (e 5))) = (F10_j19 R (e 0) (e 1) (e 5) (e 6)) := (by kernel_rfl)
def F10 (R : ER) (x0 x1 : Value) : WP :=
  cal Pg R 25 ⟨[x0]⟩ fun v83 =>
  pv (extO 0 v83) fun v84 =>
  pv (extO 1 v83) fun v85 =>
  F10_j19 R x0 x1 v84 v85
theorem F10_den (R : ER) (x0 x1 : Value) : den Pg R (cd Try.f10 []) (argsEnv [x0, x1]) (kont Pg R Try.f10) = F10 R x0 x1 :=
  have h : ∀ e, den Pg R (cd Try.f10 []) e (kont Pg R Try.f10) = F10 R (e 0) (e 1) := fun e => (den_join Pg R 2 (cd Try.f10 []) (cd Try.f10 [1,1,1]) e (kont Pg R Try.f10) (fun e => F10_j1 R (e 0) (e 1) (e 5)) _ (by kernel_rfl) (fun e => F10_j1_ok R e) (den_join Pg R 1 (pre 2 (cd Try.f10 [])) (cd Try.f10 [1,1,0]) e (setN (kont Pg R Try.f10) (fun e => F10_j1 R (e 0) (e 1) (e 5))) (fun e => F10_j19 R (e 0) (e 1) (e 5) (e 6)) _ (by kernel_rfl) (fun e => F10_j19_ok R e) (by kernel_rfl)))
  h _
theorem F10_calls {R : ER} {x0 x1 : Value} {w : World} (h : F10 R x0 x1 w) : Calls Pg 10 ⟨[x0, x1]⟩ w R :=
  calls_of_den Try.func10 (by kernel_rfl) (by kernel_rfl) (F10_den R x0 x1) h
/-! ### 11: orpimentlaw05_Few -/
def F11 (R : ER) (x0 x1 : Value) : WP :=
  pv (lenS x0) fun v1 =>
  pv (bin .leq v1 (.int .i64 30)) fun v2 =>
  gd v2 true (pv (some x1)) fun v3 =>
  gd v2 true (pv (lenS v3)) fun v4 =>
  gd v2 true (pv (bin .leq v4 (.int .i64 60))) fun v5 =>
  pv (pickO v2 v5 (.bool false)) fun v6 =>
  R (.returned v6)
theorem F11_den (R : ER) (x0 x1 : Value) : den Pg R (cd Try.f11 []) (argsEnv [x0, x1]) (kont Pg R Try.f11) = F11 R x0 x1 :=
  have h : ∀ e, den Pg R (cd Try.f11 []) e (kont Pg R Try.f11) = F11 R (e 0) (e 1) := fun e => by kernel_rfl
  h _
theorem F11_calls {R : ER} {x0 x1 : Value} {w : World} (h : F11 R x0 x1 w) : Calls Pg 11 ⟨[x0, x1]⟩ w R :=
  calls_of_den Try.func11 (by kernel_rfl) (by kernel_rfl) (F11_den R x0 x1) h
/-! ### 12: orpimentlaw05_awake -/
def F12 (R : ER) : WP :=
  valV Pg R (Instr.buildSlice 22 3 ⟨[(0, (.int .i64 10)), (1, (.int .i64 20)), (2, (.int .i64 5))]⟩) fun v1 =>
  pv (bldO [.int .i64 0, .int .i64 0] [(0,1, (.int .i64 1)), (1,1, (.int .i64 2))]) fun v2 =>
  pv (bldO [.int .i64 0, .int .i64 0] [(0,1, (.int .i64 2)), (1,1, (.int .i64 0))]) fun v3 =>
  valV Pg R (Instr.buildSlice 23 2 ⟨[(0, v2), (1, v3)]⟩) fun v4 =>
  pv (bldO [.slice none 0 0, .slice none 0 0] [(0,1, v1), (1,1, v4)]) fun v5 =>
  al Pg 25 fun v6 =>
  stN 2 v6 v5 fun _ =>
  ldN 2 v6 fun v7 =>
  cal Pg R 13 ⟨[v7]⟩ fun v8 =>
  pv (extO 0 v8) fun v9 =>
  pv (extO 1 v8) fun v10 =>
  ldN 2 v6 fun v11 =>
  cal Pg R 19 ⟨[v11, (.int .i64 0)]⟩ fun v12 =>
  pv (extO 0 v12) fun v13 =>
  pv (extO 1 v12) fun v14 =>
  valV Pg R (Instr.buildSlice 22 2 ⟨[(0, (.int .i64 1)), (1, (.int .i64 2))]⟩) fun v15 =>
  pv (bldO [.int .i64 0, .int .i64 0] [(0,1, (.int .i64 0)), (1,1, (.int .i64 1))]) fun v16 =>
  pv (bldO [.int .i64 0, .int .i64 0] [(0,1, (.int .i64 1)), (1,1, (.int .i64 0))]) fun v17 =>
  valV Pg R (Instr.buildSlice 23 2 ⟨[(0, v16), (1, v17)]⟩) fun v18 =>
  pv (bldO [.slice none 0 0, .slice none 0 0] [(0,1, v15), (1,1, v18)]) fun v19 =>
  cal Pg R 21 ⟨[v19]⟩ fun v20 =>
  pv (extO 0 v20) fun v21 =>
  pv (extO 1 v20) fun v22 =>
  pv (bin .eql v10 (.int .i64 0)) fun v23 =>
  gd v23 true (pv (some v14)) fun v24 =>
  gd v23 true (pv (bin .eql v24 (.int .i64 0))) fun v25 =>
  pv (pickO v23 v25 (.bool false)) fun v26 =>
  gd v26 true (pv (some v22)) fun v27 =>
  gd v26 true (pv (bin .eql v27 (.int .i64 0))) fun v28 =>
  pv (pickO v26 v28 (.bool false)) fun v29 =>
  gd v29 true (pv (some v9)) fun v30 =>
  gd v29 true (valV Pg R (Instr.buildSlice 22 3 ⟨[(0, (.int .i64 20)), (1, (.int .i64 20)), (2, (.int .i64 20))]⟩)) fun v31 =>
  gd v29 true (cal Pg R 18 ⟨[v30, v31]⟩) fun v32 =>
  pv (pickO v29 v32 (.bool false)) fun v33 =>
  gd v33 true (pv (some v13)) fun v34 =>
  gd v33 true (valV Pg R (Instr.buildSlice 22 3 ⟨[(0, (.int .i64 1)), (1, (.int .i64 2)), (2, (.int .i64 0))]⟩)) fun v35 =>
  gd v33 true (cal Pg R 18 ⟨[v34, v35]⟩) fun v36 =>
  pv (pickO v33 v36 (.bool false)) fun v37 =>
  gd v37 true (pv (some v21)) fun v38 =>
  gd v37 true (valV Pg R (Instr.buildSlice 22 3 ⟨[(0, (.int .i64 0)), (1, (.int .i64 1)), (2, (.int .i64 0))]⟩)) fun v39 =>
  gd v37 true (cal Pg R 18 ⟨[v38, v39]⟩) fun v40 =>
  pv (pickO v37 v40 (.bool false)) fun v41 =>
  R (.returned v41)
theorem F12_den (R : ER) : den Pg R (cd Try.f12 []) (argsEnv []) (kont Pg R Try.f12) = F12 R :=
  have h : ∀ e, den Pg R (cd Try.f12 []) e (kont Pg R Try.f12) = F12 R := fun e => by kernel_rfl
  h _
theorem F12_calls {R : ER} {w : World} (h : F12 R w) : Calls Pg 12 ⟨[]⟩ w R :=
  calls_of_den Try.func12 (by kernel_rfl) (by kernel_rfl) (F12_den R) h
/-! ### 13: inherit_Effective -/
def F13 (R : ER) (x0 : Value) : WP :=
  bx 25 x0 fun v1 =>
  ldN 2 v1 fun v2 =>
  cal Pg R 16 ⟨[v2]⟩ fun v3 =>
  pv (bin .neq v3 (.int .i64 0)) fun v4 =>
  cnd v4 (
   R (.returned (.tuple ⟨[(.slice none 0 0), v3]⟩))) (
   ldN 2 v1 fun v5 =>
  cal Pg R 33 ⟨[v5]⟩ fun v6 =>
  R (.returned (.tuple ⟨[v6, (.int .i64 0)]⟩)))
theorem F13_den (R : ER) (x0 : Value) : den Pg R (cd Try.f13 []) (argsEnv [x0]) (kont Pg R Try.f13) = F13 R x0 :=
  have h : ∀ e, den Pg R (cd Try.f13 []) e (kont Pg R Try.f13) = F13 R (e 0) := fun e => (by kernel_rfl)
  h _
theorem F13_calls {R : ER} {x0 : Value} {w : World} (h : F13 R x0 w) : Calls Pg 13 ⟨[x0]⟩ w R :=
  calls_of_den Try.func13 (by kernel_rfl) (by kernel_rfl) (F13_den R x0) h
/-! ### 14: orpimentref05_Effective -/
def F14 (R : ER) (x0 : Value) : WP :=
  bx 32 x0 fun v1 =>
  ldN 2 v1 fun v2 =>
  cal Pg R 17 ⟨[v2]⟩ fun v3 =>
  pv (bin .neq v3 (.int .i64 0)) fun v4 =>
  cnd v4 (
   R (.returned (.tuple ⟨[(.slice none 0 0), v3]⟩))) (
   ldN 2 v1 fun v5 =>
  cal Pg R 34 ⟨[v5]⟩ fun v6 =>
  R (.returned (.tuple ⟨[v6, (.int .i64 0)]⟩)))
theorem F14_den (R : ER) (x0 : Value) : den Pg R (cd Try.f14 []) (argsEnv [x0]) (kont Pg R Try.f14) = F14 R x0 :=
  have h : ∀ e, den Pg R (cd Try.f14 []) e (kont Pg R Try.f14) = F14 R (e 0) := fun e => (by kernel_rfl)
  h _
theorem F14_calls {R : ER} {x0 : Value} {w : World} (h : F14 R x0 w) : Calls Pg 14 ⟨[x0]⟩ w R :=
  calls_of_den Try.func14 (by kernel_rfl) (by kernel_rfl) (F14_den R x0) h
/-! ### 15: orpimentlaw05_From -/
def F15 (R : ER) (x0 : Value) : WP :=
  bx 25 x0 fun v1 =>
  al Pg 32 fun v2 =>
  pv (faO 0 v1) fun v3 =>
  ld1 v3 fun v4 =>
  pv (faO 1 v1) fun v5 =>
  ld1 v5 fun v6 =>
  pv (bldO [.slice none 0 0, .slice none 0 0] [(0,1, v4), (1,1, v6)]) fun v7 =>
  stN 2 v2 v7 fun _ =>
  ldN 2 v2 fun v8 => R (.returned v8)
theorem F15_den (R : ER) (x0 : Value) : den Pg R (cd Try.f15 []) (argsEnv [x0]) (kont Pg R Try.f15) = F15 R x0 :=
  have h : ∀ e, den Pg R (cd Try.f15 []) e (kont Pg R Try.f15) = F15 R (e 0) := fun e => by kernel_rfl
  h _
theorem F15_calls {R : ER} {x0 : Value} {w : World} (h : F15 R x0 w) : Calls Pg 15 ⟨[x0]⟩ w R :=
  calls_of_den Try.func15 (by kernel_rfl) (by kernel_rfl) (F15_den R x0) h
/-! ### 16: inherit_Check -/
def F16_j4 (R : ER) : WP :=
  R (.returned (.int .i64 0))
theorem F16_j4_ok (R : ER) (e : Env) : den Pg R (cd Try.f16 [1,1,1,1,1,1,1]) e (kont Pg R Try.f16) = (F16_j4 R) := by kernel_rfl
def F16_j7 (R : ER) (k1 : V4) (x4 x27 x28 x29 : Value) : WP :=
  pv (ixS 2 x27 x29) fun v1 =>
  ldN 2 v1 fun v2 =>
  al Pg 39 fun v3 =>
  stN 2 v3 v2 fun _ =>
  ldN 2 v3 fun v4 =>
  valV Pg R (Instr.lookup 72 x4 v4 false) fun v5 =>
  cnd v5 (
   R (.returned (.int .i64 38))) (
   ldN 2 v3 fun v6 =>
  unitV Pg R (Instr.mapUpdate 72 x4 v6 (.bool true)) fun _ =>
  pv (bin .add x29 (.int .i64 1)) fun v7 =>
  k1 x4 x27 x28 v7)
theorem F16_j7_ok (R : ER) (k1 : V4) (e : Env) : den Pg R (cd Try.f16 [1,1,1,1,1,1,0,1,0,0,1,1]) e (setN (inB 0 (setN (kont Pg R Try.f16) (fun e => F16_j4 R))) (fun e => k1 (e 4) (e 27) (e 28) (e 29))) = (F16_j7 R k1 (e 4) (e 27) (e 28) (e 29)) := (by kernel_rfl)
def F16_b1 (R : ER) (k1 : V4) (x4 x27 x28 x29 : Value) : WP :=
  pv (bin .lss x29 x28) fun v8 =>
  cnd v8 (
   F16_j7 R k1 x4 x27 x28 x29) (
   F16_j4 R)
theorem F16_b1_ok (R : ER) (k1 : V4) (e : Env) : den Pg R (cd Try.f16 [1,1,1,1,1,1,0,1,0,0]) e (setN (inB 0 (setN (kont Pg R Try.f16) (fun e => F16_j4 R))) (fun e => k1 (e 4) (e 27) (e 28) (e 29))) = (F16_b1 R k1 (e 4) (e 27) (e 28) (e 29)) := (den_join Pg R 1 (cd Try.f16 [1,1,1,1,1,1,0,1,0,0]) (cd Try.f16 [1,1,1,1,1,1,0,1,0,0,1,1]) e (setN (inB 0 (setN (kont Pg R Try.f16) (fun e => F16_j4 R))) (fun e => k1 (e 4) (e 27) (e 28) (e 29))) (fun e => F16_j7 R k1 (e 4) (e 27) (e 28) (e 29)) _ (by kernel_rfl) (fun e => F16_j7_ok R k1 e) (by kernel_rfl))
noncomputable def F16_l1 (R : ER) (n : Nat) : V4 := Nat.rec (motive := fun _ => V4) (fun _ _ _ _ => fun _ => False) (fun _ ih => fun x4 x27 x28 x29 => F16_b1 R ih x4 x27 x28 x29) n
theorem F16_l1_succ (R : ER) (n : Nat) (x4 x27 x28 x29 : Value) : F16_l1 R (n + 1) x4 x27 x28 x29 = F16_b1 R (F16_l1 R n) x4 x27 x28 x29 := rfl
theorem F16_l1_ok (R : ER) : ∀ (n : Nat) (e : Env), iterL (den Pg R (cd Try.f16 [1,1,1,1,1,1,0,1,0,0])) n e (inB 0 (setN (kont Pg R Try.f16) (fun e => F16_j4 R))) = F16_l1 R n (e 4) (e 27) (e 28) (e 29) :=
  iterL_join (den Pg R (cd Try.f16 [1,1,1,1,1,1,0,1,0,0])) (inB 0 (setN (kont Pg R Try.f16) (fun e => F16_j4 R))) (fun n e => F16_l1 R n (e 4) (e 27) (e 28) (e 29)) (fun _ => rfl) (fun n e => (F16_b1_ok R (F16_l1 R n) e).trans (F16_l1_succ R n (e 4) (e 27) (e 28) (e 29)).symm)
def F16_j6 (R : ER) (x4 x27 x28 x29 : Value) : WP :=
  exN fun n => F16_l1 R n x4 x27 x28 x29
theorem F16_j6_ok (R : ER) (e : Env) : den Pg R (cd Try.f16 [1,1,1,1,1,1,0,1]) e (setN (kont Pg R Try.f16) (fun e => F16_j4 R)) = (F16_j6 R (e 4) (e 27) (e 28) (e 29)) := (den_block Pg R (cd Try.f16 [1,1,1,1,1,1,0,1]) 0 (cd Try.f16 [1,1,1,1,1,1,0,1,0]) e (setN (kont Pg R Try.f16) (fun e => F16_j4 R)) _ (by kernel_rfl) (den_loop Pg R (cd Try.f16 [1,1,1,1,1,1,0,1,0]) (cd Try.f16 [1,1,1,1,1,1,0,1,0,0]) e (inB 0 (setN (kont Pg R Try.f16) (fun e => F16_j4 R))) (fun n e => F16_l1 R n (e 4) (e 27) (e 28) (e 29)) _ (by kernel_rfl) (F16_l1_ok R) (by kernel_rfl)))
def F16_j5 (R : ER) (x1 x4 : Value) : WP :=
  pv (faO 1 x1) fun v9 =>
  ld1 v9 fun v10 =>
  pv (lenS v10) fun v11 =>
  F16_j6 R x4 v10 v11 (.int .i64 0)
theorem F16_j5_ok (R : ER) (e : Env) : den Pg R (cd Try.f16 [1,1,1,1,1,1,0]) e (setN (kont Pg R Try.f16) (fun e => F16_j4 R)) = (F16_j5 R (e 1) (e 4)) := (den_join Pg R 0 (cd Try.f16 [1,1,1,1,1,1,0]) (cd Try.f16 [1,1,1,1,1,1,0,1]) e (setN (kont Pg R Try.f16) (fun e => F16_j4 R)) (fun e => F16_j6 R (e 4) (e 27) (e 28) (e 29)) _ (by kernel_rfl) (fun e => F16_j6_ok R e) (by kernel_rfl))
def F16_j3 (R : ER) (x1 : Value) : WP :=
  valV Pg R (Instr.makeMap 72 none) fun v12 =>
  F16_j5 R x1 v12
theorem F16_j3_ok (R : ER) (e : Env) : den Pg R (cd Try.f16 [1,1,1,1,1]) e (kont Pg R Try.f16) = (F16_j3 R (e 1)) := (den_join Pg R 1 (cd Try.f16 [1,1,1,1,1]) (cd Try.f16 [1,1,1,1,1,1,1]) e (kont Pg R Try.f16) (fun e => F16_j4 R) _ (by kernel_rfl) (fun e => F16_j4_ok R e) (den_join Pg R 0 (pre 1 (cd Try.f16 [1,1,1,1,1])) (cd Try.f16 [1,1,1,1,1,1,0]) e (setN (kont Pg R Try.f16) (fun e => F16_j4 R)) (fun e => F16_j5 R (e 1) (e 4)) _ (by kernel_rfl) (fun e => F16_j5_ok R e) (by kernel_rfl)))
def F16_j2 (R : ER) (x1 : Value) : WP :=
  al Pg 69 fun v13 =>
  st1 v13 (.func (.func 38) ⟨[]⟩ ⟨[x1]⟩) fun _ =>
  pv (faO 1 x1) fun v14 =>
  ld1 v14 fun v15 =>
  cal Pg R 39 ⟨[v15, (.func (.func 40) ⟨[]⟩ ⟨[v13]⟩)]⟩ fun v16 =>
  cnd v16 (
   R (.returned (.int .i64 34))) (
   F16_j3 R x1)
theorem F16_j2_ok (R : ER) (e : Env) : den Pg R (cd Try.f16 [1,1,1]) e (kont Pg R Try.f16) = (F16_j2 R (e 1)) := (den_join Pg R 1 (cd Try.f16 [1,1,1]) (cd Try.f16 [1,1,1,1,1]) e (kont Pg R Try.f16) (fun e => F16_j3 R (e 1)) _ (by kernel_rfl) (fun e => F16_j3_ok R e) (by kernel_rfl))
def F16_j1 (R : ER) (x1 : Value) : WP :=
  pv (faO 0 x1) fun v17 =>
  ld1 v17 fun v18 =>
  cal Pg R 35 ⟨[v18, (.func (.func 36) ⟨[]⟩ ⟨[]⟩)]⟩ fun v19 =>
  cnd v19 (
   R (.returned (.int .i64 34))) (
   F16_j2 R x1)
theorem F16_j1_ok (R : ER) (e : Env) : den Pg R (cd Try.f16 [1,1]) e (kont Pg R Try.f16) = (F16_j1 R (e 1)) := (den_join Pg R 0 (cd Try.f16 [1,1]) (cd Try.f16 [1,1,1]) e (kont Pg R Try.f16) (fun e => F16_j2 R (e 1)) _ (by kernel_rfl) (fun e => F16_j2_ok R e) (by kernel_rfl))
def F16 (R : ER) (x0 : Value) : WP :=
  bx 25 x0 fun v20 =>
  pv (faO 0 v20) fun v21 =>
  ld1 v21 fun v22 =>
  pv (lenS v22) fun v23 =>
  pv (bin .gtr v23 (.int .i64 256)) fun v24 =>
  gd v24 false (pv (faO 1 v20)) fun v25 =>
  gd v24 false (ld1 v25) fun v26 =>
  gd v24 false (pv (lenS v26)) fun v27 =>
  gd v24 false (pv (bin .gtr v27 (.int .i64 2000))) fun v28 =>
  pv (pickO v24 (.bool true) v28) fun v29 =>
  cnd v29 (
   R (.returned (.int .i64 18))) (
   F16_j1 R v20)
theorem F16_den (R : ER) (x0 : Value) : den Pg R (cd Try.f16 []) (argsEnv [x0]) (kont Pg R Try.f16) = F16 R x0 :=
  have h : ∀ e, den Pg R (cd Try.f16 []) e (kont Pg R Try.f16) = F16 R (e 0) := fun e => (den_join Pg R 1 (cd Try.f16 []) (cd Try.f16 [1,1]) e (kont Pg R Try.f16) (fun e => F16_j1 R (e 1)) _ (by kernel_rfl) (fun e => F16_j1_ok R e) (by kernel_rfl))
  h _
theorem F16_calls {R : ER} {x0 : Value} {w : World} (h : F16 R x0 w) : Calls Pg 16 ⟨[x0]⟩ w R :=
  calls_of_den Try.func16 (by kernel_rfl) (by kernel_rfl) (F16_den R x0) h
/-! ### 17: orpimentref05_Check -/
def F17_j4 (R : ER) : WP :=
  R (.returned (.int .i64 0))
theorem F17_j4_ok (R : ER) (e : Env) : den Pg R (cd Try.f17 [1,1,1,1,1]) e (kont Pg R Try.f17) = (F17_j4 R) := by kernel_rfl
def F17_j7 (R : ER) (k1 : V2) (x1 x5 : Value) : WP :=
  drewV (
  pv (faO 1 x1) fun v1 =>
  ld1 v1 fun v2 =>
  pv (slS 2 v2 none (some x5)) fun v3 =>
  pv (faO 1 x1) fun v4 =>
  ld1 v4 fun v5 =>
  pv (ixS 2 v5 x5) fun v6 =>
  ldN 2 v6 fun v7 =>
  mem fun w9 => cal Pg noR 42 ⟨[v3, v7]⟩ fun v8 =>
  cnd v8 (
   R (.returned (.int .i64 38))) (
   pv (bin .add x5 (.int .i64 1)) fun v10 =>
  k1 x1 v10))
theorem F17_j7_ok (R : ER) (k1 : V2) (e : Env) : den Pg R (cd Try.f17 [1,1,1,1,0,1,0,0,1]) e (setN (inB 4 (setN (kont Pg R Try.f17) (fun e => F17_j4 R))) (fun e => k1 (e 1) (e 5))) = (F17_j7 R k1 (e 1) (e 5)) := (by kernel_rfl)
def F17_b1 (R : ER) (k1 : V2) (x1 x5 : Value) : WP :=
  pv (faO 1 x1) fun v11 =>
  ld1 v11 fun v12 =>
  pv (lenS v12) fun v13 =>
  pv (bin .lss x5 v13) fun v14 =>
  cnd v14 (
   F17_j7 R k1 x1 x5) (
   F17_j4 R)
theorem F17_b1_ok (R : ER) (k1 : V2) (e : Env) : den Pg R (cd Try.f17 [1,1,1,1,0,1,0,0]) e (setN (inB 4 (setN (kont Pg R Try.f17) (fun e => F17_j4 R))) (fun e => k1 (e 1) (e 5))) = (F17_b1 R k1 (e 1) (e 5)) := (den_join Pg R 0 (cd Try.f17 [1,1,1,1,0,1,0,0]) (cd Try.f17 [1,1,1,1,0,1,0,0,1]) e (setN (inB 4 (setN (kont Pg R Try.f17) (fun e => F17_j4 R))) (fun e => k1 (e 1) (e 5))) (fun e => F17_j7 R k1 (e 1) (e 5)) _ (by kernel_rfl) (fun e => F17_j7_ok R k1 e) (by kernel_rfl))
noncomputable def F17_l1 (R : ER) (n : Nat) : V2 := Nat.rec (motive := fun _ => V2) (fun _ _ => fun _ => False) (fun _ ih => fun x1 x5 => F17_b1 R ih x1 x5) n
theorem F17_l1_succ (R : ER) (n : Nat) (x1 x5 : Value) : F17_l1 R (n + 1) x1 x5 = F17_b1 R (F17_l1 R n) x1 x5 := rfl
theorem F17_l1_ok (R : ER) : ∀ (n : Nat) (e : Env), iterL (den Pg R (cd Try.f17 [1,1,1,1,0,1,0,0])) n e (inB 4 (setN (kont Pg R Try.f17) (fun e => F17_j4 R))) = F17_l1 R n (e 1) (e 5) :=
  iterL_join (den Pg R (cd Try.f17 [1,1,1,1,0,1,0,0])) (inB 4 (setN (kont Pg R Try.f17) (fun e => F17_j4 R))) (fun n e => F17_l1 R n (e 1) (e 5)) (fun _ => rfl) (fun n e => (F17_b1_ok R (F17_l1 R n) e).trans (F17_l1_succ R n (e 1) (e 5)).symm)
def F17_j6 (R : ER) (x1 x5 : Value) : WP :=
  exN fun n => F17_l1 R n x1 x5
theorem F17_j6_ok (R : ER) (e : Env) : den Pg R (cd Try.f17 [1,1,1,1,0,1]) e (setN (kont Pg R Try.f17) (fun e => F17_j4 R)) = (F17_j6 R (e 1) (e 5)) := (den_block Pg R (cd Try.f17 [1,1,1,1,0,1]) 4 (cd Try.f17 [1,1,1,1,0,1,0]) e (setN (kont Pg R Try.f17) (fun e => F17_j4 R)) _ (by kernel_rfl) (den_loop Pg R (cd Try.f17 [1,1,1,1,0,1,0]) (cd Try.f17 [1,1,1,1,0,1,0,0]) e (inB 4 (setN (kont Pg R Try.f17) (fun e => F17_j4 R))) (fun n e => F17_l1 R n (e 1) (e 5)) _ (by kernel_rfl) (F17_l1_ok R) (by kernel_rfl)))
def F17_j5 (R : ER) (x1 : Value) : WP :=
  F17_j6 R x1 (.int .i64 0)
theorem F17_j5_ok (R : ER) (e : Env) : den Pg R (cd Try.f17 [1,1,1,1,0]) e (setN (kont Pg R Try.f17) (fun e => F17_j4 R)) = (F17_j5 R (e 1)) := (den_join Pg R 0 (cd Try.f17 [1,1,1,1,0]) (cd Try.f17 [1,1,1,1,0,1]) e (setN (kont Pg R Try.f17) (fun e => F17_j4 R)) (fun e => F17_j6 R (e 1) (e 5)) _ (by kernel_rfl) (fun e => F17_j6_ok R e) (by kernel_rfl))
def F17_j3 (R : ER) (x1 : Value) : WP :=
  F17_j5 R x1
theorem F17_j3_ok (R : ER) (e : Env) : den Pg R (cd Try.f17 [1,1,1,1]) e (kont Pg R Try.f17) = (F17_j3 R (e 1)) := (den_join Pg R 0 (cd Try.f17 [1,1,1,1]) (cd Try.f17 [1,1,1,1,1]) e (kont Pg R Try.f17) (fun e => F17_j4 R) _ (by kernel_rfl) (fun e => F17_j4_ok R e) (den_conv Pg R (pre 0 (cd Try.f17 [1,1,1,1])) (cd Try.f17 [1,1,1,1,0]) e (setN (kont Pg R Try.f17) (fun e => F17_j4 R)) _ (by kernel_rfl) (F17_j5_ok R e)))
def F17_j10 (R : ER) (k1 : V2) (x1 x4 : Value) : WP :=
  drewV (
  ldN 2 x1 fun v15 =>
  pv (faO 1 x1) fun v16 =>
  ld1 v16 fun v17 =>
  pv (ixS 2 v17 x4) fun v18 =>
  pv (faO 0 v18) fun v19 =>
  ld1 v19 fun v20 =>
  mem fun w22 => cal Pg noR 41 ⟨[v15, v20]⟩ fun v21 =>
  pv (unO .not v21) fun v23 =>
  gd v23 false (ldN 2 x1) fun v24 =>
  gd v23 false (pv (faO 1 x1)) fun v25 =>
  gd v23 false (ld1 v25) fun v26 =>
  gd v23 false (pv (some x4)) fun v27 =>
  gd v23 false (pv (ixS 2 v26 v27)) fun v28 =>
  gd v23 false (pv (faO 1 v28)) fun v29 =>
  gd v23 false (ld1 v29) fun v30 =>
  mem fun w32 => gd v23 false (cal Pg noR 41 ⟨[v24, v30]⟩) fun v31 =>
  gd v23 false (pv (unO .not v31)) fun v33 =>
  pv (pickO v23 (.bool true) v33) fun v34 =>
  cnd v34 (
   R (.returned (.int .i64 34))) (
   pv (bin .add x4 (.int .i64 1)) fun v35 =>
  k1 x1 v35))
theorem F17_j10_ok (R : ER) (k1 : V2) (e : Env) : den Pg R (cd Try.f17 [1,1,1,0,1,0,0,1]) e (setN (inB 2 (setN (kont Pg R Try.f17) (fun e => F17_j3 R (e 1)))) (fun e => k1 (e 1) (e 4))) = (F17_j10 R k1 (e 1) (e 4)) := (by kernel_rfl)
def F17_b2 (R : ER) (k1 : V2) (x1 x4 : Value) : WP :=
  pv (faO 1 x1) fun v36 =>
  ld1 v36 fun v37 =>
  pv (lenS v37) fun v38 =>
  pv (bin .lss x4 v38) fun v39 =>
  cnd v39 (
   F17_j10 R k1 x1 x4) (
   F17_j3 R x1)
theorem F17_b2_ok (R : ER) (k1 : V2) (e : Env) : den Pg R (cd Try.f17 [1,1,1,0,1,0,0]) e (setN (inB 2 (setN (kont Pg R Try.f17) (fun e => F17_j3 R (e 1)))) (fun e => k1 (e 1) (e 4))) = (F17_b2 R k1 (e 1) (e 4)) := (den_join Pg R 0 (cd Try.f17 [1,1,1,0,1,0,0]) (cd Try.f17 [1,1,1,0,1,0,0,1]) e (setN (inB 2 (setN (kont Pg R Try.f17) (fun e => F17_j3 R (e 1)))) (fun e => k1 (e 1) (e 4))) (fun e => F17_j10 R k1 (e 1) (e 4)) _ (by kernel_rfl) (fun e => F17_j10_ok R k1 e) (by kernel_rfl))
noncomputable def F17_l2 (R : ER) (n : Nat) : V2 := Nat.rec (motive := fun _ => V2) (fun _ _ => fun _ => False) (fun _ ih => fun x1 x4 => F17_b2 R ih x1 x4) n
theorem F17_l2_succ (R : ER) (n : Nat) (x1 x4 : Value) : F17_l2 R (n + 1) x1 x4 = F17_b2 R (F17_l2 R n) x1 x4 := rfl
theorem F17_l2_ok (R : ER) : ∀ (n : Nat) (e : Env), iterL (den Pg R (cd Try.f17 [1,1,1,0,1,0,0])) n e (inB 2 (setN (kont Pg R Try.f17) (fun e => F17_j3 R (e 1)))) = F17_l2 R n (e 1) (e 4) :=
  iterL_join (den Pg R (cd Try.f17 [1,1,1,0,1,0,0])) (inB 2 (setN (kont Pg R Try.f17) (fun e => F17_j3 R (e 1)))) (fun n e => F17_l2 R n (e 1) (e 4)) (fun _ => rfl) (fun n e => (F17_b2_ok R (F17_l2 R n) e).trans (F17_l2_succ R n (e 1) (e 4)).symm)
def F17_j9 (R : ER) (x1 x4 : Value) : WP :=
  exN fun n => F17_l2 R n x1 x4
theorem F17_j9_ok (R : ER) (e : Env) : den Pg R (cd Try.f17 [1,1,1,0,1]) e (setN (kont Pg R Try.f17) (fun e => F17_j3 R (e 1))) = (F17_j9 R (e 1) (e 4)) := (den_block Pg R (cd Try.f17 [1,1,1,0,1]) 2 (cd Try.f17 [1,1,1,0,1,0]) e (setN (kont Pg R Try.f17) (fun e => F17_j3 R (e 1))) _ (by kernel_rfl) (den_loop Pg R (cd Try.f17 [1,1,1,0,1,0]) (cd Try.f17 [1,1,1,0,1,0,0]) e (inB 2 (setN (kont Pg R Try.f17) (fun e => F17_j3 R (e 1)))) (fun n e => F17_l2 R n (e 1) (e 4)) _ (by kernel_rfl) (F17_l2_ok R) (by kernel_rfl)))
def F17_j8 (R : ER) (x1 : Value) : WP :=
  F17_j9 R x1 (.int .i64 0)
theorem F17_j8_ok (R : ER) (e : Env) : den Pg R (cd Try.f17 [1,1,1,0]) e (setN (kont Pg R Try.f17) (fun e => F17_j3 R (e 1))) = (F17_j8 R (e 1)) := (den_join Pg R 0 (cd Try.f17 [1,1,1,0]) (cd Try.f17 [1,1,1,0,1]) e (setN (kont Pg R Try.f17) (fun e => F17_j3 R (e 1))) (fun e => F17_j9 R (e 1) (e 4)) _ (by kernel_rfl) (fun e => F17_j9_ok R e) (by kernel_rfl))
def F17_j2 (R : ER) (x1 : Value) : WP :=
  F17_j8 R x1
theorem F17_j2_ok (R : ER) (e : Env) : den Pg R (cd Try.f17 [1,1,1]) e (kont Pg R Try.f17) = (F17_j2 R (e 1)) := (den_join Pg R 0 (cd Try.f17 [1,1,1]) (cd Try.f17 [1,1,1,1]) e (kont Pg R Try.f17) (fun e => F17_j3 R (e 1)) _ (by kernel_rfl) (fun e => F17_j3_ok R e) (den_conv Pg R (pre 0 (cd Try.f17 [1,1,1])) (cd Try.f17 [1,1,1,0]) e (setN (kont Pg R Try.f17) (fun e => F17_j3 R (e 1))) _ (by kernel_rfl) (F17_j8_ok R e)))
def F17_j13 (R : ER) (k1 : V2) (x1 x3 : Value) : WP :=
  pv (faO 0 x1) fun v40 =>
  ld1 v40 fun v41 =>
  pv (ixS 1 v41 x3) fun v42 =>
  ld1 v42 fun v43 =>
  pv (bin .lss v43 (.int .i64 0)) fun v44 =>
  gd v44 false (pv (faO 0 x1)) fun v45 =>
  gd v44 false (ld1 v45) fun v46 =>
  gd v44 false (pv (some x3)) fun v47 =>
  gd v44 false (pv (ixS 1 v46 v47)) fun v48 =>
  gd v44 false (ld1 v48) fun v49 =>
  gd v44 false (pv (bin .gtr v49 (.int .i64 255))) fun v50 =>
  pv (pickO v44 (.bool true) v50) fun v51 =>
  cnd v51 (
   R (.returned (.int .i64 34))) (
   pv (bin .add x3 (.int .i64 1)) fun v52 =>
  k1 x1 v52)
theorem F17_j13_ok (R : ER) (k1 : V2) (e : Env) : den Pg R (cd Try.f17 [1,1,0,1,0,0,1]) e (setN (inB 0 (setN (kont Pg R Try.f17) (fun e => F17_j2 R (e 1)))) (fun e => k1 (e 1) (e 3))) = (F17_j13 R k1 (e 1) (e 3)) := (by kernel_rfl)
def F17_b3 (R : ER) (k1 : V2) (x1 x3 : Value) : WP :=
  pv (faO 0 x1) fun v53 =>
  ld1 v53 fun v54 =>
  pv (lenS v54) fun v55 =>
  pv (bin .lss x3 v55) fun v56 =>
  cnd v56 (
   F17_j13 R k1 x1 x3) (
   F17_j2 R x1)
theorem F17_b3_ok (R : ER) (k1 : V2) (e : Env) : den Pg R (cd Try.f17 [1,1,0,1,0,0]) e (setN (inB 0 (setN (kont Pg R Try.f17) (fun e => F17_j2 R (e 1)))) (fun e => k1 (e 1) (e 3))) = (F17_b3 R k1 (e 1) (e 3)) := (den_join Pg R 0 (cd Try.f17 [1,1,0,1,0,0]) (cd Try.f17 [1,1,0,1,0,0,1]) e (setN (inB 0 (setN (kont Pg R Try.f17) (fun e => F17_j2 R (e 1)))) (fun e => k1 (e 1) (e 3))) (fun e => F17_j13 R k1 (e 1) (e 3)) _ (by kernel_rfl) (fun e => F17_j13_ok R k1 e) (by kernel_rfl))
noncomputable def F17_l3 (R : ER) (n : Nat) : V2 := Nat.rec (motive := fun _ => V2) (fun _ _ => fun _ => False) (fun _ ih => fun x1 x3 => F17_b3 R ih x1 x3) n
theorem F17_l3_succ (R : ER) (n : Nat) (x1 x3 : Value) : F17_l3 R (n + 1) x1 x3 = F17_b3 R (F17_l3 R n) x1 x3 := rfl
theorem F17_l3_ok (R : ER) : ∀ (n : Nat) (e : Env), iterL (den Pg R (cd Try.f17 [1,1,0,1,0,0])) n e (inB 0 (setN (kont Pg R Try.f17) (fun e => F17_j2 R (e 1)))) = F17_l3 R n (e 1) (e 3) :=
  iterL_join (den Pg R (cd Try.f17 [1,1,0,1,0,0])) (inB 0 (setN (kont Pg R Try.f17) (fun e => F17_j2 R (e 1)))) (fun n e => F17_l3 R n (e 1) (e 3)) (fun _ => rfl) (fun n e => (F17_b3_ok R (F17_l3 R n) e).trans (F17_l3_succ R n (e 1) (e 3)).symm)
def F17_j12 (R : ER) (x1 x3 : Value) : WP :=
  exN fun n => F17_l3 R n x1 x3
theorem F17_j12_ok (R : ER) (e : Env) : den Pg R (cd Try.f17 [1,1,0,1]) e (setN (kont Pg R Try.f17) (fun e => F17_j2 R (e 1))) = (F17_j12 R (e 1) (e 3)) := (den_block Pg R (cd Try.f17 [1,1,0,1]) 0 (cd Try.f17 [1,1,0,1,0]) e (setN (kont Pg R Try.f17) (fun e => F17_j2 R (e 1))) _ (by kernel_rfl) (den_loop Pg R (cd Try.f17 [1,1,0,1,0]) (cd Try.f17 [1,1,0,1,0,0]) e (inB 0 (setN (kont Pg R Try.f17) (fun e => F17_j2 R (e 1)))) (fun n e => F17_l3 R n (e 1) (e 3)) _ (by kernel_rfl) (F17_l3_ok R) (by kernel_rfl)))
def F17_j11 (R : ER) (x1 : Value) : WP :=
  F17_j12 R x1 (.int .i64 0)
theorem F17_j11_ok (R : ER) (e : Env) : den Pg R (cd Try.f17 [1,1,0]) e (setN (kont Pg R Try.f17) (fun e => F17_j2 R (e 1))) = (F17_j11 R (e 1)) := (den_join Pg R 0 (cd Try.f17 [1,1,0]) (cd Try.f17 [1,1,0,1]) e (setN (kont Pg R Try.f17) (fun e => F17_j2 R (e 1))) (fun e => F17_j12 R (e 1) (e 3)) _ (by kernel_rfl) (fun e => F17_j12_ok R e) (by kernel_rfl))
def F17_j1 (R : ER) (x1 : Value) : WP :=
  F17_j11 R x1
theorem F17_j1_ok (R : ER) (e : Env) : den Pg R (cd Try.f17 [1,1]) e (kont Pg R Try.f17) = (F17_j1 R (e 1)) := (den_join Pg R 0 (cd Try.f17 [1,1]) (cd Try.f17 [1,1,1]) e (kont Pg R Try.f17) (fun e => F17_j2 R (e 1)) _ (by kernel_rfl) (fun e => F17_j2_ok R e) (den_conv Pg R (pre 0 (cd Try.f17 [1,1])) (cd Try.f17 [1,1,0]) e (setN (kont Pg R Try.f17) (fun e => F17_j2 R (e 1))) _ (by kernel_rfl) (F17_j11_ok R e)))
def F17 (R : ER) (x0 : Value) : WP :=
  bx 32 x0 fun v57 =>
  pv (faO 0 v57) fun v58 =>
  ld1 v58 fun v59 =>
  pv (lenS v59) fun v60 =>
  pv (bin .gtr v60 (.int .i64 256)) fun v61 =>
  gd v61 false (pv (faO 1 v57)) fun v62 =>
  gd v61 false (ld1 v62) fun v63 =>
  gd v61 false (pv (lenS v63)) fun v64 =>
  gd v61 false (pv (bin .gtr v64 (.int .i64 2000))) fun v65 =>
  pv (pickO v61 (.bool true) v65) fun v66 =>
  cnd v66 (
   R (.returned (.int .i64 18))) (
   F17_j1 R v57)
theorem F17_den (R : ER) (x0 : Value) : den Pg R (cd Try.f17 []) (argsEnv [x0]) (kont Pg R Try.f17) = F17 R x0 :=
  have h : ∀ e, den Pg R (cd Try.f17 []) e (kont Pg R Try.f17) = F17 R (e 0) := fun e => (den_join Pg R 1 (cd Try.f17 []) (cd Try.f17 [1,1]) e (kont Pg R Try.f17) (fun e => F17_j1 R (e 1)) _ (by kernel_rfl) (fun e => F17_j1_ok R e) (by kernel_rfl))
  h _
theorem F17_calls {R : ER} {x0 : Value} {w : World} (h : F17 R x0 w) : Calls Pg 17 ⟨[x0]⟩ w R :=
  calls_of_den Try.func17 (by kernel_rfl) (by kernel_rfl) (F17_den R x0) h
/-! ### 18: orpimentlaw02_Equal -/
def F18_j2 (R : ER) : WP :=
  R (.returned (.bool true))
theorem F18_j2_ok (R : ER) (e : Env) : den Pg R (cd Try.f18 [1,1,1]) e (kont Pg R Try.f18) = (F18_j2 R) := by kernel_rfl
def F18_j5 (R : ER) (k1 : V3) (x0 x1 x5 : Value) : WP :=
  drewV (
  pv (ixS 1 x0 x5) fun v1 =>
  ld1 v1 fun v2 =>
  pv (ixS 1 x1 x5) fun v3 =>
  ld1 v3 fun v4 =>
  pv (bin .neq v2 v4) fun v5 =>
  cnd v5 (
   R (.returned (.bool false))) (
   pv (bin .add x5 (.int .i64 1)) fun v6 =>
  k1 x0 x1 v6))
theorem F18_j5_ok (R : ER) (k1 : V3) (e : Env) : den Pg R (cd Try.f18 [1,1,0,1,0,0,1]) e (setN (inB 0 (setN (kont Pg R Try.f18) (fun e => F18_j2 R))) (fun e => k1 (e 0) (e 1) (e 5))) = (F18_j5 R k1 (e 0) (e 1) (e 5)) := (by kernel_rfl)
def F18_b1 (R : ER) (k1 : V3) (x0 x1 x5 : Value) : WP :=
  pv (lenS x0) fun v7 =>
  pv (bin .lss x5 v7) fun v8 =>
  cnd v8 (
   F18_j5 R k1 x0 x1 x5) (
   F18_j2 R)
theorem F18_b1_ok (R : ER) (k1 : V3) (e : Env) : den Pg R (cd Try.f18 [1,1,0,1,0,0]) e (setN (inB 0 (setN (kont Pg R Try.f18) (fun e => F18_j2 R))) (fun e => k1 (e 0) (e 1) (e 5))) = (F18_b1 R k1 (e 0) (e 1) (e 5)) := (den_join Pg R 0 (cd Try.f18 [1,1,0,1,0,0]) (cd Try.f18 [1,1,0,1,0,0,1]) e (setN (inB 0 (setN (kont Pg R Try.f18) (fun e => F18_j2 R))) (fun e => k1 (e 0) (e 1) (e 5))) (fun e => F18_j5 R k1 (e 0) (e 1) (e 5)) _ (by kernel_rfl) (fun e => F18_j5_ok R k1 e) (by kernel_rfl))
noncomputable def F18_l1 (R : ER) (n : Nat) : V3 := Nat.rec (motive := fun _ => V3) (fun _ _ _ => fun _ => False) (fun _ ih => fun x0 x1 x5 => F18_b1 R ih x0 x1 x5) n
theorem F18_l1_succ (R : ER) (n : Nat) (x0 x1 x5 : Value) : F18_l1 R (n + 1) x0 x1 x5 = F18_b1 R (F18_l1 R n) x0 x1 x5 := rfl
theorem F18_l1_ok (R : ER) : ∀ (n : Nat) (e : Env), iterL (den Pg R (cd Try.f18 [1,1,0,1,0,0])) n e (inB 0 (setN (kont Pg R Try.f18) (fun e => F18_j2 R))) = F18_l1 R n (e 0) (e 1) (e 5) :=
  iterL_join (den Pg R (cd Try.f18 [1,1,0,1,0,0])) (inB 0 (setN (kont Pg R Try.f18) (fun e => F18_j2 R))) (fun n e => F18_l1 R n (e 0) (e 1) (e 5)) (fun _ => rfl) (fun n e => (F18_b1_ok R (F18_l1 R n) e).trans (F18_l1_succ R n (e 0) (e 1) (e 5)).symm)
def F18_j4 (R : ER) (x0 x1 x5 : Value) : WP :=
  exN fun n => F18_l1 R n x0 x1 x5
theorem F18_j4_ok (R : ER) (e : Env) : den Pg R (cd Try.f18 [1,1,0,1]) e (setN (kont Pg R Try.f18) (fun e => F18_j2 R)) = (F18_j4 R (e 0) (e 1) (e 5)) := (den_block Pg R (cd Try.f18 [1,1,0,1]) 0 (cd Try.f18 [1,1,0,1,0]) e (setN (kont Pg R Try.f18) (fun e => F18_j2 R)) _ (by kernel_rfl) (den_loop Pg R (cd Try.f18 [1,1,0,1,0]) (cd Try.f18 [1,1,0,1,0,0]) e (inB 0 (setN (kont Pg R Try.f18) (fun e => F18_j2 R))) (fun n e => F18_l1 R n (e 0) (e 1) (e 5)) _ (by kernel_rfl) (F18_l1_ok R) (by kernel_rfl)))
def F18_j3 (R : ER) (x0 x1 : Value) : WP :=
  F18_j4 R x0 x1 (.int .i64 0)
theorem F18_j3_ok (R : ER) (e : Env) : den Pg R (cd Try.f18 [1,1,0]) e (setN (kont Pg R Try.f18) (fun e => F18_j2 R)) = (F18_j3 R (e 0) (e 1)) := (den_join Pg R 0 (cd Try.f18 [1,1,0]) (cd Try.f18 [1,1,0,1]) e (setN (kont Pg R Try.f18) (fun e => F18_j2 R)) (fun e => F18_j4 R (e 0) (e 1) (e 5)) _ (by kernel_rfl) (fun e => F18_j4_ok R e) (by kernel_rfl))
def F18_j1 (R : ER) (x0 x1 : Value) : WP :=
  F18_j3 R x0 x1
theorem F18_j1_ok (R : ER) (e : Env) : den Pg R (cd Try.f18 [1,1]) e (kont Pg R Try.f18) = (F18_j1 R (e 0) (e 1)) := (den_join Pg R 0 (cd Try.f18 [1,1]) (cd Try.f18 [1,1,1]) e (kont Pg R Try.f18) (fun e => F18_j2 R) _ (by kernel_rfl) (fun e => F18_j2_ok R e) (den_conv Pg R (pre 0 (cd Try.f18 [1,1])) (cd Try.f18 [1,1,0]) e (setN (kont Pg R Try.f18) (fun e => F18_j2 R)) _ (by kernel_rfl) (F18_j3_ok R e)))
def F18 (R : ER) (x0 x1 : Value) : WP :=
  pv (lenS x0) fun v9 =>
  pv (lenS x1) fun v10 =>
  pv (bin .neq v9 v10) fun v11 =>
  cnd v11 (
   R (.returned (.bool false))) (
   F18_j1 R x0 x1)
theorem F18_den (R : ER) (x0 x1 : Value) : den Pg R (cd Try.f18 []) (argsEnv [x0, x1]) (kont Pg R Try.f18) = F18 R x0 x1 :=
  have h : ∀ e, den Pg R (cd Try.f18 []) e (kont Pg R Try.f18) = F18 R (e 0) (e 1) := fun e => (den_join Pg R 1 (cd Try.f18 []) (cd Try.f18 [1,1]) e (kont Pg R Try.f18) (fun e => F18_j1 R (e 0) (e 1)) _ (by kernel_rfl) (fun e => F18_j1_ok R e) (by kernel_rfl))
  h _
theorem F18_calls {R : ER} {x0 x1 : Value} {w : World} (h : F18 R x0 x1 w) : Calls Pg 18 ⟨[x0, x1]⟩ w R :=
  calls_of_den Try.func18 (by kernel_rfl) (by kernel_rfl) (F18_den R x0 x1) h
/-! ### 19: inherit_Reason -/
def F19_j3 (R : ER) (x2 x8 x9 : Value) : WP :=
  drewV (
  ldN 2 x2 fun v1 =>
  pv (ixS 1 x8 x9) fun v2 =>
  ld1 v2 fun v3 =>
  allW [
  (mem fun w5 => valV Pg noR (Instr.buildSlice 22 1 ⟨[(0, x9)]⟩) fun v4 =>
   rd1 v2 v3 <|
   rdN 2 x2 v1 <|
   mem fun w7 => cal Pg noR 46 ⟨[v1]⟩ fun v6 =>
   rd1 v2 v3 <|
   mem fun w9 => cal Pg noR 45 ⟨[v4, v6, x8, v3]⟩ fun v8 =>
   R (.returned (.tuple ⟨[v8, (.int .i64 0)]⟩))),
  (mem fun w11 => cal Pg noR 46 ⟨[v1]⟩ fun v10 =>
   rd1 v2 v3 <|
   mem fun w13 => valV Pg noR (Instr.buildSlice 22 1 ⟨[(0, x9)]⟩) fun v12 =>
   rd1 v2 v3 <|
   rdN 2 x2 v1 <|
   mem fun w15 => cal Pg noR 45 ⟨[v12, v10, x8, v3]⟩ fun v14 =>
   R (.returned (.tuple ⟨[v14, (.int .i64 0)]⟩)))])
theorem F19_j3_ok (R : ER) (e : Env) : den Pg R (cd Try.f19 [1,1,1,1,1,1]) e (kont Pg R Try.f19) = (F19_j3 R (e 2) (e 8) (e 9)) := by kernel_rfl
def F19_j7 (R : ER) (k1 : V7) (x2 x7 x8 x9 x36 x37 x38 : Value) : WP :=
  pv (bin .add x38 (.int .i64 1)) fun v16 =>
  k1 x2 x7 x8 x9 x36 x37 v16
theorem F19_j7_ok (R : ER) (k1 : V7) (e : Env) : den Pg R (cd Try.f19 [1,1,1,1,1,0,1,0,0,1,1,1]) e (setN (inB 0 (setN (kont Pg R Try.f19) (fun e => F19_j3 R (e 2) (e 8) (e 9)))) (fun e => k1 (e 2) (e 7) (e 8) (e 9) (e 36) (e 37) (e 38))) = (F19_j7 R k1 (e 2) (e 7) (e 8) (e 9) (e 36) (e 37) (e 38)) := by kernel_rfl
def F19_j8 (R : ER) (k1 : V7) (x2 x7 x8 x9 x36 x37 x38 : Value) : WP :=
  pv (ixS 1 x36 x38) fun v17 =>
  ld1 v17 fun v18 =>
  pv (bin .geq v18 (.int .i64 0)) fun v19 =>
  gd v19 true (pv (faO 0 x2)) fun v20 =>
  gd v19 true (ld1 v20) fun v21 =>
  gd v19 true (pv (some x38)) fun v22 =>
  gd v19 true (pv (ixS 1 v21 v22)) fun v23 =>
  gd v19 true (ld1 v23) fun v24 =>
  gd v19 true (pv (some x7)) fun v25 =>
  gd v19 true (pv (bin .eql v24 v25)) fun v26 =>
  pv (pickO v19 v26 (.bool false)) fun v27 =>
  gd v27 true (pv (faO 0 x2)) fun v28 =>
  gd v27 true (ld1 v28) fun v29 =>
  gd v27 true (pv (some x9)) fun v30 =>
  gd v27 true (pv (ixS 1 v29 v30)) fun v31 =>
  gd v27 true (ld1 v31) fun v32 =>
  gd v27 true (pv (some x7)) fun v33 =>
  gd v27 true (pv (bin .neq v32 v33)) fun v34 =>
  gd v27 true (pv (some v34)) fun v35 =>
  gd v35 false (pv (some v18)) fun v36 =>
  gd v35 false (pv (some x8)) fun v37 =>
  gd v35 false (pv (some x9)) fun v38 =>
  gd v35 false (pv (ixS 1 v37 v38)) fun v39 =>
  gd v35 false (ld1 v39) fun v40 =>
  gd v35 false (pv (bin .lss v36 v40)) fun v41 =>
  gd v27 true (pv (pickO v35 (.bool true) v41)) fun v42 =>
  gd v27 true (pv (some v42)) fun v43 =>
  gd v43 false (pv (some v18)) fun v44 =>
  gd v43 false (pv (some x8)) fun v45 =>
  gd v43 false (pv (some x9)) fun v46 =>
  gd v43 false (pv (ixS 1 v45 v46)) fun v47 =>
  gd v43 false (ld1 v47) fun v48 =>
  gd v43 false (pv (bin .eql v44 v48)) fun v49 =>
  gd v43 false (pv (some v49)) fun v50 =>
  gd v50 true (pv (some x38)) fun v51 =>
  gd v50 true (pv (some x9)) fun v52 =>
  gd v50 true (pv (bin .lss v51 v52)) fun v53 =>
  gd v43 false (pv (pickO v50 v53 (.bool false))) fun v54 =>
  gd v27 true (pv (pickO v43 (.bool true) v54)) fun v55 =>
  pv (pickO v27 v55 (.bool false)) fun v56 =>
  cnd v56 (
   F19_j7 R k1 x2 x7 x8 x38 x36 x37 x38) (
   F19_j7 R k1 x2 x7 x8 x9 x36 x37 x38)
theorem F19_j8_ok (R : ER) (k1 : V7) (e : Env) : den Pg R (cd Try.f19 [1,1,1,1,1,0,1,0,0,1,1,0]) e (setN (setN (inB 0 (setN (kont Pg R Try.f19) (fun e => F19_j3 R (e 2) (e 8) (e 9)))) (fun e => k1 (e 2) (e 7) (e 8) (e 9) (e 36) (e 37) (e 38))) (fun e => F19_j7 R k1 (e 2) (e 7) (e 8) (e 9) (e 36) (e 37) (e 38))) = (F19_j8 R k1 (e 2) (e 7) (e 8) (e 9) (e 36) (e 37) (e 38)) := (den_block Pg R (cd Try.f19 [1,1,1,1,1,0,1,0,0,1,1,0]) 1 (cd Try.f19 [1,1,1,1,1,0,1,0,0,1,1,0,0]) e (setN (setN (inB 0 (setN (kont Pg R Try.f19) (fun e => F19_j3 R (e 2) (e 8) (e 9)))) (fun e => k1 (e 2) (e 7) (e 8) (e 9) (e 36) (e 37) (e 38))) (fun e => F19_j7 R k1 (e 2) (e 7) (e 8) (e 9) (e 36) (e 37) (e 38))) _ (by kernel_rfl) (by kernel_rfl))
def F19_j6 (R : ER) (k1 : V7) (x2 x7 x8 x9 x36 x37 x38 : Value) : WP :=
  F19_j8 R k1 x2 x7 x8 x9 x36 x37 x38
theorem F19_j6_ok (R : ER) (k1 : V7) (e : Env) : den Pg R (cd Try.f19 [1,1,1,1,1,0,1,0,0,1,1]) e (setN (inB 0 (setN (kont Pg R Try.f19) (fun e => F19_j3 R (e 2) (e 8) (e 9)))) (fun e => k1 (e 2) (e 7) (e 8) (e 9) (e 36) (e 37) (e 38))) = (F19_j6 R k1 (e 2) (e 7) (e 8) (e 9) (e 36) (e 37) (e 38)) := (den_join Pg R 0 (cd Try.f19 [1,1,1,1,1,0,1,0,0,1,1]) (cd Try.f19 [1,1,1,1,1,0,1,0,0,1,1,1]) e (setN (inB 0 (setN (kont Pg R Try.f19) (fun e => F19_j3 R (e 2) (e 8) (e 9)))) (fun e => k1 (e 2) (e 7) (e 8) (e 9) (e 36) (e 37) (e 38))) (fun e => F19_j7 R k1 (e 2) (e 7) (e 8) (e 9) (e 36) (e 37) (e 38)) _ (by kernel_rfl) (fun e => F19_j7_ok R k1 e) (den_conv Pg R (pre 0 (cd Try.f19 [1,1,1,1,1,0,1,0,0,1,1])) (cd Try.f19 [1,1,1,1,1,0,1,0,0,1,1,0]) e (setN (setN (inB 0 (setN (kont Pg R Try.f19) (fun e => F19_j3 R (e 2) (e 8) (e 9)))) (fun e => k1 (e 2) (e 7) (e 8) (e 9) (e 36) (e 37) (e 38))) (fun e => F19_j7 R k1 (e 2) (e 7) (e 8) (e 9) (e 36) (e 37) (e 38))) _ (by kernel_rfl) (F19_j8_ok R k1 e)))
def F19_b1 (R : ER) (k1 : V7) (x2 x7 x8 x9 x36 x37 x38 : Value) : WP :=
  pv (bin .lss x38 x37) fun v57 =>
  cnd v57 (
   F19_j6 R k1 x2 x7 x8 x9 x36 x37 x38) (
   F19_j3 R x2 x8 x9)
theorem F19_b1_ok (R : ER) (k1 : V7) (e : Env) : den Pg R (cd Try.f19 [1,1,1,1,1,0,1,0,0]) e (setN (inB 0 (setN (kont Pg R Try.f19) (fun e => F19_j3 R (e 2) (e 8) (e 9)))) (fun e => k1 (e 2) (e 7) (e 8) (e 9) (e 36) (e 37) (e 38))) = (F19_b1 R k1 (e 2) (e 7) (e 8) (e 9) (e 36) (e 37) (e 38)) := (den_join Pg R 1 (cd Try.f19 [1,1,1,1,1,0,1,0,0]) (cd Try.f19 [1,1,1,1,1,0,1,0,0,1,1]) e (setN (inB 0 (setN (kont Pg R Try.f19) (fun e => F19_j3 R (e 2) (e 8) (e 9)))) (fun e => k1 (e 2) (e 7) (e 8) (e 9) (e 36) (e 37) (e 38))) (fun e => F19_j6 R k1 (e 2) (e 7) (e 8) (e 9) (e 36) (e 37) (e 38)) _ (by kernel_rfl) (fun e => F19_j6_ok R k1 e) (by kernel_rfl))
noncomputable def F19_l1 (R : ER) (n : Nat) : V7 := Nat.rec (motive := fun _ => V7) (fun _ _ _ _ _ _ _ => fun _ => False) (fun _ ih => fun x2 x7 x8 x9 x36 x37 x38 => F19_b1 R ih x2 x7 x8 x9 x36 x37 x38) n
theorem F19_l1_succ (R : ER) (n : Nat) (x2 x7 x8 x9 x36 x37 x38 : Value) : F19_l1 R (n + 1) x2 x7 x8 x9 x36 x37 x38 = F19_b1 R (F19_l1 R n) x2 x7 x8 x9 x36 x37 x38 := rfl
theorem F19_l1_ok (R : ER) : ∀ (n : Nat) (e : Env), iterL (den Pg R (cd Try.f19 [1,1,1,1,1,0,1,0,0])) n e (inB 0 (setN (kont Pg R Try.f19) (fun e => F19_j3 R (e 2) (e 8) (e 9)))) = F19_l1 R n (e 2) (e 7) (e 8) (e 9) (e 36) (e 37) (e 38) :=
  iterL_join (den Pg R (cd Try.f19 [1,1,1,1,1,0,1,0,0])) (inB 0 (setN (kont Pg R Try.f19) (fun e => F19_j3 R (e 2) (e 8) (e 9)))) (fun n e => F19_l1 R n (e 2) (e 7) (e 8) (e 9) (e 36) (e 37) (e 38)) (fun _ => rfl) (fun n e => (F19_b1_ok R (F19_l1 R n) e).trans (F19_l1_succ R n (e 2) (e 7) (e 8) (e 9) (e 36) (e 37) (e 38)).symm)
def F19_j5 (R : ER) (x2 x7 x8 x9 x36 x37 x38 : Value) : WP :=
  exN fun n => F19_l1 R n x2 x7 x8 x9 x36 x37 x38
theorem F19_j5_ok (R : ER) (e : Env) : den Pg R (cd Try.f19 [1,1,1,1,1,0,1]) e (setN (kont Pg R Try.f19) (fun e => F19_j3 R (e 2) (e 8) (e 9))) = (F19_j5 R (e 2) (e 7) (e 8) (e 9) (e 36) (e 37) (e 38)) := (den_block Pg R (cd Try.f19 [1,1,1,1,1,0,1]) 0 (cd Try.f19 [1,1,1,1,1,0,1,0]) e (setN (kont Pg R Try.f19) (fun e => F19_j3 R (e 2) (e 8) (e 9))) _ (by kernel_rfl) (den_loop Pg R (cd Try.f19 [1,1,1,1,1,0,1,0]) (cd Try.f19 [1,1,1,1,1,0,1,0,0]) e (inB 0 (setN (kont Pg R Try.f19) (fun e => F19_j3 R (e 2) (e 8) (e 9)))) (fun n e => F19_l1 R n (e 2) (e 7) (e 8) (e 9) (e 36) (e 37) (e 38)) _ (by kernel_rfl) (F19_l1_ok R) (by kernel_rfl)))
def F19_j4 (R : ER) (x2 x7 x8 x9 : Value) : WP :=
  pv (lenS x8) fun v58 =>
  F19_j5 R x2 x7 x8 x9 x8 v58 (.int .i64 0)
theorem F19_j4_ok (R : ER) (e : Env) : den Pg R (cd Try.f19 [1,1,1,1,1,0]) e (setN (kont Pg R Try.f19) (fun e => F19_j3 R (e 2) (e 8) (e 9))) = (F19_j4 R (e 2) (e 7) (e 8) (e 9)) := (den_join Pg R 0 (cd Try.f19 [1,1,1,1,1,0]) (cd Try.f19 [1,1,1,1,1,0,1]) e (setN (kont Pg R Try.f19) (fun e => F19_j3 R (e 2) (e 8) (e 9))) (fun e => F19_j5 R (e 2) (e 7) (e 8) (e 9) (e 36) (e 37) (e 38)) _ (by kernel_rfl) (fun e => F19_j5_ok R e) (by kernel_rfl))
def F19_j2 (R : ER) (x1 x2 : Value) : WP :=
  drewV (
  ldN 2 x2 fun v59 =>
  mem fun w61 => cal Pg noR 33 ⟨[v59]⟩ fun v60 =>
  pv (ixS 1 v60 x1) fun v62 =>
  ld1 v62 fun v63 =>
  ldNS [w61] 2 x2 fun v64 =>
  mem fun w66 => cal Pg noR 44 ⟨[v64]⟩ fun v65 =>
  rd1 v62 v63 <|
  mem fun w68 => cal Pg noR 43 ⟨[v65, x1]⟩ fun v67 =>
  rd1 v62 v63 <|
  F19_j4 R x2 v63 v67 x1)
theorem F19_j2_ok (R : ER) (e : Env) : den Pg R (cd Try.f19 [1,1,1]) e (kont Pg R Try.f19) = (F19_j2 R (e 1) (e 2)) := (den_join Pg R 2 (cd Try.f19 [1,1,1]) (cd Try.f19 [1,1,1,1,1,1]) e (kont Pg R Try.f19) (fun e => F19_j3 R (e 2) (e 8) (e 9)) _ (by kernel_rfl) (fun e => F19_j3_ok R e) (den_join Pg R 1 (pre 2 (cd Try.f19 [1,1,1])) (cd Try.f19 [1,1,1,1,1,0]) e (setN (kont Pg R Try.f19) (fun e => F19_j3 R (e 2) (e 8) (e 9))) (fun e => F19_j4 R (e 2) (e 7) (e 8) (e 9)) _ (by kernel_rfl) (fun e => F19_j4_ok R e) (by kernel_rfl)))
def F19_j1 (R : ER) (x1 x2 : Value) : WP :=
  pv (bin .lss x1 (.int .i64 0)) fun v69 =>
  gd v69 false (pv (some x1)) fun v70 =>
  gd v69 false (pv (faO 0 x2)) fun v71 =>
  gd v69 false (ld1 v71) fun v72 =>
  gd v69 false (pv (lenS v72)) fun v73 =>
  gd v69 false (pv (bin .geq v70 v73)) fun v74 =>
  pv (pickO v69 (.bool true) v74) fun v75 =>
  cnd v75 (
   R (.returned (.tuple ⟨[(.slice none 0 0), (.int .i64 34)]⟩))) (
   F19_j2 R x1 x2)
theorem F19_j1_ok (R : ER) (e : Env) : den Pg R (cd Try.f19 [1,1]) e (kont Pg R Try.f19) = (F19_j1 R (e 1) (e 2)) := (den_join Pg R 0 (cd Try.f19 [1,1]) (cd Try.f19 [1,1,1]) e (kont Pg R Try.f19) (fun e => F19_j2 R (e 1) (e 2)) _ (by kernel_rfl) (fun e => F19_j2_ok R e) (by kernel_rfl))
def F19 (R : ER) (x0 x1 : Value) : WP :=
  bx 25 x0 fun v76 =>
  ldN 2 v76 fun v77 =>
  cal Pg R 16 ⟨[v77]⟩ fun v78 =>
  pv (bin .neq v78 (.int .i64 0)) fun v79 =>
  cnd v79 (
   R (.returned (.tuple ⟨[(.slice none 0 0), v78]⟩))) (
   F19_j1 R x1 v76)
theorem F19_den (R : ER) (x0 x1 : Value) : den Pg R (cd Try.f19 []) (argsEnv [x0, x1]) (kont Pg R Try.f19) = F19 R x0 x1 :=
  have h : ∀ e, den Pg R (cd Try.f19 []) e (kont Pg R Try.f19) = F19 R (e 0) (e 1) := fun e => (den_join Pg R 1 (cd Try.f19 []) (cd Try.f19 [1,1]) e (kont Pg R Try.f19) (fun e => F19_j1 R (e 1) (e 2)) _ (by kernel_rfl) (fun e => F19_j1_ok R e) (by kernel_rfl))
  h _
theorem F19_calls {R : ER} {x0 x1 : Value} {w : World} (h : F19 R x0 x1 w) : Calls Pg 19 ⟨[x0, x1]⟩ w R :=
  calls_of_den Try.func19 (by kernel_rfl) (by kernel_rfl) (F19_den R x0 x1) h
/-! ### 20: orpimentref05_Reason -/
def F20_j3 (R : ER) (x2 x8 x9 : Value) : WP :=
  ldN 2 x2 fun v1 =>
  cal Pg R 48 ⟨[v1, x9, x8]⟩ fun v2 =>
  R (.returned (.tuple ⟨[v2, (.int .i64 0)]⟩))
theorem F20_j3_ok (R : ER) (e : Env) : den Pg R (cd Try.f20 [1,1,1,1,1,1,1]) e (kont Pg R Try.f20) = (F20_j3 R (e 2) (e 8) (e 9)) := by kernel_rfl
def F20_j7 (R : ER) (k1 : V5) (x2 x7 x8 x9 x10 : Value) : WP :=
  pv (bin .add x10 (.int .i64 1)) fun v3 =>
  k1 x2 x7 x8 x9 v3
theorem F20_j7_ok (R : ER) (k1 : V5) (e : Env) : den Pg R (cd Try.f20 [1,1,1,1,1,1,0,1,0,0,1,1]) e (setN (inB 0 (setN (kont Pg R Try.f20) (fun e => F20_j3 R (e 2) (e 8) (e 9)))) (fun e => k1 (e 2) (e 7) (e 8) (e 9) (e 10))) = (F20_j7 R k1 (e 2) (e 7) (e 8) (e 9) (e 10)) := by kernel_rfl
def F20_j8 (R : ER) (k1 : V5) (x2 x7 x8 x9 x10 : Value) : WP :=
  drewV (
  pv (ixS 1 x8 x10) fun v4 =>
  ld1 v4 fun v5 =>
  pv (bin .gtr v5 (.int .i64 0)) fun v6 =>
  gd v6 true (pv (faO 0 x2)) fun v7 =>
  gd v6 true (ld1 v7) fun v8 =>
  gd v6 true (pv (some x10)) fun v9 =>
  gd v6 true (pv (ixS 1 v8 v9)) fun v10 =>
  gd v6 true (ld1 v10) fun v11 =>
  gd v6 true (pv (some x7)) fun v12 =>
  gd v6 true (pv (bin .eql v11 v12)) fun v13 =>
  pv (pickO v6 v13 (.bool false)) fun v14 =>
  gd v14 true (pv (some x9)) fun v15 =>
  gd v14 true (pv (bin .lss v15 (.int .i64 0))) fun v16 =>
  gd v14 true (pv (some v16)) fun v17 =>
  gd v17 false (pv (some x8)) fun v18 =>
  gd v17 false (pv (some x10)) fun v19 =>
  gd v17 false (pv (ixS 1 v18 v19)) fun v20 =>
  gd v17 false (ld1 v20) fun v21 =>
  gd v17 false (pv (some x8)) fun v22 =>
  gd v17 false (pv (some x9)) fun v23 =>
  gd v17 false (pv (ixS 1 v22 v23)) fun v24 =>
  gd v17 false (ld1 v24) fun v25 =>
  gd v17 false (pv (bin .lss v21 v25)) fun v26 =>
  gd v14 true (pv (pickO v17 (.bool true) v26)) fun v27 =>
  pv (pickO v14 v27 (.bool false)) fun v28 =>
  cnd v28 (
   F20_j7 R k1 x2 x7 x8 x10 x10) (
   F20_j7 R k1 x2 x7 x8 x9 x10))
theorem F20_j8_ok (R : ER) (k1 : V5) (e : Env) : den Pg R (cd Try.f20 [1,1,1,1,1,1,0,1,0,0,1,0]) e (setN (setN (inB 0 (setN (kont Pg R Try.f20) (fun e => F20_j3 R (e 2) (e 8) (e 9)))) (fun e => k1 (e 2) (e 7) (e 8) (e 9) (e 10))) (fun e => F20_j7 R k1 (e 2) (e 7) (e 8) (e 9) (e 10))) = (F20_j8 R k1 (e 2) (e 7) (e 8) (e 9) (e 10)) := (den_block Pg R (cd Try.f20 [1,1,1,1,1,1,0,1,0,0,1,0]) 1 (cd Try.f20 [1,1,1,1,1,1,0,1,0,0,1,0,0]) e (setN (setN (inB 0 (setN (kont Pg R Try.f20) (fun e => F20_j3 R (e 2) (e 8) (e 9)))) (fun e => k1 (e 2) (e 7) (e 8) (e 9) (e 10))) (fun e => F20_j7 R k1 (e 2) (e 7) (e 8) (e 9) (e 10))) _ (by kernel_rfl) (by kernel_rfl))
def F20_j6 (R : ER) (k1 : V5) (x2 x7 x8 x9 x10 : Value) : WP :=
  F20_j8 R k1 x2 x7 x8 x9 x10
theorem F20_j6_ok (R : ER) (k1 : V5) (e : Env) : den Pg R (cd Try.f20 [1,1,1,1,1,1,0,1,0,0,1]) e (setN (inB 0 (setN (kont Pg R Try.f20) (fun e => F20_j3 R (e 2) (e 8) (e 9)))) (fun e => k1 (e 2) (e 7) (e 8) (e 9) (e 10))) = (F20_j6 R k1 (e 2) (e 7) (e 8) (e 9) (e 10)) := (den_join Pg R 0 (cd Try.f20 [1,1,1,1,1,1,0,1,0,0,1]) (cd Try.f20 [1,1,1,1,1,1,0,1,0,0,1,1]) e (setN (inB 0 (setN (kont Pg R Try.f20) (fun e => F20_j3 R (e 2) (e 8) (e 9)))) (fun e => k1 (e 2) (e 7) (e 8) (e 9) (e 10))) (fun e => F20_j7 R k1 (e 2) (e 7) (e 8) (e 9) (e 10)) _ (by kernel_rfl) (fun e => F20_j7_ok R k1 e) (den_conv Pg R (pre 0 (cd Try.f20 [1,1,1,1,1,1,0,1,0,0,1])) (cd Try.f20 [1,1,1,1,1,1,0,1,0,0,1,0]) e (setN (setN (inB 0 (setN (kont Pg R Try.f20) (fun e => F20_j3 R (e 2) (e 8) (e 9)))) (fun e => k1 (e 2) (e 7) (e 8) (e 9) (e 10))) (fun e => F20_j7 R k1 (e 2) (e 7) (e 8) (e 9) (e 10))) _ (by kernel_rfl) (F20_j8_ok R k1 e)))
def F20_b1 (R : ER) (k1 : V5) (x2 x7 x8 x9 x10 : Value) : WP :=
  pv (faO 0 x2) fun v29 =>
  ld1 v29 fun v30 =>
  pv (lenS v30) fun v31 =>
  pv (bin .lss x10 v31) fun v32 =>
  cnd v32 (
   F20_j6 R k1 x2 x7 x8 x9 x10) (
   F20_j3 R x2 x8 x9)
theorem F20_b1_ok (R : ER) (k1 : V5) (e : Env) : den Pg R (cd Try.f20 [1,1,1,1,1,1,0,1,0,0]) e (setN (inB 0 (setN (kont Pg R Try.f20) (fun e => F20_j3 R (e 2) (e 8) (e 9)))) (fun e => k1 (e 2) (e 7) (e 8) (e 9) (e 10))) = (F20_b1 R k1 (e 2) (e 7) (e 8) (e 9) (e 10)) := (den_join Pg R 0 (cd Try.f20 [1,1,1,1,1,1,0,1,0,0]) (cd Try.f20 [1,1,1,1,1,1,0,1,0,0,1]) e (setN (inB 0 (setN (kont Pg R Try.f20) (fun e => F20_j3 R (e 2) (e 8) (e 9)))) (fun e => k1 (e 2) (e 7) (e 8) (e 9) (e 10))) (fun e => F20_j6 R k1 (e 2) (e 7) (e 8) (e 9) (e 10)) _ (by kernel_rfl) (fun e => F20_j6_ok R k1 e) (by kernel_rfl))
noncomputable def F20_l1 (R : ER) (n : Nat) : V5 := Nat.rec (motive := fun _ => V5) (fun _ _ _ _ _ => fun _ => False) (fun _ ih => fun x2 x7 x8 x9 x10 => F20_b1 R ih x2 x7 x8 x9 x10) n
theorem F20_l1_succ (R : ER) (n : Nat) (x2 x7 x8 x9 x10 : Value) : F20_l1 R (n + 1) x2 x7 x8 x9 x10 = F20_b1 R (F20_l1 R n) x2 x7 x8 x9 x10 := rfl
theorem F20_l1_ok (R : ER) : ∀ (n : Nat) (e : Env), iterL (den Pg R (cd Try.f20 [1,1,1,1,1,1,0,1,0,0])) n e (inB 0 (setN (kont Pg R Try.f20) (fun e => F20_j3 R (e 2) (e 8) (e 9)))) = F20_l1 R n (e 2) (e 7) (e 8) (e 9) (e 10) :=
  iterL_join (den Pg R (cd Try.f20 [1,1,1,1,1,1,0,1,0,0])) (inB 0 (setN (kont Pg R Try.f20) (fun e => F20_j3 R (e 2) (e 8) (e 9)))) (fun n e => F20_l1 R n (e 2) (e 7) (e 8) (e 9) (e 10)) (fun _ => rfl) (fun n e => (F20_b1_ok R (F20_l1 R n) e).trans (F20_l1_succ R n (e 2) (e 7) (e 8) (e 9) (e 10)).symm)
def F20_j5 (R : ER) (x2 x7 x8 x9 x10 : Value) : WP :=
  exN fun n => F20_l1 R n x2 x7 x8 x9 x10
theorem F20_j5_ok (R : ER) (e : Env) : den Pg R (cd Try.f20 [1,1,1,1,1,1,0,1]) e (setN (kont Pg R Try.f20) (fun e => F20_j3 R (e 2) (e 8) (e 9))) = (F20_j5 R (e 2) (e 7) (e 8) (e 9) (e 10)) := (den_block Pg R (cd Try.f20 [1,1,1,1,1,1,0,1]) 0 (cd Try.f20 [1,1,1,1,1,1,0,1,0]) e (setN (kont Pg R Try.f20) (fun e => F20_j3 R (e 2) (e 8) (e 9))) _ (by kernel_rfl) (den_loop Pg R (cd Try.f20 [1,1,1,1,1,1,0,1,0]) (cd Try.f20 [1,1,1,1,1,1,0,1,0,0]) e (inB 0 (setN (kont Pg R Try.f20) (fun e => F20_j3 R (e 2) (e 8) (e 9)))) (fun n e => F20_l1 R n (e 2) (e 7) (e 8) (e 9) (e 10)) _ (by kernel_rfl) (F20_l1_ok R) (by kernel_rfl)))
def F20_j4 (R : ER) (x2 x7 x8 x9 : Value) : WP :=
  F20_j5 R x2 x7 x8 x9 (.int .i64 0)
theorem F20_j4_ok (R : ER) (e : Env) : den Pg R (cd Try.f20 [1,1,1,1,1,1,0]) e (setN (kont Pg R Try.f20) (fun e => F20_j3 R (e 2) (e 8) (e 9))) = (F20_j4 R (e 2) (e 7) (e 8) (e 9)) := (den_join Pg R 0 (cd Try.f20 [1,1,1,1,1,1,0]) (cd Try.f20 [1,1,1,1,1,1,0,1]) e (setN (kont Pg R Try.f20) (fun e => F20_j3 R (e 2) (e 8) (e 9))) (fun e => F20_j5 R (e 2) (e 7) (e 8) (e 9) (e 10)) _ (by kernel_rfl) (fun e => F20_j5_ok R e) (by kernel_rfl))
def F20_j2 (R : ER) (x1 x2 : Value) : WP :=
  ldN 2 x2 fun v33 =>
  cal Pg R 34 ⟨[v33]⟩ fun v34 =>
  pv (ixS 1 v34 x1) fun v35 =>
  ld1 v35 fun v36 =>
  ldN 2 x2 fun v37 =>
  cal Pg R 47 ⟨[v37, x1]⟩ fun v38 =>
  F20_j4 R x2 v36 v38 (.int .i64 (-1))
theorem F20_j2_ok (R : ER) (e : Env) : den Pg R (cd Try.f20 [1,1,1]) e (kont Pg R Try.f20) = (F20_j2 R (e 1) (e 2)) := (den_join Pg R 3 (cd Try.f20 [1,1,1]) (cd Try.f20 [1,1,1,1,1,1,1]) e (kont Pg R Try.f20) (fun e => F20_j3 R (e 2) (e 8) (e 9)) _ (by kernel_rfl) (fun e => F20_j3_ok R e) (den_join Pg R 2 (pre 3 (cd Try.f20 [1,1,1])) (cd Try.f20 [1,1,1,1,1,1,0]) e (setN (kont Pg R Try.f20) (fun e => F20_j3 R (e 2) (e 8) (e 9))) (fun e => F20_j4 R (e 2) (e 7) (e 8) (e 9)) _ (by kernel_rfl) (fun e => F20_j4_ok R e) (by kernel_rfl)))
def F20_j1 (R : ER) (x1 x2 : Value) : WP :=
  ldN 2 x2 fun v39 =>
  cal Pg R 41 ⟨[v39, x1]⟩ fun v40 =>
  pv (unO .not v40) fun v41 =>
  cnd v41 (
   R (.returned (.tuple ⟨[(.slice none 0 0), (.int .i64 34)]⟩))) (
   F20_j2 R x1 x2)
theorem F20_j1_ok (R : ER) (e : Env) : den Pg R (cd Try.f20 [1,1]) e (kont Pg R Try.f20) = (F20_j1 R (e 1) (e 2)) := (den_join Pg R 0 (cd Try.f20 [1,1]) (cd Try.f20 [1,1,1]) e (kont Pg R Try.f20) (fun e => F20_j2 R (e 1) (e 2)) _ (by kernel_rfl) (fun e => F20_j2_ok R e) (by kernel_rfl))
def F20 (R : ER) (x0 x1 : Value) : WP :=
  bx 32 x0 fun v42 =>
  ldN 2 v42 fun v43 =>
  cal Pg R 17 ⟨[v43]⟩ fun v44 =>
  pv (bin .neq v44 (.int .i64 0)) fun v45 =>
  cnd v45 (
   R (.returned (.tuple ⟨[(.slice none 0 0), v44]⟩))) (
   F20_j1 R x1 v42)
theorem F20_den (R : ER) (x0 x1 : Value) : den Pg R (cd Try.f20 []) (argsEnv [x0, x1]) (kont Pg R Try.f20) = F20 R x0 x1 :=
  have h : ∀ e, den Pg R (cd Try.f20 []) e (kont Pg R Try.f20) = F20 R (e 0) (e 1) := fun e => (den_join Pg R 1 (cd Try.f20 []) (cd Try.f20 [1,1]) e (kont Pg R Try.f20) (fun e => F20_j1 R (e 1) (e 2)) _ (by kernel_rfl) (fun e => F20_j1_ok R e) (by kernel_rfl))
  h _
theorem F20_calls {R : ER} {x0 x1 : Value} {w : World} (h : F20 R x0 x1 w) : Calls Pg 20 ⟨[x0, x1]⟩ w R :=
  calls_of_den Try.func20 (by kernel_rfl) (by kernel_rfl) (F20_den R x0 x1) h
/-! ### 21: inherit_Cycle -/
def F21_j2 (R : ER) (x5 x7 x8 x9 : Value) : WP :=
  pv (bin .lss x7 (.int .i64 0)) fun v1 =>
  cnd v1 (
   R (.returned (.tuple ⟨[(.slice none 0 0), (.int .i64 22)]⟩))) (
   valV Pg R (Instr.buildSlice 22 1 ⟨[(0, x7)]⟩) fun v2 =>
  cal Pg R 45 ⟨[v2, x5, x9, x8]⟩ fun v3 =>
  R (.returned (.tuple ⟨[v3, (.int .i64 0)]⟩)))
theorem F21_j2_ok (R : ER) (e : Env) : den Pg R (cd Try.f21 [1,1,1,1,1,1]) e (kont Pg R Try.f21) = (F21_j2 R (e 5) (e 7) (e 8) (e 9)) := by kernel_rfl
def F21_j6 (R : ER) (k1 : V7) (x5 x6 x7 x8 x9 x25 x26 : Value) : WP :=
  pv (bin .add x26 (.int .i64 1)) fun v4 =>
  k1 x5 x6 x7 x8 x9 x25 v4
theorem F21_j6_ok (R : ER) (k1 : V7) (e : Env) : den Pg R (cd Try.f21 [1,1,1,1,1,0,1,0,0,1,1,1]) e (setN (inB 0 (setN (kont Pg R Try.f21) (fun e => F21_j2 R (e 5) (e 7) (e 8) (e 9)))) (fun e => k1 (e 5) (e 6) (e 7) (e 8) (e 9) (e 25) (e 26))) = (F21_j6 R k1 (e 5) (e 6) (e 7) (e 8) (e 9) (e 25) (e 26)) := by kernel_rfl
def F21_j10 (R : ER) (k1 : V7) (k2 : V12) (x5 x6 x7 x8 x9 x10 x11 x25 x26 x35 x36 x37 : Value) : WP :=
  pv (bin .add x37 (.int .i64 1)) fun v5 =>
  k2 x5 x6 x7 x8 x9 x10 x11 x25 x26 x35 x36 v5
theorem F21_j10_ok (R : ER) (k1 : V7) (k2 : V12) (e : Env) : den Pg R (cd Try.f21 [1,1,1,1,1,0,1,0,0,1,1,0,0,1,1,1,0,0,1,1,1]) e (setN (inB 2 (inB 1 (setN (setN (inB 0 (setN (kont Pg R Try.f21) (fun e => F21_j2 R (e 5) (e 7) (e 8) (e 9)))) (fun e => k1 (e 5) (e 6) (e 7) (e 8) (e 9) (e 25) (e 26))) (fun e => F21_j6 R k1 (e 5) (e 6) (e 7) (e 8) (e 9) (e 25) (e 26))))) (fun e => k2 (e 5) (e 6) (e 7) (e 8) (e 9) (e 10) (e 11) (e 25) (e 26) (e 35) (e 36) (e 37))) = (F21_j10 R k1 k2 (e 5) (e 6) (e 7) (e 8) (e 9) (e 10) (e 11) (e 25) (e 26) (e 35) (e 36) (e 37)) := by kernel_rfl
def F21_j11 (R : ER) (k1 : V7) (k2 : V12) (x5 x6 x7 x8 x9 x10 x11 x25 x26 x35 x36 x37 : Value) : WP :=
  pv (ixS 1 x35 x37) fun v6 =>
  ld1 v6 fun v7 =>
  pv (ixS 1 x11 v7) fun v8 =>
  ld1 v8 fun v9 =>
  pv (bin .geq v9 (.int .i64 0)) fun v10 =>
  gd v10 true (pv (some x7)) fun v11 =>
  gd v10 true (pv (bin .lss v11 (.int .i64 0))) fun v12 =>
  gd v10 true (pv (some v12)) fun v13 =>
  gd v13 false (pv (some x11)) fun v14 =>
  gd v13 false (pv (some v7)) fun v15 =>
  gd v13 false (pv (ixS 1 v14 v15)) fun v16 =>
  gd v13 false (ld1 v16) fun v17 =>
  gd v13 false (pv (bin .add v17 (.int .i64 1))) fun v18 =>
  gd v13 false (pv (some x8)) fun v19 =>
  gd v13 false (pv (bin .lss v18 v19)) fun v20 =>
  gd v10 true (pv (pickO v13 (.bool true) v20)) fun v21 =>
  pv (pickO v10 v21 (.bool false)) fun v22 =>
  cnd v22 (
   drewV (
   pv (ixS 1 x11 v7) fun v23 =>
   ld1 v23 fun v24 =>
   pv (bin .add v24 (.int .i64 1)) fun v25 =>
   F21_j10 R k1 k2 x5 x6 x10 v25 x11 x10 x11 x25 x26 x35 x36 x37)) (
   F21_j10 R k1 k2 x5 x6 x7 x8 x9 x10 x11 x25 x26 x35 x36 x37)
theorem F21_j11_ok (R : ER) (k1 : V7) (k2 : V12) (e : Env) : den Pg R (cd Try.f21 [1,1,1,1,1,0,1,0,0,1,1,0,0,1,1,1,0,0,1,1,0]) e (setN (setN (inB 2 (inB 1 (setN (setN (inB 0 (setN (kont Pg R Try.f21) (fun e => F21_j2 R (e 5) (e 7) (e 8) (e 9)))) (fun e => k1 (e 5) (e 6) (e 7) (e 8) (e 9) (e 25) (e 26))) (fun e => F21_j6 R k1 (e 5) (e 6) (e 7) (e 8) (e 9) (e 25) (e 26))))) (fun e => k2 (e 5) (e 6) (e 7) (e 8) (e 9) (e 10) (e 11) (e 25) (e 26) (e 35) (e 36) (e 37))) (fun e => F21_j10 R k1 k2 (e 5) (e 6) (e 7) (e 8) (e 9) (e 10) (e 11) (e 25) (e 26) (e 35) (e 36) (e 37))) = (F21_j11 R k1 k2 (e 5) (e 6) (e 7) (e 8) (e 9) (e 10) (e 11) (e 25) (e 26) (e 35) (e 36) (e 37)) := (den_block Pg R (cd Try.f21 [1,1,1,1,1,0,1,0,0,1,1,0,0,1,1,1,0,0,1,1,0]) 3 (cd Try.f21 [1,1,1,1,1,0,1,0,0,1,1,0,0,1,1,1,0,0,1,1,0,0]) e (setN (setN (inB 2 (inB 1 (setN (setN (inB 0 (setN (kont Pg R Try.f21) (fun e => F21_j2 R (e 5) (e 7) (e 8) (e 9)))) (fun e => k1 (e 5) (e 6) (e 7) (e 8) (e 9) (e 25) (e 26))) (fun e => F21_j6 R k1 (e 5) (e 6) (e 7) (e 8) (e 9) (e 25) (e 26))))) (fun e => k2 (e 5) (e 6) (e 7) (e 8) (e 9) (e 10) (e 11) (e 25) (e 26) (e 35) (e 36) (e 37))) (fun e => F21_j10 R k1 k2 (e 5) (e 6) (e 7) (e 8) (e 9) (e 10) (e 11) (e 25) (e 26) (e 35) (e 36) (e 37))) _ (by kernel_rfl) (by kernel_rfl))
def F21_j9 (R : ER) (k1 : V7) (k2 : V12) (x5 x6 x7 x8 x9 x10 x11 x25 x26 x35 x36 x37 : Value) : WP :=
  F21_j11 R k1 k2 x5 x6 x7 x8 x9 x10 x11 x25 x26 x35 x36 x37
theorem F21_j9_ok (R : ER) (k1 : V7) (k2 : V12) (e : Env) : den Pg R (cd Try.f21 [1,1,1,1,1,0,1,0,0,1,1,0,0,1,1,1,0,0,1,1]) e (setN (inB 2 (inB 1 (setN (setN (inB 0 (setN (kont Pg R Try.f21) (fun e => F21_j2 R (e 5) (e 7) (e 8) (e 9)))) (fun e => k1 (e 5) (e 6) (e 7) (e 8) (e 9) (e 25) (e 26))) (fun e => F21_j6 R k1 (e 5) (e 6) (e 7) (e 8) (e 9) (e 25) (e 26))))) (fun e => k2 (e 5) (e 6) (e 7) (e 8) (e 9) (e 10) (e 11) (e 25) (e 26) (e 35) (e 36) (e 37))) = (F21_j9 R k1 k2 (e 5) (e 6) (e 7) (e 8) (e 9) (e 10) (e 11) (e 25) (e 26) (e 35) (e 36) (e 37)) := (den_join Pg R 0 (cd Try.f21 [1,1,1,1,1,0,1,0,0,1,1,0,0,1,1,1,0,0,1,1]) (cd Try.f21 [1,1,1,1,1,0,1,0,0,1,1,0,0,1,1,1,0,0,1,1,1]) e (setN (inB 2 (inB 1 (setN (setN (inB 0 (setN (kont Pg R Try.f21) (fun e => F21_j2 R (e 5) (e 7) (e 8) (e 9)))) (fun e => k1 (e 5) (e 6) (e 7) (e 8) (e 9) (e 25) (e 26))) (fun e => F21_j6 R k1 (e 5) (e 6) (e 7) (e 8) (e 9) (e 25) (e 26))))) (fun e => k2 (e 5) (e 6) (e 7) (e 8) (e 9) (e 10) (e 11) (e 25) (e 26) (e 35) (e 36) (e 37))) (fun e => F21_j10 R k1 k2 (e 5) (e 6) (e 7) (e 8) (e 9) (e 10) (e 11) (e 25) (e 26) (e 35) (e 36) (e 37)) _ (by kernel_rfl) (fun e => F21_j10_ok R k1 k2 e) (den_conv Pg R (pre 0 (cd Try.f21 [1,1,1,1,1,0,1,0,0,1,1,0,0,1,1,1,0,0,1,1])) (cd Try.f21 [1,1,1,1,1,0,1,0,0,1,1,0,0,1,1,1,0,0,1,1,0]) e (setN (setN (inB 2 (inB 1 (setN (setN (inB 0 (setN (kont Pg R Try.f21) (fun e => F21_j2 R (e 5) (e 7) (e 8) (e 9)))) (fun e => k1 (e 5) (e 6) (e 7) (e 8) (e 9) (e 25) (e 26))) (fun e => F21_j6 R k1 (e 5) (e 6) (e 7) (e 8) (e 9) (e 25) (e 26))))) (fun e => k2 (e 5) (e 6) (e 7) (e 8) (e 9) (e 10) (e 11) (e 25) (e 26) (e 35) (e 36) (e 37))) (fun e => F21_j10 R k1 k2 (e 5) (e 6) (e 7) (e 8) (e 9) (e 10) (e 11) (e 25) (e 26) (e 35) (e 36) (e 37))) _ (by kernel_rfl) (F21_j11_ok R k1 k2 e)))
def F21_b2 (R : ER) (k1 : V7) (k2 : V12) (x5 x6 x7 x8 x9 x10 x11 x25 x26 x35 x36 x37 : Value) : WP :=
  pv (bin .lss x37 x36) fun v26 =>
  cnd v26 (
   F21_j9 R k1 k2 x5 x6 x7 x8 x9 x10 x11 x25 x26 x35 x36 x37) (
   F21_j6 R k1 x5 x6 x7 x8 x9 x25 x26)
theorem F21_b2_ok (R : ER) (k1 : V7) (k2 : V12) (e : Env) : den Pg R (cd Try.f21 [1,1,1,1,1,0,1,0,0,1,1,0,0,1,1,1,0,0]) e (setN (inB 2 (inB 1 (setN (setN (inB 0 (setN (kont Pg R Try.f21) (fun e => F21_j2 R (e 5) (e 7) (e 8) (e 9)))) (fun e => k1 (e 5) (e 6) (e 7) (e 8) (e 9) (e 25) (e 26))) (fun e => F21_j6 R k1 (e 5) (e 6) (e 7) (e 8) (e 9) (e 25) (e 26))))) (fun e => k2 (e 5) (e 6) (e 7) (e 8) (e 9) (e 10) (e 11) (e 25) (e 26) (e 35) (e 36) (e 37))) = (F21_b2 R k1 k2 (e 5) (e 6) (e 7) (e 8) (e 9) (e 10) (e 11) (e 25) (e 26) (e 35) (e 36) (e 37)) := (den_join Pg R 1 (cd Try.f21 [1,1,1,1,1,0,1,0,0,1,1,0,0,1,1,1,0,0]) (cd Try.f21 [1,1,1,1,1,0,1,0,0,1,1,0,0,1,1,1,0,0,1,1]) e (setN (inB 2 (inB 1 (setN (setN (inB 0 (setN (kont Pg R Try.f21) (fun e => F21_j2 R (e 5) (e 7) (e 8) (e 9)))) (fun e => k1 (e 5) (e 6) (e 7) (e 8) (e 9) (e 25) (e 26))) (fun e => F21_j6 R k1 (e 5) (e 6) (e 7) (e 8) (e 9) (e 25) (e 26))))) (fun e => k2 (e 5) (e 6) (e 7) (e 8) (e 9) (e 10) (e 11) (e 25) (e 26) (e 35) (e 36) (e 37))) (fun e => F21_j9 R k1 k2 (e 5) (e 6) (e 7) (e 8) (e 9) (e 10) (e 11) (e 25) (e 26) (e 35) (e 36) (e 37)) _ (by kernel_rfl) (fun e => F21_j9_ok R k1 k2 e) (by kernel_rfl))
noncomputable def F21_l1 (R : ER) (k1 : V7) (n : Nat) : V12 := Nat.rec (motive := fun _ => V12) (fun _ _ _ _ _ _ _ _ _ _ _ _ => fun _ => False) (fun _ ih => fun x5 x6 x7 x8 x9 x10 x11 x25 x26 x35 x36 x37 => F21_b2 R k1 ih x5 x6 x7 x8 x9 x10 x11 x25 x26 x35 x36 x37) n
theorem F21_l1_succ (R : ER) (k1 : V7) (n : Nat) (x5 x6 x7 x8 x9 x10 x11 x25 x26 x35 x36 x37 : Value) : F21_l1 R k1 (n + 1) x5 x6 x7 x8 x9 x10 x11 x25 x26 x35 x36 x37 = F21_b2 R k1 (F21_l1 R k1 n) x5 x6 x7 x8 x9 x10 x11 x25 x26 x35 x36 x37 := rfl
theorem F21_l1_ok (R : ER) (k1 : V7) : ∀ (n : Nat) (e : Env), iterL (den Pg R (cd Try.f21 [1,1,1,1,1,0,1,0,0,1,1,0,0,1,1,1,0,0])) n e (inB 2 (inB 1 (setN (setN (inB 0 (setN (kont Pg R Try.f21) (fun e => F21_j2 R (e 5) (e 7) (e 8) (e 9)))) (fun e => k1 (e 5) (e 6) (e 7) (e 8) (e 9) (e 25) (e 26))) (fun e => F21_j6 R k1 (e 5) (e 6) (e 7) (e 8) (e 9) (e 25) (e 26))))) = F21_l1 R k1 n (e 5) (e 6) (e 7) (e 8) (e 9) (e 10) (e 11) (e 25) (e 26) (e 35) (e 36) (e 37) :=
  iterL_join (den Pg R (cd Try.f21 [1,1,1,1,1,0,1,0,0,1,1,0,0,1,1,1,0,0])) (inB 2 (inB 1 (setN (setN (inB 0 (setN (kont Pg R Try.f21) (fun e => F21_j2 R (e 5) (e 7) (e 8) (e 9)))) (fun e => k1 (e 5) (e 6) (e 7) (e 8) (e 9) (e 25) (e 26))) (fun e => F21_j6 R k1 (e 5) (e 6) (e 7) (e 8) (e 9) (e 25) (e 26))))) (fun n e => F21_l1 R k1 n (e 5) (e 6) (e 7) (e 8) (e 9) (e 10) (e 11) (e 25) (e 26) (e 35) (e 36) (e 37)) (fun _ => rfl) (fun n e => (F21_b2_ok R k1 (F21_l1 R k1 n) e).trans (F21_l1_succ R k1 n (e 5) (e 6) (e 7) (e 8) (e 9) (e 10) (e 11) (e 25) (e 26) (e 35) (e 36) (e 37)).symm)
def F21_j8 (R : ER) (k1 : V7) (x5 x6 x7 x8 x9 x10 x11 x25 x26 x35 x36 x37 : Value) : WP :=
  exN fun n => F21_l1 R k1 n x5 x6 x7 x8 x9 x10 x11 x25 x26 x35 x36 x37
theorem F21_j8_ok (R : ER) (k1 : V7) (e : Env) : den Pg R (cd Try.f21 [1,1,1,1,1,0,1,0,0,1,1,0,0,1,1,1]) e (inB 1 (setN (setN (inB 0 (setN (kont Pg R Try.f21) (fun e => F21_j2 R (e 5) (e 7) (e 8) (e 9)))) (fun e => k1 (e 5) (e 6) (e 7) (e 8) (e 9) (e 25) (e 26))) (fun e => F21_j6 R k1 (e 5) (e 6) (e 7) (e 8) (e 9) (e 25) (e 26)))) = (F21_j8 R k1 (e 5) (e 6) (e 7) (e 8) (e 9) (e 10) (e 11) (e 25) (e 26) (e 35) (e 36) (e 37)) := (den_block Pg R (cd Try.f21 [1,1,1,1,1,0,1,0,0,1,1,0,0,1,1,1]) 2 (cd Try.f21 [1,1,1,1,1,0,1,0,0,1,1,0,0,1,1,1,0]) e (inB 1 (setN (setN (inB 0 (setN (kont Pg R Try.f21) (fun e => F21_j2 R (e 5) (e 7) (e 8) (e 9)))) (fun e => k1 (e 5) (e 6) (e 7) (e 8) (e 9) (e 25) (e 26))) (fun e => F21_j6 R k1 (e 5) (e 6) (e 7) (e 8) (e 9) (e 25) (e 26)))) _ (by kernel_rfl) (den_loop Pg R (cd Try.f21 [1,1,1,1,1,0,1,0,0,1,1,0,0,1,1,1,0]) (cd Try.f21 [1,1,1,1,1,0,1,0,0,1,1,0,0,1,1,1,0,0]) e (inB 2 (inB 1 (setN (setN (inB 0 (setN (kont Pg R Try.f21) (fun e => F21_j2 R (e 5) (e 7) (e 8) (e 9)))) (fun e => k1 (e 5) (e 6) (e 7) (e 8) (e 9) (e 25) (e 26))) (fun e => F21_j6 R k1 (e 5) (e 6) (e 7) (e 8) (e 9) (e 25) (e 26))))) (fun n e => F21_l1 R k1 n (e 5) (e 6) (e 7) (e 8) (e 9) (e 10) (e 11) (e 25) (e 26) (e 35) (e 36) (e 37)) _ (by kernel_rfl) (F21_l1_ok R k1) (by kernel_rfl)))
def F21_j7 (R : ER) (k1 : V7) (x5 x6 x7 x8 x9 x25 x26 : Value) : WP :=
  cal Pg R 43 ⟨[x6, x26]⟩ fun v27 =>
  pv (ixS 1 x5 x26) fun v28 =>
  ld1 v28 fun v29 =>
  pv (lenS v29) fun v30 =>
  F21_j8 R k1 x5 x6 x7 x8 x9 x26 v27 x25 x26 v29 v30 (.int .i64 0)
theorem F21_j7_ok (R : ER) (k1 : V7) (e : Env) : den Pg R (cd Try.f21 [1,1,1,1,1,0,1,0,0,1,1,0]) e (setN (setN (inB 0 (setN (kont Pg R Try.f21) (fun e => F21_j2 R (e 5) (e 7) (e 8) (e 9)))) (fun e => k1 (e 5) (e 6) (e 7) (e 8) (e 9) (e 25) (e 26))) (fun e => F21_j6 R k1 (e 5) (e 6) (e 7) (e 8) (e 9) (e 25) (e 26))) = (F21_j7 R k1 (e 5) (e 6) (e 7) (e 8) (e 9) (e 25) (e 26)) := (den_block Pg R (cd Try.f21 [1,1,1,1,1,0,1,0,0,1,1,0]) 1 (cd Try.f21 [1,1,1,1,1,0,1,0,0,1,1,0,0]) e (setN (setN (inB 0 (setN (kont Pg R Try.f21) (fun e => F21_j2 R (e 5) (e 7) (e 8) (e 9)))) (fun e => k1 (e 5) (e 6) (e 7) (e 8) (e 9) (e 25) (e 26))) (fun e => F21_j6 R k1 (e 5) (e 6) (e 7) (e 8) (e 9) (e 25) (e 26))) _ (by kernel_rfl) (den_join Pg R 2 (cd Try.f21 [1,1,1,1,1,0,1,0,0,1,1,0,0]) (cd Try.f21 [1,1,1,1,1,0,1,0,0,1,1,0,0,1,1,1]) e (inB 1 (setN (setN (inB 0 (setN (kont Pg R Try.f21) (fun e => F21_j2 R (e 5) (e 7) (e 8) (e 9)))) (fun e => k1 (e 5) (e 6) (e 7) (e 8) (e 9) (e 25) (e 26))) (fun e => F21_j6 R k1 (e 5) (e 6) (e 7) (e 8) (e 9) (e 25) (e 26)))) (fun e => F21_j8 R k1 (e 5) (e 6) (e 7) (e 8) (e 9) (e 10) (e 11) (e 25) (e 26) (e 35) (e 36) (e 37)) _ (by kernel_rfl) (fun e => F21_j8_ok R k1 e) (by kernel_rfl)))
def F21_j5 (R : ER) (k1 : V7) (x5 x6 x7 x8 x9 x25 x26 : Value) : WP :=
  F21_j7 R k1 x5 x6 x7 x8 x9 x25 x26
theorem F21_j5_ok (R : ER) (k1 : V7) (e : Env) : den Pg R (cd Try.f21 [1,1,1,1,1,0,1,0,0,1,1]) e (setN (inB 0 (setN (kont Pg R Try.f21) (fun e => F21_j2 R (e 5) (e 7) (e 8) (e 9)))) (fun e => k1 (e 5) (e 6) (e 7) (e 8) (e 9) (e 25) (e 26))) = (F21_j5 R k1 (e 5) (e 6) (e 7) (e 8) (e 9) (e 25) (e 26)) := (den_join Pg R 0 (cd Try.f21 [1,1,1,1,1,0,1,0,0,1,1]) (cd Try.f21 [1,1,1,1,1,0,1,0,0,1,1,1]) e (setN (inB 0 (setN (kont Pg R Try.f21) (fun e => F21_j2 R (e 5) (e 7) (e 8) (e 9)))) (fun e => k1 (e 5) (e 6) (e 7) (e 8) (e 9) (e 25) (e 26))) (fun e => F21_j6 R k1 (e 5) (e 6) (e 7) (e 8) (e 9) (e 25) (e 26)) _ (by kernel_rfl) (fun e => F21_j6_ok R k1 e) (den_conv Pg R (pre 0 (cd Try.f21 [1,1,1,1,1,0,1,0,0,1,1])) (cd Try.f21 [1,1,1,1,1,0,1,0,0,1,1,0]) e (setN (setN (inB 0 (setN (kont Pg R Try.f21) (fun e => F21_j2 R (e 5) (e 7) (e 8) (e 9)))) (fun e => k1 (e 5) (e 6) (e 7) (e 8) (e 9) (e 25) (e 26))) (fun e => F21_j6 R k1 (e 5) (e 6) (e 7) (e 8) (e 9) (e 25) (e 26))) _ (by kernel_rfl) (F21_j7_ok R k1 e)))
def F21_b1 (R : ER) (k1 : V7) (x5 x6 x7 x8 x9 x25 x26 : Value) : WP :=
  pv (bin .lss x26 x25) fun v31 =>
  cnd v31 (
   F21_j5 R k1 x5 x6 x7 x8 x9 x25 x26) (
   F21_j2 R x5 x7 x8 x9)
theorem F21_b1_ok (R : ER) (k1 : V7) (e : Env) : den Pg R (cd Try.f21 [1,1,1,1,1,0,1,0,0]) e (setN (inB 0 (setN (kont Pg R Try.f21) (fun e => F21_j2 R (e 5) (e 7) (e 8) (e 9)))) (fun e => k1 (e 5) (e 6) (e 7) (e 8) (e 9) (e 25) (e 26))) = (F21_b1 R k1 (e 5) (e 6) (e 7) (e 8) (e 9) (e 25) (e 26)) := (den_join Pg R 1 (cd Try.f21 [1,1,1,1,1,0,1,0,0]) (cd Try.f21 [1,1,1,1,1,0,1,0,0,1,1]) e (setN (inB 0 (setN (kont Pg R Try.f21) (fun e => F21_j2 R (e 5) (e 7) (e 8) (e 9)))) (fun e => k1 (e 5) (e 6) (e 7) (e 8) (e 9) (e 25) (e 26))) (fun e => F21_j5 R k1 (e 5) (e 6) (e 7) (e 8) (e 9) (e 25) (e 26)) _ (by kernel_rfl) (fun e => F21_j5_ok R k1 e) (by kernel_rfl))
noncomputable def F21_l2 (R : ER) (n : Nat) : V7 := Nat.rec (motive := fun _ => V7) (fun _ _ _ _ _ _ _ => fun _ => False) (fun _ ih => fun x5 x6 x7 x8 x9 x25 x26 => F21_b1 R ih x5 x6 x7 x8 x9 x25 x26) n
theorem F21_l2_succ (R : ER) (n : Nat) (x5 x6 x7 x8 x9 x25 x26 : Value) : F21_l2 R (n + 1) x5 x6 x7 x8 x9 x25 x26 = F21_b1 R (F21_l2 R n) x5 x6 x7 x8 x9 x25 x26 := rfl
theorem F21_l2_ok (R : ER) : ∀ (n : Nat) (e : Env), iterL (den Pg R (cd Try.f21 [1,1,1,1,1,0,1,0,0])) n e (inB 0 (setN (kont Pg R Try.f21) (fun e => F21_j2 R (e 5) (e 7) (e 8) (e 9)))) = F21_l2 R n (e 5) (e 6) (e 7) (e 8) (e 9) (e 25) (e 26) :=
  iterL_join (den Pg R (cd Try.f21 [1,1,1,1,1,0,1,0,0])) (inB 0 (setN (kont Pg R Try.f21) (fun e => F21_j2 R (e 5) (e 7) (e 8) (e 9)))) (fun n e => F21_l2 R n (e 5) (e 6) (e 7) (e 8) (e 9) (e 25) (e 26)) (fun _ => rfl) (fun n e => (F21_b1_ok R (F21_l2 R n) e).trans (F21_l2_succ R n (e 5) (e 6) (e 7) (e 8) (e 9) (e 25) (e 26)).symm)
def F21_j4 (R : ER) (x5 x6 x7 x8 x9 x25 x26 : Value) : WP :=
  exN fun n => F21_l2 R n x5 x6 x7 x8 x9 x25 x26
theorem F21_j4_ok (R : ER) (e : Env) : den Pg R (cd Try.f21 [1,1,1,1,1,0,1]) e (setN (kont Pg R Try.f21) (fun e => F21_j2 R (e 5) (e 7) (e 8) (e 9))) = (F21_j4 R (e 5) (e 6) (e 7) (e 8) (e 9) (e 25) (e 26)) := (den_block Pg R (cd Try.f21 [1,1,1,1,1,0,1]) 0 (cd Try.f21 [1,1,1,1,1,0,1,0]) e (setN (kont Pg R Try.f21) (fun e => F21_j2 R (e 5) (e 7) (e 8) (e 9))) _ (by kernel_rfl) (den_loop Pg R (cd Try.f21 [1,1,1,1,1,0,1,0]) (cd Try.f21 [1,1,1,1,1,0,1,0,0]) e (inB 0 (setN (kont Pg R Try.f21) (fun e => F21_j2 R (e 5) (e 7) (e 8) (e 9)))) (fun n e => F21_l2 R n (e 5) (e 6) (e 7) (e 8) (e 9) (e 25) (e 26)) _ (by kernel_rfl) (F21_l2_ok R) (by kernel_rfl)))
def F21_j3 (R : ER) (x1 x5 x6 x7 x8 x9 : Value) : WP :=
  pv (faO 0 x1) fun v32 =>
  ld1 v32 fun v33 =>
  pv (lenS v33) fun v34 =>
  F21_j4 R x5 x6 x7 x8 x9 v34 (.int .i64 0)
theorem F21_j3_ok (R : ER) (e : Env) : den Pg R (cd Try.f21 [1,1,1,1,1,0]) e (setN (kont Pg R Try.f21) (fun e => F21_j2 R (e 5) (e 7) (e 8) (e 9))) = (F21_j3 R (e 1) (e 5) (e 6) (e 7) (e 8) (e 9)) := (den_join Pg R 0 (cd Try.f21 [1,1,1,1,1,0]) (cd Try.f21 [1,1,1,1,1,0,1]) e (setN (kont Pg R Try.f21) (fun e => F21_j2 R (e 5) (e 7) (e 8) (e 9))) (fun e => F21_j4 R (e 5) (e 6) (e 7) (e 8) (e 9) (e 25) (e 26)) _ (by kernel_rfl) (fun e => F21_j4_ok R e) (by kernel_rfl))
def F21_j1 (R : ER) (x1 : Value) : WP :=
  drewV (
  ldN 2 x1 fun v35 =>
  mem fun w37 => cal Pg noR 46 ⟨[v35]⟩ fun v36 =>
  ldNS [w37] 2 x1 fun v38 =>
  mem fun w40 => cal Pg noR 44 ⟨[v38]⟩ fun v39 =>
  F21_j3 R x1 v36 v39 (.int .i64 (-1)) (.int .i64 0) (.slice none 0 0))
theorem F21_j1_ok (R : ER) (e : Env) : den Pg R (cd Try.f21 [1,1]) e (kont Pg R Try.f21) = (F21_j1 R (e 1)) := (den_join Pg R 3 (cd Try.f21 [1,1]) (cd Try.f21 [1,1,1,1,1,1]) e (kont Pg R Try.f21) (fun e => F21_j2 R (e 5) (e 7) (e 8) (e 9)) _ (by kernel_rfl) (fun e => F21_j2_ok R e) (den_join Pg R 2 (pre 3 (cd Try.f21 [1,1])) (cd Try.f21 [1,1,1,1,1,0]) e (setN (kont Pg R Try.f21) (fun e => F21_j2 R (e 5) (e 7) (e 8) (e 9))) (fun e => F21_j3 R (e 1) (e 5) (e 6) (e 7) (e 8) (e 9)) _ (by kernel_rfl) (fun e => F21_j3_ok R e) (by kernel_rfl)))
def F21 (R : ER) (x0 : Value) : WP :=
  bx 25 x0 fun v41 =>
  ldN 2 v41 fun v42 =>
  cal Pg R 16 ⟨[v42]⟩ fun v43 =>
  pv (bin .neq v43 (.int .i64 0)) fun v44 =>
  cnd v44 (
   R (.returned (.tuple ⟨[(.slice none 0 0), v43]⟩))) (
   F21_j1 R v41)
theorem F21_den (R : ER) (x0 : Value) : den Pg R (cd Try.f21 []) (argsEnv [x0]) (kont Pg R Try.f21) = F21 R x0 :=
  have h : ∀ e, den Pg R (cd Try.f21 []) e (kont Pg R Try.f21) = F21 R (e 0) := fun e => (den_join Pg R 1 (cd Try.f21 []) (cd Try.f21 [1,1]) e (kont Pg R Try.f21) (fun e => F21_j1 R (e 1)) _ (by kernel_rfl) (fun e => F21_j1_ok R e) (by kernel_rfl))
  h _
theorem F21_calls {R : ER} {x0 : Value} {w : World} (h : F21 R x0 w) : Calls Pg 21 ⟨[x0]⟩ w R :=
  calls_of_den Try.func21 (by kernel_rfl) (by kernel_rfl) (F21_den R x0) h
/-! ### 22: orpimentref05_Cycle -/
def F22_j2 (R : ER) (x5 : Value) : WP :=
  pv (eqNilS x5) fun v1 =>
  cnd v1 (
   R (.returned (.tuple ⟨[(.slice none 0 0), (.int .i64 22)]⟩))) (
   R (.returned (.tuple ⟨[x5, (.int .i64 0)]⟩)))
theorem F22_j2_ok (R : ER) (e : Env) : den Pg R (cd Try.f22 [1,1,1,1]) e (kont Pg R Try.f22) = (F22_j2 R (e 5)) := by kernel_rfl
def F22_j6 (R : ER) (k1 : V3) (x1 x5 x6 : Value) : WP :=
  pv (bin .add x6 (.int .i64 1)) fun v2 =>
  k1 x1 x5 v2
theorem F22_j6_ok (R : ER) (k1 : V3) (e : Env) : den Pg R (cd Try.f22 [1,1,1,0,1,0,0,1,1]) e (setN (inB 0 (setN (kont Pg R Try.f22) (fun e => F22_j2 R (e 5)))) (fun e => k1 (e 1) (e 5) (e 6))) = (F22_j6 R k1 (e 1) (e 5) (e 6)) := by kernel_rfl
def F22_j8 (R : ER) (k1 : V3) (x1 x5 x6 x7 x8 : Value) : WP :=
  pv (bin .geq x8 (.int .i64 0)) fun v3 =>
  gd v3 true (pv (some x5)) fun v4 =>
  gd v3 true (pv (eqNilS v4)) fun v5 =>
  gd v3 true (pv (some v5)) fun v6 =>
  gd v6 false (pv (some x7)) fun v7 =>
  gd v6 false (pv (some x8)) fun v8 =>
  gd v6 false (pv (ixS 1 v7 v8)) fun v9 =>
  gd v6 false (ld1 v9) fun v10 =>
  gd v6 false (pv (bin .add v10 (.int .i64 1))) fun v11 =>
  gd v6 false (pv (some x5)) fun v12 =>
  gd v6 false (pv (lenS v12)) fun v13 =>
  gd v6 false (pv (bin .lss v11 v13)) fun v14 =>
  gd v3 true (pv (pickO v6 (.bool true) v14)) fun v15 =>
  pv (pickO v3 v15 (.bool false)) fun v16 =>
  cnd v16 (
   valV Pg R (Instr.buildSlice 22 1 ⟨[(0, x6)]⟩) fun v17 =>
   ldN 2 x1 fun v18 =>
   cal Pg R 48 ⟨[v18, x8, x7]⟩ fun v19 =>
   blt Pg R .append ⟨[22,22]⟩ 22 ⟨[false, false]⟩ ⟨[v17, v19]⟩ fun v20 =>
   F22_j6 R k1 x1 v20 x6) (
   F22_j6 R k1 x1 x5 x6)
theorem F22_j8_ok (R : ER) (k1 : V3) (e : Env) : den Pg R (cd Try.f22 [1,1,1,0,1,0,0,1,0,0,1,1,1]) e (inB 1 (setN (setN (inB 0 (setN (kont Pg R Try.f22) (fun e => F22_j2 R (e 5)))) (fun e => k1 (e 1) (e 5) (e 6))) (fun e => F22_j6 R k1 (e 1) (e 5) (e 6)))) = (F22_j8 R k1 (e 1) (e 5) (e 6) (e 7) (e 8)) := (by kernel_rfl)
def F22_j12 (R : ER) (k1 : V3) (k2 : V6) (x1 x5 x6 x7 x8 x9 : Value) : WP :=
  pv (bin .add x9 (.int .i64 1)) fun v21 =>
  k2 x1 x5 x6 x7 x8 v21
theorem F22_j12_ok (R : ER) (k1 : V3) (k2 : V6) (e : Env) : den Pg R (cd Try.f22 [1,1,1,0,1,0,0,1,0,0,1,1,0,1,0,0,1,1]) e (setN (inB 2 (setN (inB 1 (setN (setN (inB 0 (setN (kont Pg R Try.f22) (fun e => F22_j2 R (e 5)))) (fun e => k1 (e 1) (e 5) (e 6))) (fun e => F22_j6 R k1 (e 1) (e 5) (e 6)))) (fun e => F22_j8 R k1 (e 1) (e 5) (e 6) (e 7) (e 8)))) (fun e => k2 (e 1) (e 5) (e 6) (e 7) (e 8) (e 9))) = (F22_j12 R k1 k2 (e 1) (e 5) (e 6) (e 7) (e 8) (e 9)) := by kernel_rfl
def F22_j13 (R : ER) (k1 : V3) (k2 : V6) (x1 x5 x6 x7 x8 x9 : Value) : WP :=
  drewV (
  pv (ixS 1 x7 x9) fun v22 =>
  ld1 v22 fun v23 =>
  pv (bin .gtr v23 (.int .i64 0)) fun v24 =>
  gd v24 true (pv (faO 1 x1)) fun v25 =>
  gd v24 true (ld1 v25) fun v26 =>
  gd v24 true (pv (some x6)) fun v27 =>
  gd v24 true (pv (some x9)) fun v28 =>
  gd v24 true (pv (bldO [.int .i64 0, .int .i64 0] [(0,1, v27), (1,1, v28)])) fun v29 =>
  mem fun w31 => gd v24 true (cal Pg noR 42 ⟨[v26, v29]⟩) fun v30 =>
  pv (pickO v24 v30 (.bool false)) fun v32 =>
  gd v32 true (pv (some x8)) fun v33 =>
  gd v32 true (pv (bin .lss v33 (.int .i64 0))) fun v34 =>
  gd v32 true (pv (some v34)) fun v35 =>
  gd v35 false (pv (some x7)) fun v36 =>
  gd v35 false (pv (some x9)) fun v37 =>
  gd v35 false (pv (ixS 1 v36 v37)) fun v38 =>
  gd v35 false (ld1 v38) fun v39 =>
  gd v35 false (pv (some x7)) fun v40 =>
  gd v35 false (pv (some x8)) fun v41 =>
  gd v35 false (pv (ixS 1 v40 v41)) fun v42 =>
  gd v35 false (ld1 v42) fun v43 =>
  gd v35 false (pv (bin .lss v39 v43)) fun v44 =>
  gd v32 true (pv (pickO v35 (.bool true) v44)) fun v45 =>
  pv (pickO v32 v45 (.bool false)) fun v46 =>
  cnd v46 (
   F22_j12 R k1 k2 x1 x5 x6 x7 x9 x9) (
   F22_j12 R k1 k2 x1 x5 x6 x7 x8 x9))
theorem F22_j13_ok (R : ER) (k1 : V3) (k2 : V6) (e : Env) : den Pg R (cd Try.f22 [1,1,1,0,1,0,0,1,0,0,1,1,0,1,0,0,1,0]) e (setN (setN (inB 2 (setN (inB 1 (setN (setN (inB 0 (setN (kont Pg R Try.f22) (fun e => F22_j2 R (e 5)))) (fun e => k1 (e 1) (e 5) (e 6))) (fun e => F22_j6 R k1 (e 1) (e 5) (e 6)))) (fun e => F22_j8 R k1 (e 1) (e 5) (e 6) (e 7) (e 8)))) (fun e => k2 (e 1) (e 5) (e 6) (e 7) (e 8) (e 9))) (fun e => F22_j12 R k1 k2 (e 1) (e 5) (e 6) (e 7) (e 8) (e 9))) = (F22_j13 R k1 k2 (e 1) (e 5) (e 6) (e 7) (e 8) (e 9)) := (den_block Pg R (cd Try.f22 [1,1,1,0,1,0,0,1,0,0,1,1,0,1,0,0,1,0]) 3 (cd Try.f22 [1,1,1,0,1,0,0,1,0,0,1,1,0,1,0,0,1,0,0]) e (setN (setN (inB 2 (setN (inB 1 (setN (setN (inB 0 (setN (kont Pg R Try.f22) (fun e => F22_j2 R (e 5)))) (fun e => k1 (e 1) (e 5) (e 6))) (fun e => F22_j6 R k1 (e 1) (e 5) (e 6)))) (fun e => F22_j8 R k1 (e 1) (e 5) (e 6) (e 7) (e 8)))) (fun e => k2 (e 1) (e 5) (e 6) (e 7) (e 8) (e 9))) (fun e => F22_j12 R k1 k2 (e 1) (e 5) (e 6) (e 7) (e 8) (e 9))) _ (by kernel_rfl) (by kernel_rfl))
def F22_j11 (R : ER) (k1 : V3) (k2 : V6) (x1 x5 x6 x7 x8 x9 : Value) : WP :=
  F22_j13 R k1 k2 x1 x5 x6 x7 x8 x9
theorem F22_j11_ok (R : ER) (k1 : V3) (k2 : V6) (e : Env) : den Pg R (cd Try.f22 [1,1,1,0,1,0,0,1,0,0,1,1,0,1,0,0,1]) e (setN (inB 2 (setN (inB 1 (setN (setN (inB 0 (setN (kont Pg R Try.f22) (fun e => F22_j2 R (e 5)))) (fun e => k1 (e 1) (e 5) (e 6))) (fun e => F22_j6 R k1 (e 1) (e 5) (e 6)))) (fun e => F22_j8 R k1 (e 1) (e 5) (e 6) (e 7) (e 8)))) (fun e => k2 (e 1) (e 5) (e 6) (e 7) (e 8) (e 9))) = (F22_j11 R k1 k2 (e 1) (e 5) (e 6) (e 7) (e 8) (e 9)) := (den_join Pg R 0 (cd Try.f22 [1,1,1,0,1,0,0,1,0,0,1,1,0,1,0,0,1]) (cd Try.f22 [1,1,1,0,1,0,0,1,0,0,1,1,0,1,0,0,1,1]) e (setN (inB 2 (setN (inB 1 (setN (setN (inB 0 (setN (kont Pg R Try.f22) (fun e => F22_j2 R (e 5)))) (fun e => k1 (e 1) (e 5) (e 6))) (fun e => F22_j6 R k1 (e 1) (e 5) (e 6)))) (fun e => F22_j8 R k1 (e 1) (e 5) (e 6) (e 7) (e 8)))) (fun e => k2 (e 1) (e 5) (e 6) (e 7) (e 8) (e 9))) (fun e => F22_j12 R k1 k2 (e 1) (e 5) (e 6) (e 7) (e 8) (e 9)) _ (by kernel_rfl) (fun e => F22_j12_ok R k1 k2 e) (den_conv Pg R (pre 0 (cd Try.f22 [1,1,1,0,1,0,0,1,0,0,1,1,0,1,0,0,1])) (cd Try.f22 [1,1,1,0,1,0,0,1,0,0,1,1,0,1,0,0,1,0]) e (setN (setN (inB 2 (setN (inB 1 (setN (setN (inB 0 (setN (kont Pg R Try.f22) (fun e => F22_j2 R (e 5)))) (fun e => k1 (e 1) (e 5) (e 6))) (fun e => F22_j6 R k1 (e 1) (e 5) (e 6)))) (fun e => F22_j8 R k1 (e 1) (e 5) (e 6) (e 7) (e 8)))) (fun e => k2 (e 1) (e 5) (e 6) (e 7) (e 8) (e 9))) (fun e => F22_j12 R k1 k2 (e 1) (e 5) (e 6) (e 7) (e 8) (e 9))) _ (by kernel_rfl) (F22_j13_ok R k1 k2 e)))
def F22_b2 (R : ER) (k1 : V3) (k2 : V6) (x1 x5 x6 x7 x8 x9 : Value) : WP :=
  pv (faO 0 x1) fun v47 =>
  ld1 v47 fun v48 =>
  pv (lenS v48) fun v49 =>
  pv (bin .lss x9 v49) fun v50 =>
  cnd v50 (
   F22_j11 R k1 k2 x1 x5 x6 x7 x8 x9) (
   F22_j8 R k1 x1 x5 x6 x7 x8)
theorem F22_b2_ok (R : ER) (k1 : V3) (k2 : V6) (e : Env) : den Pg R (cd Try.f22 [1,1,1,0,1,0,0,1,0,0,1,1,0,1,0,0]) e (setN (inB 2 (setN (inB 1 (setN (setN (inB 0 (setN (kont Pg R Try.f22) (fun e => F22_j2 R (e 5)))) (fun e => k1 (e 1) (e 5) (e 6))) (fun e => F22_j6 R k1 (e 1) (e 5) (e 6)))) (fun e => F22_j8 R k1 (e 1) (e 5) (e 6) (e 7) (e 8)))) (fun e => k2 (e 1) (e 5) (e 6) (e 7) (e 8) (e 9))) = (F22_b2 R k1 k2 (e 1) (e 5) (e 6) (e 7) (e 8) (e 9)) := (den_join Pg R 0 (cd Try.f22 [1,1,1,0,1,0,0,1,0,0,1,1,0,1,0,0]) (cd Try.f22 [1,1,1,0,1,0,0,1,0,0,1,1,0,1,0,0,1]) e (setN (inB 2 (setN (inB 1 (setN (setN (inB 0 (setN (kont Pg R Try.f22) (fun e => F22_j2 R (e 5)))) (fun e => k1 (e 1) (e 5) (e 6))) (fun e => F22_j6 R k1 (e 1) (e 5) (e 6)))) (fun e => F22_j8 R k1 (e 1) (e 5) (e 6) (e 7) (e 8)))) (fun e => k2 (e 1) (e 5) (e 6) (e 7) (e 8) (e 9))) (fun e => F22_j11 R k1 k2 (e 1) (e 5) (e 6) (e 7) (e 8) (e 9)) _ (by kernel_rfl) (fun e => F22_j11_ok R k1 k2 e) (by kernel_rfl))
noncomputable def F22_l1 (R : ER) (k1 : V3) (n : Nat) : V6 := Nat.rec (motive := fun _ => V6) (fun _ _ _ _ _ _ => fun _ => False) (fun _ ih => fun x1 x5 x6 x7 x8 x9 => F22_b2 R k1 ih x1 x5 x6 x7 x8 x9) n
theorem F22_l1_succ (R : ER) (k1 : V3) (n : Nat) (x1 x5 x6 x7 x8 x9 : Value) : F22_l1 R k1 (n + 1) x1 x5 x6 x7 x8 x9 = F22_b2 R k1 (F22_l1 R k1 n) x1 x5 x6 x7 x8 x9 := rfl
theorem F22_l1_ok (R : ER) (k1 : V3) : ∀ (n : Nat) (e : Env), iterL (den Pg R (cd Try.f22 [1,1,1,0,1,0,0,1,0,0,1,1,0,1,0,0])) n e (inB 2 (setN (inB 1 (setN (setN (inB 0 (setN (kont Pg R Try.f22) (fun e => F22_j2 R (e 5)))) (fun e => k1 (e 1) (e 5) (e 6))) (fun e => F22_j6 R k1 (e 1) (e 5) (e 6)))) (fun e => F22_j8 R k1 (e 1) (e 5) (e 6) (e 7) (e 8)))) = F22_l1 R k1 n (e 1) (e 5) (e 6) (e 7) (e 8) (e 9) :=
  iterL_join (den Pg R (cd Try.f22 [1,1,1,0,1,0,0,1,0,0,1,1,0,1,0,0])) (inB 2 (setN (inB 1 (setN (setN (inB 0 (setN (kont Pg R Try.f22) (fun e => F22_j2 R (e 5)))) (fun e => k1 (e 1) (e 5) (e 6))) (fun e => F22_j6 R k1 (e 1) (e 5) (e 6)))) (fun e => F22_j8 R k1 (e 1) (e 5) (e 6) (e 7) (e 8)))) (fun n e => F22_l1 R k1 n (e 1) (e 5) (e 6) (e 7) (e 8) (e 9)) (fun _ => rfl) (fun n e => (F22_b2_ok R k1 (F22_l1 R k1 n) e).trans (F22_l1_succ R k1 n (e 1) (e 5) (e 6) (e 7) (e 8) (e 9)).symm)
def F22_j10 (R : ER) (k1 : V3) (x1 x5 x6 x7 x8 x9 : Value) : WP :=
  exN fun n => F22_l1 R k1 n x1 x5 x6 x7 x8 x9
theorem F22_j10_ok (R : ER) (k1 : V3) (e : Env) : den Pg R (cd Try.f22 [1,1,1,0,1,0,0,1,0,0,1,1,0,1]) e (setN (inB 1 (setN (setN (inB 0 (setN (kont Pg R Try.f22) (fun e => F22_j2 R (e 5)))) (fun e => k1 (e 1) (e 5) (e 6))) (fun e => F22_j6 R k1 (e 1) (e 5) (e 6)))) (fun e => F22_j8 R k1 (e 1) (e 5) (e 6) (e 7) (e 8))) = (F22_j10 R k1 (e 1) (e 5) (e 6) (e 7) (e 8) (e 9)) := (den_block Pg R (cd Try.f22 [1,1,1,0,1,0,0,1,0,0,1,1,0,1]) 2 (cd Try.f22 [1,1,1,0,1,0,0,1,0,0,1,1,0,1,0]) e (setN (inB 1 (setN (setN (inB 0 (setN (kont Pg R Try.f22) (fun e => F22_j2 R (e 5)))) (fun e => k1 (e 1) (e 5) (e 6))) (fun e => F22_j6 R k1 (e 1) (e 5) (e 6)))) (fun e => F22_j8 R k1 (e 1) (e 5) (e 6) (e 7) (e 8))) _ (by kernel_rfl) (den_loop Pg R (cd Try.f22 [1,1,1,0,1,0,0,1,0,0,1,1,0,1,0]) (cd Try.f22 [1,1,1,0,1,0,0,1,0,0,1,1,0,1,0,0]) e (inB 2 (setN (inB 1 (setN (setN (inB 0 (setN (kont Pg R Try.f22) (fun e => F22_j2 R (e 5)))) (fun e => k1 (e 1) (e 5) (e 6))) (fun e => F22_j6 R k1 (e 1) (e 5) (e 6)))) (fun e => F22_j8 R k1 (e 1) (e 5) (e 6) (e 7) (e 8)))) (fun n e => F22_l1 R k1 n (e 1) (e 5) (e 6) (e 7) (e 8) (e 9)) _ (by kernel_rfl) (F22_l1_ok R k1) (by kernel_rfl)))
def F22_j9 (R : ER) (k1 : V3) (x1 x5 x6 x7 x8 : Value) : WP :=
  F22_j10 R k1 x1 x5 x6 x7 x8 (.int .i64 0)
theorem F22_j9_ok (R : ER) (k1 : V3) (e : Env) : den Pg R (cd Try.f22 [1,1,1,0,1,0,0,1,0,0,1,1,0]) e (setN (inB 1 (setN (setN (inB 0 (setN (kont Pg R Try.f22) (fun e => F22_j2 R (e 5)))) (fun e => k1 (e 1) (e 5) (e 6))) (fun e => F22_j6 R k1 (e 1) (e 5) (e 6)))) (fun e => F22_j8 R k1 (e 1) (e 5) (e 6) (e 7) (e 8))) = (F22_j9 R k1 (e 1) (e 5) (e 6) (e 7) (e 8)) := (den_join Pg R 0 (cd Try.f22 [1,1,1,0,1,0,0,1,0,0,1,1,0]) (cd Try.f22 [1,1,1,0,1,0,0,1,0,0,1,1,0,1]) e (setN (inB 1 (setN (setN (inB 0 (setN (kont Pg R Try.f22) (fun e => F22_j2 R (e 5)))) (fun e => k1 (e 1) (e 5) (e 6))) (fun e => F22_j6 R k1 (e 1) (e 5) (e 6)))) (fun e => F22_j8 R k1 (e 1) (e 5) (e 6) (e 7) (e 8))) (fun e => F22_j10 R k1 (e 1) (e 5) (e 6) (e 7) (e 8) (e 9)) _ (by kernel_rfl) (fun e => F22_j10_ok R k1 e) (by kernel_rfl))
def F22_j7 (R : ER) (k1 : V3) (x1 x5 x6 : Value) : WP :=
  ldN 2 x1 fun v51 =>
  cal Pg R 47 ⟨[v51, x6]⟩ fun v52 =>
  F22_j9 R k1 x1 x5 x6 v52 (.int .i64 (-1))
theorem F22_j7_ok (R : ER) (k1 : V3) (e : Env) : den Pg R (cd Try.f22 [1,1,1,0,1,0,0,1,0]) e (setN (setN (inB 0 (setN (kont Pg R Try.f22) (fun e => F22_j2 R (e 5)))) (fun e => k1 (e 1) (e 5) (e 6))) (fun e => F22_j6 R k1 (e 1) (e 5) (e 6))) = (F22_j7 R k1 (e 1) (e 5) (e 6)) := (den_block Pg R (cd Try.f22 [1,1,1,0,1,0,0,1,0]) 1 (cd Try.f22 [1,1,1,0,1,0,0,1,0,0]) e (setN (setN (inB 0 (setN (kont Pg R Try.f22) (fun e => F22_j2 R (e 5)))) (fun e => k1 (e 1) (e 5) (e 6))) (fun e => F22_j6 R k1 (e 1) (e 5) (e 6))) _ (by kernel_rfl) (den_join Pg R 2 (cd Try.f22 [1,1,1,0,1,0,0,1,0,0]) (cd Try.f22 [1,1,1,0,1,0,0,1,0,0,1,1,1]) e (inB 1 (setN (setN (inB 0 (setN (kont Pg R Try.f22) (fun e => F22_j2 R (e 5)))) (fun e => k1 (e 1) (e 5) (e 6))) (fun e => F22_j6 R k1 (e 1) (e 5) (e 6)))) (fun e => F22_j8 R k1 (e 1) (e 5) (e 6) (e 7) (e 8)) _ (by kernel_rfl) (fun e => F22_j8_ok R k1 e) (den_join Pg R 1 (pre 2 (cd Try.f22 [1,1,1,0,1,0,0,1,0,0])) (cd Try.f22 [1,1,1,0,1,0,0,1,0,0,1,1,0]) e (setN (inB 1 (setN (setN (inB 0 (setN (kont Pg R Try.f22) (fun e => F22_j2 R (e 5)))) (fun e => k1 (e 1) (e 5) (e 6))) (fun e => F22_j6 R k1 (e 1) (e 5) (e 6)))) (fun e => F22_j8 R k1 (e 1) (e 5) (e 6) (e 7) (e 8))) (fun e => F22_j9 R k1 (e 1) (e 5) (e 6) (e 7) (e 8)) _ (by kernel_rfl) (fun e => F22_j9_ok R k1 e) (by kernel_rfl))))
def F22_j5 (R : ER) (k1 : V3) (x1 x5 x6 : Value) : WP :=
  F22_j7 R k1 x1 x5 x6
theorem F22_j5_ok (R : ER) (k1 : V3) (e : Env) : den Pg R (cd Try.f22 [1,1,1,0,1,0,0,1]) e (setN (inB 0 (setN (kont Pg R Try.f22) (fun e => F22_j2 R (e 5)))) (fun e => k1 (e 1) (e 5) (e 6))) = (F22_j5 R k1 (e 1) (e 5) (e 6)) := (den_join Pg R 0 (cd Try.f22 [1,1,1,0,1,0,0,1]) (cd Try.f22 [1,1,1,0,1,0,0,1,1]) e (setN (inB 0 (setN (kont Pg R Try.f22) (fun e => F22_j2 R (e 5)))) (fun e => k1 (e 1) (e 5) (e 6))) (fun e => F22_j6 R k1 (e 1) (e 5) (e 6)) _ (by kernel_rfl) (fun e => F22_j6_ok R k1 e) (den_conv Pg R (pre 0 (cd Try.f22 [1,1,1,0,1,0,0,1])) (cd Try.f22 [1,1,1,0,1,0,0,1,0]) e (setN (setN (inB 0 (setN (kont Pg R Try.f22) (fun e => F22_j2 R (e 5)))) (fun e => k1 (e 1) (e 5) (e 6))) (fun e => F22_j6 R k1 (e 1) (e 5) (e 6))) _ (by kernel_rfl) (F22_j7_ok R k1 e)))
def F22_b1 (R : ER) (k1 : V3) (x1 x5 x6 : Value) : WP :=
  pv (faO 0 x1) fun v53 =>
  ld1 v53 fun v54 =>
  pv (lenS v54) fun v55 =>
  pv (bin .lss x6 v55) fun v56 =>
  cnd v56 (
   F22_j5 R k1 x1 x5 x6) (
   F22_j2 R x5)
theorem F22_b1_ok (R : ER) (k1 : V3) (e : Env) : den Pg R (cd Try.f22 [1,1,1,0,1,0,0]) e (setN (inB 0 (setN (kont Pg R Try.f22) (fun e => F22_j2 R (e 5)))) (fun e => k1 (e 1) (e 5) (e 6))) = (F22_b1 R k1 (e 1) (e 5) (e 6)) := (den_join Pg R 0 (cd Try.f22 [1,1,1,0,1,0,0]) (cd Try.f22 [1,1,1,0,1,0,0,1]) e (setN (inB 0 (setN (kont Pg R Try.f22) (fun e => F22_j2 R (e 5)))) (fun e => k1 (e 1) (e 5) (e 6))) (fun e => F22_j5 R k1 (e 1) (e 5) (e 6)) _ (by kernel_rfl) (fun e => F22_j5_ok R k1 e) (by kernel_rfl))
noncomputable def F22_l2 (R : ER) (n : Nat) : V3 := Nat.rec (motive := fun _ => V3) (fun _ _ _ => fun _ => False) (fun _ ih => fun x1 x5 x6 => F22_b1 R ih x1 x5 x6) n
theorem F22_l2_succ (R : ER) (n : Nat) (x1 x5 x6 : Value) : F22_l2 R (n + 1) x1 x5 x6 = F22_b1 R (F22_l2 R n) x1 x5 x6 := rfl
theorem F22_l2_ok (R : ER) : ∀ (n : Nat) (e : Env), iterL (den Pg R (cd Try.f22 [1,1,1,0,1,0,0])) n e (inB 0 (setN (kont Pg R Try.f22) (fun e => F22_j2 R (e 5)))) = F22_l2 R n (e 1) (e 5) (e 6) :=
  iterL_join (den Pg R (cd Try.f22 [1,1,1,0,1,0,0])) (inB 0 (setN (kont Pg R Try.f22) (fun e => F22_j2 R (e 5)))) (fun n e => F22_l2 R n (e 1) (e 5) (e 6)) (fun _ => rfl) (fun n e => (F22_b1_ok R (F22_l2 R n) e).trans (F22_l2_succ R n (e 1) (e 5) (e 6)).symm)
def F22_j4 (R : ER) (x1 x5 x6 : Value) : WP :=
  exN fun n => F22_l2 R n x1 x5 x6
theorem F22_j4_ok (R : ER) (e : Env) : den Pg R (cd Try.f22 [1,1,1,0,1]) e (setN (kont Pg R Try.f22) (fun e => F22_j2 R (e 5))) = (F22_j4 R (e 1) (e 5) (e 6)) := (den_block Pg R (cd Try.f22 [1,1,1,0,1]) 0 (cd Try.f22 [1,1,1,0,1,0]) e (setN (kont Pg R Try.f22) (fun e => F22_j2 R (e 5))) _ (by kernel_rfl) (den_loop Pg R (cd Try.f22 [1,1,1,0,1,0]) (cd Try.f22 [1,1,1,0,1,0,0]) e (inB 0 (setN (kont Pg R Try.f22) (fun e => F22_j2 R (e 5)))) (fun n e => F22_l2 R n (e 1) (e 5) (e 6)) _ (by kernel_rfl) (F22_l2_ok R) (by kernel_rfl)))
def F22_j3 (R : ER) (x1 x5 : Value) : WP :=
  F22_j4 R x1 x5 (.int .i64 0)
theorem F22_j3_ok (R : ER) (e : Env) : den Pg R (cd Try.f22 [1,1,1,0]) e (setN (kont Pg R Try.f22) (fun e => F22_j2 R (e 5))) = (F22_j3 R (e 1) (e 5)) := (den_join Pg R 0 (cd Try.f22 [1,1,1,0]) (cd Try.f22 [1,1,1,0,1]) e (setN (kont Pg R Try.f22) (fun e => F22_j2 R (e 5))) (fun e => F22_j4 R (e 1) (e 5) (e 6)) _ (by kernel_rfl) (fun e => F22_j4_ok R e) (by kernel_rfl))
def F22_j1 (R : ER) (x1 : Value) : WP :=
  F22_j3 R x1 (.slice none 0 0)
theorem F22_j1_ok (R : ER) (e : Env) : den Pg R (cd Try.f22 [1,1]) e (kont Pg R Try.f22) = (F22_j1 R (e 1)) := (den_join Pg R 1 (cd Try.f22 [1,1]) (cd Try.f22 [1,1,1,1]) e (kont Pg R Try.f22) (fun e => F22_j2 R (e 5)) _ (by kernel_rfl) (fun e => F22_j2_ok R e) (den_join Pg R 0 (pre 1 (cd Try.f22 [1,1])) (cd Try.f22 [1,1,1,0]) e (setN (kont Pg R Try.f22) (fun e => F22_j2 R (e 5))) (fun e => F22_j3 R (e 1) (e 5)) _ (by kernel_rfl) (fun e => F22_j3_ok R e) (by kernel_rfl)))
def F22 (R : ER) (x0 : Value) : WP :=
  bx 32 x0 fun v57 =>
  ldN 2 v57 fun v58 =>
  cal Pg R 17 ⟨[v58]⟩ fun v59 =>
  pv (bin .neq v59 (.int .i64 0)) fun v60 =>
  cnd v60 (
   R (.returned (.tuple ⟨[(.slice none 0 0), v59]⟩))) (
   F22_j1 R v57)
theorem F22_den (R : ER) (x0 : Value) : den Pg R (cd Try.f22 []) (argsEnv [x0]) (kont Pg R Try.f22) = F22 R x0 :=
  have h : ∀ e, den Pg R (cd Try.f22 []) e (kont Pg R Try.f22) = F22 R (e 0) := fun e => (den_join Pg R 1 (cd Try.f22 []) (cd Try.f22 [1,1]) e (kont Pg R Try.f22) (fun e => F22_j1 R (e 1)) _ (by kernel_rfl) (fun e => F22_j1_ok R e) (by kernel_rfl))
  h _
theorem F22_calls {R : ER} {x0 : Value} {w : World} (h : F22 R x0 w) : Calls Pg 22 ⟨[x0]⟩ w R :=
  calls_of_den Try.func22 (by kernel_rfl) (by kernel_rfl) (F22_den R x0) h
/-! ### 23: inherit_Tracker_Graph -/
def F23_j1 (R : ER) (x0 x2 : Value) : WP :=
  cal Pg R 49 ⟨[x0]⟩ fun v1 =>
  al Pg 25 fun v2 =>
  stN 2 v2 v1 fun _ =>
  pv (faO 0 v2) fun v3 =>
  ld1 v3 fun v4 =>
  cal Pg R 50 ⟨[v4]⟩ fun v5 =>
  pv (faO 0 v2) fun v6 =>
  st1 v6 v5 fun _ =>
  ldN 2 v2 fun v7 =>
  stN 2 x2 v7 fun _ =>
  ldN 2 x2 fun v8 => R (.returned v8)
theorem F23_j1_ok (R : ER) (e : Env) : den Pg R (cd Try.f23 [1,1]) e (kont Pg R Try.f23) = (F23_j1 R (e 0) (e 2)) := by kernel_rfl
def F23 (R : ER) (x0 : Value) : WP :=
  al Pg 25 fun v9 =>
  pv (eqNilP x0) fun v10 =>
  cnd v10 (
   pv (bldO [.slice none 0 0, .slice none 0 0] []) fun v11 =>
   stN 2 v9 v11 fun _ =>
   ldN 2 v9 fun v12 => R (.returned v12)) (
   F23_j1 R x0 v9)
theorem F23_den (R : ER) (x0 : Value) : den Pg R (cd Try.f23 []) (argsEnv [x0]) (kont Pg R Try.f23) = F23 R x0 :=
  have h : ∀ e, den Pg R (cd Try.f23 []) e (kont Pg R Try.f23) = F23 R (e 0) := fun e => (den_join Pg R 1 (cd Try.f23 []) (cd Try.f23 [1,1]) e (kont Pg R Try.f23) (fun e => F23_j1 R (e 0) (e 2)) _ (by kernel_rfl) (fun e => F23_j1_ok R e) (by kernel_rfl))
  h _
theorem F23_calls {R : ER} {x0 : Value} {w : World} (h : F23 R x0 w) : Calls Pg 23 ⟨[x0]⟩ w R :=
  calls_of_den Try.func23 (by kernel_rfl) (by kernel_rfl) (F23_den R x0) h
/-! ### 24: orpimentlaw05_step -/
def F24_j1 (R : ER) (x0 x1 x7 : Value) : WP :=
  ldN 2 x7 fun v1 =>
  cal Pg R 31 ⟨[x0, v1]⟩ fun v2 =>
  pv (extO 0 v2) fun v3 =>
  pv (extO 1 v2) fun v4 =>
  ldN 2 x7 fun v5 =>
  cal Pg R 56 ⟨[x1, v5]⟩ fun v6 =>
  pv (extO 0 v6) fun v7 =>
  pv (extO 1 v6) fun v8 =>
  cal Pg R 52 ⟨[v3, v7]⟩ fun v9 =>
  gd v9 true (pv (some v4)) fun v10 =>
  gd v9 true (pv (some v8)) fun v11 =>
  gd v9 true (pv (bin .eql v10 v11)) fun v12 =>
  pv (pickO v9 v12 (.bool false)) fun v13 =>
  R (.returned v13)
theorem F24_j1_ok (R : ER) (e : Env) : den Pg R (cd Try.f24 [1,1,1]) e (kont Pg R Try.f24) = (F24_j1 R (e 0) (e 1) (e 7)) := by kernel_rfl
def F24_j5 (R : ER) (x0 x1 x7 : Value) : WP :=
  ldN 2 x7 fun v14 =>
  cal Pg R 28 ⟨[x0, v14]⟩ fun v15 =>
  pv (extO 0 v15) fun v16 =>
  pv (extO 1 v15) fun v17 =>
  ldN 2 x7 fun v18 =>
  cal Pg R 51 ⟨[x1, v18]⟩ fun v19 =>
  pv (extO 0 v19) fun v20 =>
  pv (extO 1 v19) fun v21 =>
  cal Pg R 52 ⟨[v16, v20]⟩ fun v22 =>
  gd v22 true (pv (some v17)) fun v23 =>
  gd v22 true (pv (some v21)) fun v24 =>
  gd v22 true (pv (bin .eql v23 v24)) fun v25 =>
  pv (pickO v22 v25 (.bool false)) fun v26 =>
  R (.returned v26)
theorem F24_j5_ok (R : ER) (e : Env) : den Pg R (cd Try.f24 [1,1,0,1,0,1,0]) e (inB 0 (setN (kont Pg R Try.f24) (fun e => F24_j1 R (e 0) (e 1) (e 7)))) = (F24_j5 R (e 0) (e 1) (e 7)) := by kernel_rfl
def F24_j8 (R : ER) (x0 x1 x5 : Value) : WP :=
  pv (faO 1 x5) fun v27 =>
  ld1 v27 fun v28 =>
  pv (faO 2 x5) fun v29 =>
  ld1 v29 fun v30 =>
  cal Pg R 29 ⟨[x0, v28, v30]⟩ fun v31 =>
  pv (extO 0 v31) fun v32 =>
  pv (extO 1 v31) fun v33 =>
  pv (faO 1 x5) fun v34 =>
  ld1 v34 fun v35 =>
  pv (faO 2 x5) fun v36 =>
  ld1 v36 fun v37 =>
  cal Pg R 53 ⟨[x1, v35, v37]⟩ fun v38 =>
  pv (extO 0 v38) fun v39 =>
  pv (extO 1 v38) fun v40 =>
  cal Pg R 52 ⟨[v32, v39]⟩ fun v41 =>
  gd v41 true (pv (some v33)) fun v42 =>
  gd v41 true (pv (some v40)) fun v43 =>
  gd v41 true (pv (bin .eql v42 v43)) fun v44 =>
  pv (pickO v41 v44 (.bool false)) fun v45 =>
  R (.returned v45)
theorem F24_j8_ok (R : ER) (e : Env) : den Pg R (cd Try.f24 [1,1,0,1,0,1,1,1,0]) e (inB 0 (setN (kont Pg R Try.f24) (fun e => F24_j1 R (e 0) (e 1) (e 7)))) = (F24_j8 R (e 0) (e 1) (e 5)) := by kernel_rfl
def F24_j11 (R : ER) (x0 x1 x5 : Value) : WP :=
  pv (faO 3 x5) fun v46 =>
  ld1 v46 fun v47 =>
  cal Pg R 30 ⟨[x0, v47]⟩ fun v48 =>
  pv (extO 0 v48) fun v49 =>
  pv (extO 1 v48) fun v50 =>
  pv (faO 3 x5) fun v51 =>
  ld1 v51 fun v52 =>
  cal Pg R 54 ⟨[x1, v52]⟩ fun v53 =>
  pv (extO 0 v53) fun v54 =>
  pv (extO 1 v53) fun v55 =>
  cal Pg R 52 ⟨[v49, v54]⟩ fun v56 =>
  gd v56 true (pv (some v50)) fun v57 =>
  gd v56 true (pv (some v55)) fun v58 =>
  gd v56 true (pv (bin .eql v57 v58)) fun v59 =>
  pv (pickO v56 v59 (.bool false)) fun v60 =>
  R (.returned v60)
theorem F24_j11_ok (R : ER) (e : Env) : den Pg R (cd Try.f24 [1,1,0,1,0,1,1,1,1,1,0]) e (inB 0 (setN (kont Pg R Try.f24) (fun e => F24_j1 R (e 0) (e 1) (e 7)))) = (F24_j11 R (e 0) (e 1) (e 5)) := by kernel_rfl
def F24_j14 (R : ER) (x0 x1 x5 : Value) : WP :=
  pv (faO 1 x5) fun v61 =>
  ld1 v61 fun v62 =>
  cal Pg R 32 ⟨[x0, v62]⟩ fun v63 =>
  pv (extO 0 v63) fun v64 =>
  pv (extO 1 v63) fun v65 =>
  pv (faO 1 x5) fun v66 =>
  ld1 v66 fun v67 =>
  cal Pg R 55 ⟨[x1, v67]⟩ fun v68 =>
  pv (extO 0 v68) fun v69 =>
  pv (extO 1 v68) fun v70 =>
  pv (bin .eql v64 v69) fun v71 =>
  gd v71 true (pv (some v65)) fun v72 =>
  gd v71 true (pv (some v70)) fun v73 =>
  gd v71 true (pv (bin .eql v72 v73)) fun v74 =>
  pv (pickO v71 v74 (.bool false)) fun v75 =>
  R (.returned v75)
theorem F24_j14_ok (R : ER) (e : Env) : den Pg R (cd Try.f24 [1,1,0,1,0,1,1,1,1,1,1,1,0]) e (inB 0 (setN (kont Pg R Try.f24) (fun e => F24_j1 R (e 0) (e 1) (e 7)))) = (F24_j14 R (e 0) (e 1) (e 5)) := by kernel_rfl
def F24_j13 (R : ER) (x0 x1 x5 x7 x110 : Value) : WP :=
  cnd x110 (F24_j14 R x0 x1 x5) (F24_j1 R x0 x1 x7)
theorem F24_j13_ok (R : ER) (e : Env) : den Pg R (cd Try.f24 [1,1,0,1,0,1,1,1,1,1,1,1]) e (inB 0 (setN (kont Pg R Try.f24) (fun e => F24_j1 R (e 0) (e 1) (e 7)))) = (F24_j13 R (e 0) (e 1) (e 5) (e 7) (e 110)) := (den_if Pg R (cd Try.f24 [1,1,0,1,0,1,1,1,1,1,1,1]) (cd Try.f24 [1,1,0,1,0,1,1,1,1,1,1,1,0]) (cd Try.f24 [1,1,0,1,0,1,1,1,1,1,1,1,1]) e (inB 0 (setN (kont Pg R Try.f24) (fun e => F24_j1 R (e 0) (e 1) (e 7)))) (F24_j14 R (e 0) (e 1) (e 5)) _ _ (by kernel_rfl) (F24_j14_ok R e) rfl (by kernel_rfl))
def F24_j12 (R : ER) (x0 x1 x5 x7 x35 : Value) : WP :=
  pv (bin .eql x35 (.int .u8 5)) fun v76 =>
  F24_j13 R x0 x1 x5 x7 v76
theorem F24_j12_ok (R : ER) (e : Env) : den Pg R (cd Try.f24 [1,1,0,1,0,1,1,1,1,1,1]) e (inB 0 (setN (kont Pg R Try.f24) (fun e => F24_j1 R (e 0) (e 1) (e 7)))) = (F24_j12 R (e 0) (e 1) (e 5) (e 7) (e 35)) := (den_join Pg R 0 (cd Try.f24 [1,1,0,1,0,1,1,1,1,1,1]) (cd Try.f24 [1,1,0,1,0,1,1,1,1,1,1,1]) e (inB 0 (setN (kont Pg R Try.f24) (fun e => F24_j1 R (e 0) (e 1) (e 7)))) (fun e => F24_j13 R (e 0) (e 1) (e 5) (e 7) (e 110)) _ (by kernel_rfl) (fun e => F24_j13_ok R e) (by kernel_rfl))
def F24_j10 (R : ER) (x0 x1 x5 x7 x35 x86 : Value) : WP :=
  cnd x86 (F24_j11 R x0 x1 x5) (F24_j12 R x0 x1 x5 x7 x35)
theorem F24_j10_ok (R : ER) (e : Env) : den Pg R (cd Try.f24 [1,1,0,1,0,1,1,1,1,1]) e (inB 0 (setN (kont Pg R Try.f24) (fun e => F24_j1 R (e 0) (e 1) (e 7)))) = (F24_j10 R (e 0) (e 1) (e 5) (e 7) (e 35) (e 86)) := (den_if Pg R (cd Try.f24 [1,1,0,1,0,1,1,1,1,1]) (cd Try.f24 [1,1,0,1,0,1,1,1,1,1,0]) (cd Try.f24 [1,1,0,1,0,1,1,1,1,1,1]) e (inB 0 (setN (kont Pg R Try.f24) (fun e => F24_j1 R (e 0) (e 1) (e 7)))) (F24_j11 R (e 0) (e 1) (e 5)) (F24_j12 R (e 0) (e 1) (e 5) (e 7) (e 35)) _ (by kernel_rfl) (F24_j11_ok R e) (F24_j12_ok R e) (by kernel_rfl))
def F24_j9 (R : ER) (x0 x1 x5 x7 x35 : Value) : WP :=
  pv (bin .eql x35 (.int .u8 4)) fun v77 =>
  F24_j10 R x0 x1 x5 x7 x35 v77
theorem F24_j9_ok (R : ER) (e : Env) : den Pg R (cd Try.f24 [1,1,0,1,0,1,1,1,1]) e (inB 0 (setN (kont Pg R Try.f24) (fun e => F24_j1 R (e 0) (e 1) (e 7)))) = (F24_j9 R (e 0) (e 1) (e 5) (e 7) (e 35)) := (den_join Pg R 0 (cd Try.f24 [1,1,0,1,0,1,1,1,1]) (cd Try.f24 [1,1,0,1,0,1,1,1,1,1]) e (inB 0 (setN (kont Pg R Try.f24) (fun e => F24_j1 R (e 0) (e 1) (e 7)))) (fun e => F24_j10 R (e 0) (e 1) (e 5) (e 7) (e 35) (e 86)) _ (by kernel_rfl) (fun e => F24_j10_ok R e) (by kernel_rfl))
def F24_j7 (R : ER) (x0 x1 x5 x7 x35 x58 : Value) : WP :=
  cnd x58 (F24_j8 R x0 x1 x5) (F24_j9 R x0 x1 x5 x7 x35)
theorem F24_j7_ok (R : ER) (e : Env) : den Pg R (cd Try.f24 [1,1,0,1,0,1,1,1]) e (inB 0 (setN (kont Pg R Try.f24) (fun e => F24_j1 R (e 0) (e 1) (e 7)))) = (F24_j7 R (e 0) (e 1) (e 5) (e 7) (e 35) (e 58)) := (den_if Pg R (cd Try.f24 [1,1,0,1,0,1,1,1]) (cd Try.f24 [1,1,0,1,0,1,1,1,0]) (cd Try.f24 [1,1,0,1,0,1,1,1,1]) e (inB 0 (setN (kont Pg R Try.f24) (fun e => F24_j1 R (e 0) (e 1) (e 7)))) (F24_j8 R (e 0) (e 1) (e 5)) (F24_j9 R (e 0) (e 1) (e 5) (e 7) (e 35)) _ (by kernel_rfl) (F24_j8_ok R e) (F24_j9_ok R e) (by kernel_rfl))
def F24_j6 (R : ER) (x0 x1 x5 x7 x35 : Value) : WP :=
  pv (bin .eql x35 (.int .u8 3)) fun v78 =>
  F24_j7 R x0 x1 x5 x7 x35 v78
theorem F24_j6_ok (R : ER) (e : Env) : den Pg R (cd Try.f24 [1,1,0,1,0,1,1]) e (inB 0 (setN (kont Pg R Try.f24) (fun e => F24_j1 R (e 0) (e 1) (e 7)))) = (F24_j6 R (e 0) (e 1) (e 5) (e 7) (e 35)) := (den_join Pg R 0 (cd Try.f24 [1,1,0,1,0,1,1]) (cd Try.f24 [1,1,0,1,0,1,1,1]) e (inB 0 (setN (kont Pg R Try.f24) (fun e => F24_j1 R (e 0) (e 1) (e 7)))) (fun e => F24_j7 R (e 0) (e 1) (e 5) (e 7) (e 35) (e 58)) _ (by kernel_rfl) (fun e => F24_j7_ok R e) (by kernel_rfl))
def F24_j4 (R : ER) (x0 x1 x5 x7 x35 x36 : Value) : WP :=
  cnd x36 (F24_j5 R x0 x1 x7) (F24_j6 R x0 x1 x5 x7 x35)
theorem F24_j4_ok (R : ER) (e : Env) : den Pg R (cd Try.f24 [1,1,0,1,0,1]) e (inB 0 (setN (kont Pg R Try.f24) (fun e => F24_j1 R (e 0) (e 1) (e 7)))) = (F24_j4 R (e 0) (e 1) (e 5) (e 7) (e 35) (e 36)) := (den_if Pg R (cd Try.f24 [1,1,0,1,0,1]) (cd Try.f24 [1,1,0,1,0,1,0]) (cd Try.f24 [1,1,0,1,0,1,1]) e (inB 0 (setN (kont Pg R Try.f24) (fun e => F24_j1 R (e 0) (e 1) (e 7)))) (F24_j5 R (e 0) (e 1) (e 7)) (F24_j6 R (e 0) (e 1) (e 5) (e 7) (e 35)) _ (by kernel_rfl) (F24_j5_ok R e) (F24_j6_ok R e) (by kernel_rfl))
def F24_j3 (R : ER) (x0 x1 x5 x7 x35 : Value) : WP :=
  pv (bin .eql x35 (.int .u8 2)) fun v79 =>
  F24_j4 R x0 x1 x5 x7 x35 v79
theorem F24_j3_ok (R : ER) (e : Env) : den Pg R (cd Try.f24 [1,1,0,1]) e (setN (kont Pg R Try.f24) (fun e => F24_j1 R (e 0) (e 1) (e 7))) = (F24_j3 R (e 0) (e 1) (e 5) (e 7) (e 35)) := (den_block Pg R (cd Try.f24 [1,1,0,1]) 0 (cd Try.f24 [1,1,0,1,0]) e (setN (kont Pg R Try.f24) (fun e => F24_j1 R (e 0) (e 1) (e 7))) _ (by kernel_rfl) (den_join Pg R 0 (cd Try.f24 [1,1,0,1,0]) (cd Try.f24 [1,1,0,1,0,1]) e (inB 0 (setN (kont Pg R Try.f24) (fun e => F24_j1 R (e 0) (e 1) (e 7)))) (fun e => F24_j4 R (e 0) (e 1) (e 5) (e 7) (e 35) (e 36)) _ (by kernel_rfl) (fun e => F24_j4_ok R e) (by kernel_rfl)))
def F24_j2 (R : ER) (x0 x1 x5 x7 : Value) : WP :=
  pv (faO 0 x5) fun v80 =>
  ld1 v80 fun v81 =>
  pv (bin .rem v81 (.int .u8 6)) fun v82 =>
  F24_j3 R x0 x1 x5 x7 v82
theorem F24_j2_ok (R : ER) (e : Env) : den Pg R (cd Try.f24 [1,1,0]) e (setN (kont Pg R Try.f24) (fun e => F24_j1 R (e 0) (e 1) (e 7))) = (F24_j2 R (e 0) (e 1) (e 5) (e 7)) := (den_join Pg R 0 (cd Try.f24 [1,1,0]) (cd Try.f24 [1,1,0,1]) e (setN (kont Pg R Try.f24) (fun e => F24_j1 R (e 0) (e 1) (e 7))) (fun e => F24_j3 R (e 0) (e 1) (e 5) (e 7) (e 35)) _ (by kernel_rfl) (fun e => F24_j3_ok R e) (by kernel_rfl))
def F24 (R : ER) (x0 x1 x2 : Value) : WP :=
  bx 46 x2 fun v83 =>
  pv (faO 1 v83) fun v84 =>
  ld1 v84 fun v85 =>
  pv (faO 2 v83) fun v86 =>
  ld1 v86 fun v87 =>
  pv (bldO [.int .i64 0, .int .i64 0] [(0,1, v85), (1,1, v87)]) fun v88 =>
  al Pg 39 fun v89 =>
  stN 2 v89 v88 fun _ =>
  F24_j2 R x0 x1 v83 v89
theorem F24_den (R : ER) (x0 x1 x2 : Value) : den Pg R (cd Try.f24 []) (argsEnv [x0, x1, x2]) (kont Pg R Try.f24) = F24 R x0 x1 x2 :=
  have h : ∀ e, den Pg R (cd Try.f24 []) e (kont Pg R Try.f24) = F24 R (e 0) (e 1) (e 2) := fun e => (den_join Pg R 2 (cd Try.f24 []) (cd Try.f24 [1,1,1]) e (kont Pg R Try.f24) (fun e => F24_j1 R (e 0) (e 1) (e 7)) _ (by kernel_rfl) (fun e => F24_j1_ok R e) (den_join Pg R 1 (pre 2 (cd Try.f24 [])) (cd Try.f24 [1,1,0]) e (setN (kont Pg R Try.f24) (fun e => F24_j1 R (e 0) (e 1) (e 7))) (fun e => F24_j2 R (e 0) (e 1) (e 5) (e 7)) _ (by kernel_rfl) (fun e => F24_j2_ok R e) (by kernel_rfl)))
  h _
theorem F24_calls {R : ER} {x0 x1 x2 : Value} {w : World} (h : F24 R x0 x1 x2 w) : Calls Pg 24 ⟨[x0, x1, x2]⟩ w R :=
  calls_of_den Try.func24 (by kernel_rfl) (by kernel_rfl) (F24_den R x0 x1 x2) h
/-! ### 25: inherit_New -/
def F25 (R : ER) (x0 : Value) : WP :=
  pv (bldO [.slice none 0 0, .slice none 0 0] [(0,1, x0)]) fun v1 =>
  cal Pg R 16 ⟨[v1]⟩ fun v2 =>
  pv (bin .neq v2 (.int .i64 0)) fun v3 =>
  cnd v3 (
   R (.returned (.tuple ⟨[(.pointer none), v2]⟩))) (
   cal Pg R 50 ⟨[x0]⟩ fun v4 =>
  valV Pg R (Instr.makeMap 72 none) fun v5 =>
  cal Pg R 50 ⟨[x0]⟩ fun v6 =>
  pv (bldO [.slice none 0 0, .map none, .slice none 0 0] [(0,1, v4), (1,1, v5), (2,1, v6)]) fun v7 =>
  bx 88 v7 fun v8 =>
  R (.returned (.tuple ⟨[v8, (.int .i64 0)]⟩)))
theorem F25_den (R : ER) (x0 : Value) : den Pg R (cd Try.f25 []) (argsEnv [x0]) (kont Pg R Try.f25) = F25 R x0 :=
  have h : ∀ e, den Pg R (cd Try.f25 []) e (kont Pg R Try.f25) = F25 R (e 0) := fun e => (by kernel_rfl)
  h _
theorem F25_calls {R : ER} {x0 : Value} {w : World} (h : F25 R x0 w) : Calls Pg 25 ⟨[x0]⟩ w R :=
  calls_of_den Try.func25 (by kernel_rfl) (by kernel_rfl) (F25_den R x0) h
/-! ### 26: orpimentref05_New -/
def F26 (R : ER) (x0 : Value) : WP :=
  valV Pg R (Instr.buildSlice 22 0 ⟨[]⟩) fun v1 =>
  blt Pg R .append ⟨[22,22]⟩ 22 ⟨[false, false]⟩ ⟨[v1, x0]⟩ fun v2 =>
  pv (bldO [.slice none 0 0, .slice none 0 0] [(0,1, v2)]) fun v3 =>
  al Pg 32 fun v4 =>
  stN 2 v4 v3 fun _ =>
  ldN 2 v4 fun v5 =>
  cal Pg R 17 ⟨[v5]⟩ fun v6 =>
  pv (bin .neq v6 (.int .i64 0)) fun v7 =>
  cnd v7 (
   R (.returned (.tuple ⟨[(.pointer none), v6]⟩))) (
   ldN 2 v4 fun v8 =>
  pv (bldO [.slice none 0 0, .slice none 0 0] [(0,2, v8)]) fun v9 =>
  bx 90 v9 fun v10 =>
  R (.returned (.tuple ⟨[v10, (.int .i64 0)]⟩)))
theorem F26_den (R : ER) (x0 : Value) : den Pg R (cd Try.f26 []) (argsEnv [x0]) (kont Pg R Try.f26) = F26 R x0 :=
  have h : ∀ e, den Pg R (cd Try.f26 []) e (kont Pg R Try.f26) = F26 R (e 0) := fun e => (by kernel_rfl)
  h _
theorem F26_calls {R : ER} {x0 : Value} {w : World} (h : F26 R x0 w) : Calls Pg 26 ⟨[x0]⟩ w R :=
  calls_of_den Try.func26 (by kernel_rfl) (by kernel_rfl) (F26_den R x0) h
/-! ### 27: orpimentref05_Tracker_Sorted -/
def F27_j2 (R : ER) (x2 x3 : Value) : WP :=
  ldN 2 x3 fun v1 =>
  stN 2 x2 v1 fun _ =>
  ldN 2 x2 fun v2 => R (.returned v2)
theorem F27_j2_ok (R : ER) (e : Env) : den Pg R (cd Try.f27 [1,1,1,1]) e (kont Pg R Try.f27) = (F27_j2 R (e 2) (e 3)) := by kernel_rfl
def F27_j6 (R : ER) (k1 : V4) (x0 x2 x3 x4 : Value) : WP :=
  pv (bin .add x4 (.int .i64 1)) fun v3 =>
  k1 x0 x2 x3 v3
theorem F27_j6_ok (R : ER) (k1 : V4) (e : Env) : den Pg R (cd Try.f27 [1,1,1,0,1,0,0,1,1]) e (setN (inB 0 (setN (kont Pg R Try.f27) (fun e => F27_j2 R (e 2) (e 3)))) (fun e => k1 (e 0) (e 2) (e 3) (e 4))) = (F27_j6 R k1 (e 0) (e 2) (e 3) (e 4)) := by kernel_rfl
def F27_j10 (R : ER) (k1 : V4) (k2 : V5) (x0 x2 x3 x4 x5 : Value) : WP :=
  pv (bin .add x5 (.int .i64 1)) fun v4 =>
  k2 x0 x2 x3 x4 v4
theorem F27_j10_ok (R : ER) (k1 : V4) (k2 : V5) (e : Env) : den Pg R (cd Try.f27 [1,1,1,0,1,0,0,1,0,0,1,0,0,1,1]) e (setN (inB 2 (inB 1 (setN (setN (inB 0 (setN (kont Pg R Try.f27) (fun e => F27_j2 R (e 2) (e 3)))) (fun e => k1 (e 0) (e 2) (e 3) (e 4))) (fun e => F27_j6 R k1 (e 0) (e 2) (e 3) (e 4))))) (fun e => k2 (e 0) (e 2) (e 3) (e 4) (e 5))) = (F27_j10 R k1 k2 (e 0) (e 2) (e 3) (e 4) (e 5)) := by kernel_rfl
def F27_j11 (R : ER) (k1 : V4) (k2 : V5) (x0 x2 x3 x4 x5 : Value) : WP :=
  pv (nilO x0) fun v5 =>
  pv (faO 0 v5) fun v6 =>
  pv (faO 1 v6) fun v7 =>
  ld1 v7 fun v8 =>
  pv (bldO [.int .i64 0, .int .i64 0] [(0,1, x4), (1,1, x5)]) fun v9 =>
  cal Pg R 42 ⟨[v8, v9]⟩ fun v10 =>
  cnd v10 (
   pv (faO 1 x3) fun v11 =>
   ld1 v11 fun v12 =>
   pv (bldO [.int .i64 0, .int .i64 0] [(0,1, x4), (1,1, x5)]) fun v13 =>
   valV Pg R (Instr.buildSlice 23 1 ⟨[(0, v13)]⟩) fun v14 =>
   blt Pg R .append ⟨[23,23]⟩ 23 ⟨[false, false]⟩ ⟨[v12, v14]⟩ fun v15 =>
   pv (faO 1 x3) fun v16 =>
   st1 v16 v15 fun _ =>
   F27_j10 R k1 k2 x0 x2 x3 x4 x5) (
   F27_j10 R k1 k2 x0 x2 x3 x4 x5)
theorem F27_j11_ok (R : ER) (k1 : V4) (k2 : V5) (e : Env) : den Pg R (cd Try.f27 [1,1,1,0,1,0,0,1,0,0,1,0,0,1,0]) e (setN (setN (inB 2 (inB 1 (setN (setN (inB 0 (setN (kont Pg R Try.f27) (fun e => F27_j2 R (e 2) (e 3)))) (fun e => k1 (e 0) (e 2) (e 3) (e 4))) (fun e => F27_j6 R k1 (e 0) (e 2) (e 3) (e 4))))) (fun e => k2 (e 0) (e 2) (e 3) (e 4) (e 5))) (fun e => F27_j10 R k1 k2 (e 0) (e 2) (e 3) (e 4) (e 5))) = (F27_j11 R k1 k2 (e 0) (e 2) (e 3) (e 4) (e 5)) := (den_block Pg R (cd Try.f27 [1,1,1,0,1,0,0,1,0,0,1,0,0,1,0]) 3 (cd Try.f27 [1,1,1,0,1,0,0,1,0,0,1,0,0,1,0,0]) e (setN (setN (inB 2 (inB 1 (setN (setN (inB 0 (setN (kont Pg R Try.f27) (fun e => F27_j2 R (e 2) (e 3)))) (fun e => k1 (e 0) (e 2) (e 3) (e 4))) (fun e => F27_j6 R k1 (e 0) (e 2) (e 3) (e 4))))) (fun e => k2 (e 0) (e 2) (e 3) (e 4) (e 5))) (fun e => F27_j10 R k1 k2 (e 0) (e 2) (e 3) (e 4) (e 5))) _ (by kernel_rfl) (by kernel_rfl))
def F27_j9 (R : ER) (k1 : V4) (k2 : V5) (x0 x2 x3 x4 x5 : Value) : WP :=
  F27_j11 R k1 k2 x0 x2 x3 x4 x5
theorem F27_j9_ok (R : ER) (k1 : V4) (k2 : V5) (e : Env) : den Pg R (cd Try.f27 [1,1,1,0,1,0,0,1,0,0,1,0,0,1]) e (setN (inB 2 (inB 1 (setN (setN (inB 0 (setN (kont Pg R Try.f27) (fun e => F27_j2 R (e 2) (e 3)))) (fun e => k1 (e 0) (e 2) (e 3) (e 4))) (fun e => F27_j6 R k1 (e 0) (e 2) (e 3) (e 4))))) (fun e => k2 (e 0) (e 2) (e 3) (e 4) (e 5))) = (F27_j9 R k1 k2 (e 0) (e 2) (e 3) (e 4) (e 5)) := (den_join Pg R 0 (cd Try.f27 [1,1,1,0,1,0,0,1,0,0,1,0,0,1]) (cd Try.f27 [1,1,1,0,1,0,0,1,0,0,1,0,0,1,1]) e (setN (inB 2 (inB 1 (setN (setN (inB 0 (setN (kont Pg R Try.f27) (fun e => F27_j2 R (e 2) (e 3)))) (fun e => k1 (e 0) (e 2) (e 3) (e 4))) (fun e => F27_j6 R k1 (e 0) (e 2) (e 3) (e 4))))) (fun e => k2 (e 0) (e 2) (e 3) (e 4) (e 5))) (fun e => F27_j10 R k1 k2 (e 0) (e 2) (e 3) (e 4) (e 5)) _ (by kernel_rfl) (fun e => F27_j10_ok R k1 k2 e) (den_conv Pg R (pre 0 (cd Try.f27 [1,1,1,0,1,0,0,1,0,0,1,0,0,1])) (cd Try.f27 [1,1,1,0,1,0,0,1,0,0,1,0,0,1,0]) e (setN (setN (inB 2 (inB 1 (setN (setN (inB 0 (setN (kont Pg R Try.f27) (fun e => F27_j2 R (e 2) (e 3)))) (fun e => k1 (e 0) (e 2) (e 3) (e 4))) (fun e => F27_j6 R k1 (e 0) (e 2) (e 3) (e 4))))) (fun e => k2 (e 0) (e 2) (e 3) (e 4) (e 5))) (fun e => F27_j10 R k1 k2 (e 0) (e 2) (e 3) (e 4) (e 5))) _ (by kernel_rfl) (F27_j11_ok R k1 k2 e)))
def F27_b2 (R : ER) (k1 : V4) (k2 : V5) (x0 x2 x3 x4 x5 : Value) : WP :=
  pv (faO 0 x3) fun v17 =>
  ld1 v17 fun v18 =>
  pv (lenS v18) fun v19 =>
  pv (bin .lss x5 v19) fun v20 =>
  cnd v20 (
   F27_j9 R k1 k2 x0 x2 x3 x4 x5) (
   F27_j6 R k1 x0 x2 x3 x4)
theorem F27_b2_ok (R : ER) (k1 : V4) (k2 : V5) (e : Env) : den Pg R (cd Try.f27 [1,1,1,0,1,0,0,1,0,0,1,0,0]) e (setN (inB 2 (inB 1 (setN (setN (inB 0 (setN (kont Pg R Try.f27) (fun e => F27_j2 R (e 2) (e 3)))) (fun e => k1 (e 0) (e 2) (e 3) (e 4))) (fun e => F27_j6 R k1 (e 0) (e 2) (e 3) (e 4))))) (fun e => k2 (e 0) (e 2) (e 3) (e 4) (e 5))) = (F27_b2 R k1 k2 (e 0) (e 2) (e 3) (e 4) (e 5)) := (den_join Pg R 0 (cd Try.f27 [1,1,1,0,1,0,0,1,0,0,1,0,0]) (cd Try.f27 [1,1,1,0,1,0,0,1,0,0,1,0,0,1]) e (setN (inB 2 (inB 1 (setN (setN (inB 0 (setN (kont Pg R Try.f27) (fun e => F27_j2 R (e 2) (e 3)))) (fun e => k1 (e 0) (e 2) (e 3) (e 4))) (fun e => F27_j6 R k1 (e 0) (e 2) (e 3) (e 4))))) (fun e => k2 (e 0) (e 2) (e 3) (e 4) (e 5))) (fun e => F27_j9 R k1 k2 (e 0) (e 2) (e 3) (e 4) (e 5)) _ (by kernel_rfl) (fun e => F27_j9_ok R k1 k2 e) (by kernel_rfl))
noncomputable def F27_l1 (R : ER) (k1 : V4) (n : Nat) : V5 := Nat.rec (motive := fun _ => V5) (fun _ _ _ _ _ => fun _ => False) (fun _ ih => fun x0 x2 x3 x4 x5 => F27_b2 R k1 ih x0 x2 x3 x4 x5) n
theorem F27_l1_succ (R : ER) (k1 : V4) (n : Nat) (x0 x2 x3 x4 x5 : Value) : F27_l1 R k1 (n + 1) x0 x2 x3 x4 x5 = F27_b2 R k1 (F27_l1 R k1 n) x0 x2 x3 x4 x5 := rfl
theorem F27_l1_ok (R : ER) (k1 : V4) : ∀ (n : Nat) (e : Env), iterL (den Pg R (cd Try.f27 [1,1,1,0,1,0,0,1,0,0,1,0,0])) n e (inB 2 (inB 1 (setN (setN (inB 0 (setN (kont Pg R Try.f27) (fun e => F27_j2 R (e 2) (e 3)))) (fun e => k1 (e 0) (e 2) (e 3) (e 4))) (fun e => F27_j6 R k1 (e 0) (e 2) (e 3) (e 4))))) = F27_l1 R k1 n (e 0) (e 2) (e 3) (e 4) (e 5) :=
  iterL_join (den Pg R (cd Try.f27 [1,1,1,0,1,0,0,1,0,0,1,0,0])) (inB 2 (inB 1 (setN (setN (inB 0 (setN (kont Pg R Try.f27) (fun e => F27_j2 R (e 2) (e 3)))) (fun e => k1 (e 0) (e 2) (e 3) (e 4))) (fun e => F27_j6 R k1 (e 0) (e 2) (e 3) (e 4))))) (fun n e => F27_l1 R k1 n (e 0) (e 2) (e 3) (e 4) (e 5)) (fun _ => rfl) (fun n e => (F27_b2_ok R k1 (F27_l1 R k1 n) e).trans (F27_l1_succ R k1 n (e 0) (e 2) (e 3) (e 4) (e 5)).symm)
def F27_j8 (R : ER) (k1 : V4) (x0 x2 x3 x4 x5 : Value) : WP :=
  exN fun n => F27_l1 R k1 n x0 x2 x3 x4 x5
theorem F27_j8_ok (R : ER) (k1 : V4) (e : Env) : den Pg R (cd Try.f27 [1,1,1,0,1,0,0,1,0,0,1]) e (inB 1 (setN (setN (inB 0 (setN (kont Pg R Try.f27) (fun e => F27_j2 R (e 2) (e 3)))) (fun e => k1 (e 0) (e 2) (e 3) (e 4))) (fun e => F27_j6 R k1 (e 0) (e 2) (e 3) (e 4)))) = (F27_j8 R k1 (e 0) (e 2) (e 3) (e 4) (e 5)) := (den_block Pg R (cd Try.f27 [1,1,1,0,1,0,0,1,0,0,1]) 2 (cd Try.f27 [1,1,1,0,1,0,0,1,0,0,1,0]) e (inB 1 (setN (setN (inB 0 (setN (kont Pg R Try.f27) (fun e => F27_j2 R (e 2) (e 3)))) (fun e => k1 (e 0) (e 2) (e 3) (e 4))) (fun e => F27_j6 R k1 (e 0) (e 2) (e 3) (e 4)))) _ (by kernel_rfl) (den_loop Pg R (cd Try.f27 [1,1,1,0,1,0,0,1,0,0,1,0]) (cd Try.f27 [1,1,1,0,1,0,0,1,0,0,1,0,0]) e (inB 2 (inB 1 (setN (setN (inB 0 (setN (kont Pg R Try.f27) (fun e => F27_j2 R (e 2) (e 3)))) (fun e => k1 (e 0) (e 2) (e 3) (e 4))) (fun e => F27_j6 R k1 (e 0) (e 2) (e 3) (e 4))))) (fun n e => F27_l1 R k1 n (e 0) (e 2) (e 3) (e 4) (e 5)) _ (by kernel_rfl) (F27_l1_ok R k1) (by kernel_rfl)))
def F27_j7 (R : ER) (k1 : V4) (x0 x2 x3 x4 : Value) : WP :=
  F27_j8 R k1 x0 x2 x3 x4 (.int .i64 0)
theorem F27_j7_ok (R : ER) (k1 : V4) (e : Env) : den Pg R (cd Try.f27 [1,1,1,0,1,0,0,1,0]) e (setN (setN (inB 0 (setN (kont Pg R Try.f27) (fun e => F27_j2 R (e 2) (e 3)))) (fun e => k1 (e 0) (e 2) (e 3) (e 4))) (fun e => F27_j6 R k1 (e 0) (e 2) (e 3) (e 4))) = (F27_j7 R k1 (e 0) (e 2) (e 3) (e 4)) := (den_block Pg R (cd Try.f27 [1,1,1,0,1,0,0,1,0]) 1 (cd Try.f27 [1,1,1,0,1,0,0,1,0,0]) e (setN (setN (inB 0 (setN (kont Pg R Try.f27) (fun e => F27_j2 R (e 2) (e 3)))) (fun e => k1 (e 0) (e 2) (e 3) (e 4))) (fun e => F27_j6 R k1 (e 0) (e 2) (e 3) (e 4))) _ (by kernel_rfl) (den_join Pg R 0 (cd Try.f27 [1,1,1,0,1,0,0,1,0,0]) (cd Try.f27 [1,1,1,0,1,0,0,1,0,0,1]) e (inB 1 (setN (setN (inB 0 (setN (kont Pg R Try.f27) (fun e => F27_j2 R (e 2) (e 3)))) (fun e => k1 (e 0) (e 2) (e 3) (e 4))) (fun e => F27_j6 R k1 (e 0) (e 2) (e 3) (e 4)))) (fun e => F27_j8 R k1 (e 0) (e 2) (e 3) (e 4) (e 5)) _ (by kernel_rfl) (fun e => F27_j8_ok R k1 e) (by kernel_rfl)))
def F27_j5 (R : ER) (k1 : V4) (x0 x2 x3 x4 : Value) : WP :=
  F27_j7 R k1 x0 x2 x3 x4
theorem F27_j5_ok (R : ER) (k1 : V4) (e : Env) : den Pg R (cd Try.f27 [1,1,1,0,1,0,0,1]) e (setN (inB 0 (setN (kont Pg R Try.f27) (fun e => F27_j2 R (e 2) (e 3)))) (fun e => k1 (e 0) (e 2) (e 3) (e 4))) = (F27_j5 R k1 (e 0) (e 2) (e 3) (e 4)) := (den_join Pg R 0 (cd Try.f27 [1,1,1,0,1,0,0,1]) (cd Try.f27 [1,1,1,0,1,0,0,1,1]) e (setN (inB 0 (setN (kont Pg R Try.f27) (fun e => F27_j2 R (e 2) (e 3)))) (fun e => k1 (e 0) (e 2) (e 3) (e 4))) (fun e => F27_j6 R k1 (e 0) (e 2) (e 3) (e 4)) _ (by kernel_rfl) (fun e => F27_j6_ok R k1 e) (den_conv Pg R (pre 0 (cd Try.f27 [1,1,1,0,1,0,0,1])) (cd Try.f27 [1,1,1,0,1,0,0,1,0]) e (setN (setN (inB 0 (setN (kont Pg R Try.f27) (fun e => F27_j2 R (e 2) (e 3)))) (fun e => k1 (e 0) (e 2) (e 3) (e 4))) (fun e => F27_j6 R k1 (e 0) (e 2) (e 3) (e 4))) _ (by kernel_rfl) (F27_j7_ok R k1 e)))
def F27_b1 (R : ER) (k1 : V4) (x0 x2 x3 x4 : Value) : WP :=
  pv (faO 0 x3) fun v21 =>
  ld1 v21 fun v22 =>
  pv (lenS v22) fun v23 =>
  pv (bin .lss x4 v23) fun v24 =>
  cnd v24 (
   F27_j5 R k1 x0 x2 x3 x4) (
   F27_j2 R x2 x3)
theorem F27_b1_ok (R : ER) (k1 : V4) (e : Env) : den Pg R (cd Try.f27 [1,1,1,0,1,0,0]) e (setN (inB 0 (setN (kont Pg R Try.f27) (fun e => F27_j2 R (e 2) (e 3)))) (fun e => k1 (e 0) (e 2) (e 3) (e 4))) = (F27_b1 R k1 (e 0) (e 2) (e 3) (e 4)) := (den_join Pg R 0 (cd Try.f27 [1,1,1,0,1,0,0]) (cd Try.f27 [1,1,1,0,1,0,0,1]) e (setN (inB 0 (setN (kont Pg R Try.f27) (fun e => F27_j2 R (e 2) (e 3)))) (fun e => k1 (e 0) (e 2) (e 3) (e 4))) (fun e => F27_j5 R k1 (e 0) (e 2) (e 3) (e 4)) _ (by kernel_rfl) (fun e => F27_j5_ok R k1 e) (by kernel_rfl))
noncomputable def F27_l2 (R : ER) (n : Nat) : V4 := Nat.rec (motive := fun _ => V4) (fun _ _ _ _ => fun _ => False) (fun _ ih => fun x0 x2 x3 x4 => F27_b1 R ih x0 x2 x3 x4) n
theorem F27_l2_succ (R : ER) (n : Nat) (x0 x2 x3 x4 : Value) : F27_l2 R (n + 1) x0 x2 x3 x4 = F27_b1 R (F27_l2 R n) x0 x2 x3 x4 := rfl
theorem F27_l2_ok (R : ER) : ∀ (n : Nat) (e : Env), iterL (den Pg R (cd Try.f27 [1,1,1,0,1,0,0])) n e (inB 0 (setN (kont Pg R Try.f27) (fun e => F27_j2 R (e 2) (e 3)))) = F27_l2 R n (e 0) (e 2) (e 3) (e 4) :=
  iterL_join (den Pg R (cd Try.f27 [1,1,1,0,1,0,0])) (inB 0 (setN (kont Pg R Try.f27) (fun e => F27_j2 R (e 2) (e 3)))) (fun n e => F27_l2 R n (e 0) (e 2) (e 3) (e 4)) (fun _ => rfl) (fun n e => (F27_b1_ok R (F27_l2 R n) e).trans (F27_l2_succ R n (e 0) (e 2) (e 3) (e 4)).symm)
def F27_j4 (R : ER) (x0 x2 x3 x4 : Value) : WP :=
  exN fun n => F27_l2 R n x0 x2 x3 x4
theorem F27_j4_ok (R : ER) (e : Env) : den Pg R (cd Try.f27 [1,1,1,0,1]) e (setN (kont Pg R Try.f27) (fun e => F27_j2 R (e 2) (e 3))) = (F27_j4 R (e 0) (e 2) (e 3) (e 4)) := (den_block Pg R (cd Try.f27 [1,1,1,0,1]) 0 (cd Try.f27 [1,1,1,0,1,0]) e (setN (kont Pg R Try.f27) (fun e => F27_j2 R (e 2) (e 3))) _ (by kernel_rfl) (den_loop Pg R (cd Try.f27 [1,1,1,0,1,0]) (cd Try.f27 [1,1,1,0,1,0,0]) e (inB 0 (setN (kont Pg R Try.f27) (fun e => F27_j2 R (e 2) (e 3)))) (fun n e => F27_l2 R n (e 0) (e 2) (e 3) (e 4)) _ (by kernel_rfl) (F27_l2_ok R) (by kernel_rfl)))
def F27_j3 (R : ER) (x0 x2 x3 : Value) : WP :=
  F27_j4 R x0 x2 x3 (.int .i64 0)
theorem F27_j3_ok (R : ER) (e : Env) : den Pg R (cd Try.f27 [1,1,1,0]) e (setN (kont Pg R Try.f27) (fun e => F27_j2 R (e 2) (e 3))) = (F27_j3 R (e 0) (e 2) (e 3)) := (den_join Pg R 0 (cd Try.f27 [1,1,1,0]) (cd Try.f27 [1,1,1,0,1]) e (setN (kont Pg R Try.f27) (fun e => F27_j2 R (e 2) (e 3))) (fun e => F27_j4 R (e 0) (e 2) (e 3) (e 4)) _ (by kernel_rfl) (fun e => F27_j4_ok R e) (by kernel_rfl))
def F27_j1 (R : ER) (x0 x2 : Value) : WP :=
  valV Pg R (Instr.buildSlice 22 0 ⟨[]⟩) fun v25 =>
  pv (nilO x0) fun v26 =>
  pv (faO 0 v26) fun v27 =>
  pv (faO 0 v27) fun v28 =>
  ld1 v28 fun v29 =>
  blt Pg R .append ⟨[22,22]⟩ 22 ⟨[false, false]⟩ ⟨[v25, v29]⟩ fun v30 =>
  pv (bldO [.slice none 0 0, .slice none 0 0] [(0,1, v30)]) fun v31 =>
  al Pg 32 fun v32 =>
  stN 2 v32 v31 fun _ =>
  F27_j3 R x0 x2 v32
theorem F27_j1_ok (R : ER) (e : Env) : den Pg R (cd Try.f27 [1,1]) e (kont Pg R Try.f27) = (F27_j1 R (e 0) (e 2)) := (den_join Pg R 1 (cd Try.f27 [1,1]) (cd Try.f27 [1,1,1,1]) e (kont Pg R Try.f27) (fun e => F27_j2 R (e 2) (e 3)) _ (by kernel_rfl) (fun e => F27_j2_ok R e) (den_join Pg R 0 (pre 1 (cd Try.f27 [1,1])) (cd Try.f27 [1,1,1,0]) e (setN (kont Pg R Try.f27) (fun e => F27_j2 R (e 2) (e 3))) (fun e => F27_j3 R (e 0) (e 2) (e 3)) _ (by kernel_rfl) (fun e => F27_j3_ok R e) (by kernel_rfl)))
def F27 (R : ER) (x0 : Value) : WP :=
  al Pg 32 fun v33 =>
  pv (eqNilP x0) fun v34 =>
  cnd v34 (
   pv (bldO [.slice none 0 0, .slice none 0 0] []) fun v35 =>
   stN 2 v33 v35 fun _ =>
   ldN 2 v33 fun v36 => R (.returned v36)) (
   F27_j1 R x0 v33)
theorem F27_den (R : ER) (x0 : Value) : den Pg R (cd Try.f27 []) (argsEnv [x0]) (kont Pg R Try.f27) = F27 R x0 :=
  have h : ∀ e, den Pg R (cd Try.f27 []) e (kont Pg R Try.f27) = F27 R (e 0) := fun e => (den_join Pg R 1 (cd Try.f27 []) (cd Try.f27 [1,1]) e (kont Pg R Try.f27) (fun e => F27_j1 R (e 0) (e 2)) _ (by kernel_rfl) (fun e => F27_j1_ok R e) (by kernel_rfl))
  h _
theorem F27_calls {R : ER} {x0 : Value} {w : World} (h : F27 R x0 w) : Calls Pg 27 ⟨[x0]⟩ w R :=
  calls_of_den Try.func27 (by kernel_rfl) (by kernel_rfl) (F27_den R x0) h
/-! ### 28: inherit_Tracker_Remove -/
def F28_j1 (R : ER) (x0 x3 : Value) : WP :=
  drewV (
  pv (nilO x0) fun v1 =>
  pv (faO 1 v1) fun v2 =>
  ld1 v2 fun v3 =>
  ldN 2 x3 fun v4 =>
  mem fun w6 => blt Pg noR .delete ⟨[72,39]⟩ 0 ⟨[false, false]⟩ ⟨[v3, v4]⟩ fun v5 =>
  cal Pg R 58 ⟨[x0]⟩ fun v7 =>
  R (.returned (.tuple ⟨[v7, (.int .i64 0)]⟩)))
theorem F28_j1_ok (R : ER) (e : Env) : den Pg R (cd Try.f28 [1,1]) e (kont Pg R Try.f28) = (F28_j1 R (e 0) (e 3)) := by kernel_rfl
def F28_j4 (R : ER) (x0 x3 : Value) : WP :=
  pv (faO 0 x3) fun v8 =>
  ld1 v8 fun v9 =>
  cal Pg R 57 ⟨[x0, v9]⟩ fun v10 =>
  pv (unO .not v10) fun v11 =>
  gd v11 false (pv (some x0)) fun v12 =>
  gd v11 false (pv (faO 1 x3)) fun v13 =>
  gd v11 false (ld1 v13) fun v14 =>
  gd v11 false (cal Pg R 57 ⟨[v12, v14]⟩) fun v15 =>
  gd v11 false (pv (unO .not v15)) fun v16 =>
  pv (pickO v11 (.bool true) v16) fun v17 =>
  cnd v17 (
   R (.returned (.tuple ⟨[(.slice none 0 0), (.int .i64 34)]⟩))) (
   drewV (
   pv (nilO x0) fun v18 =>
   pv (faO 1 v18) fun v19 =>
   ld1 v19 fun v20 =>
   ldN 2 x3 fun v21 =>
   mem fun w23 => valV Pg noR (Instr.lookup 72 v20 v21 false) fun v22 =>
   pv (unO .not v22) fun v24 =>
   cnd v24 (
    R (.returned (.tuple ⟨[(.slice none 0 0), (.int .i64 22)]⟩))) (
    F28_j1 R x0 x3)))
theorem F28_j4_ok (R : ER) (e : Env) : den Pg R (cd Try.f28 [1,0,0,1,1]) e (inB 0 (setN (kont Pg R Try.f28) (fun e => F28_j1 R (e 0) (e 3)))) = (F28_j4 R (e 0) (e 3)) := (by kernel_rfl)
def F28_j3 (R : ER) (x0 x3 x6 : Value) : WP :=
  cnd x6 (R (.returned (.tuple ⟨[(.slice none 0 0), (.int .i64 35)]⟩))) (F28_j4 R x0 x3)
theorem F28_j3_ok (R : ER) (e : Env) : den Pg R (cd Try.f28 [1,0,0,1]) e (inB 0 (setN (kont Pg R Try.f28) (fun e => F28_j1 R (e 0) (e 3)))) = (F28_j3 R (e 0) (e 3) (e 6)) := (den_if Pg R (cd Try.f28 [1,0,0,1]) (cd Try.f28 [1,0,0,1,0]) (cd Try.f28 [1,0,0,1,1]) e (inB 0 (setN (kont Pg R Try.f28) (fun e => F28_j1 R (e 0) (e 3)))) _ (F28_j4 R (e 0) (e 3)) _ (by kernel_rfl) rfl (F28_j4_ok R e) (by kernel_rfl))
def F28_j2 (R : ER) (x0 x3 : Value) : WP :=
  pv (eqNilP x0) fun v25 =>
  F28_j3 R x0 x3 v25
theorem F28_j2_ok (R : ER) (e : Env) : den Pg R (cd Try.f28 [1,0]) e (setN (kont Pg R Try.f28) (fun e => F28_j1 R (e 0) (e 3))) = (F28_j2 R (e 0) (e 3)) := (den_block Pg R (cd Try.f28 [1,0]) 0 (cd Try.f28 [1,0,0]) e (setN (kont Pg R Try.f28) (fun e => F28_j1 R (e 0) (e 3))) _ (by kernel_rfl) (den_join Pg R 0 (cd Try.f28 [1,0,0]) (cd Try.f28 [1,0,0,1]) e (inB 0 (setN (kont Pg R Try.f28) (fun e => F28_j1 R (e 0) (e 3)))) (fun e => F28_j3 R (e 0) (e 3) (e 6)) _ (by kernel_rfl) (fun e => F28_j3_ok R e) (by kernel_rfl)))
def F28 (R : ER) (x0 x1 : Value) : WP :=
  bx 39 x1 fun v26 =>
  F28_j2 R x0 v26
theorem F28_den (R : ER) (x0 x1 : Value) : den Pg R (cd Try.f28 []) (argsEnv [x0, x1]) (kont Pg R Try.f28) = F28 R x0 x1 :=
  have h : ∀ e, den Pg R (cd Try.f28 []) e (kont Pg R Try.f28) = F28 R (e 0) (e 1) := fun e => (den_join Pg R 1 (cd Try.f28 []) (cd Try.f28 [1,1]) e (kont Pg R Try.f28) (fun e => F28_j1 R (e 0) (e 3)) _ (by kernel_rfl) (fun e => F28_j1_ok R e) (den_join Pg R 0 (pre 1 (cd Try.f28 [])) (cd Try.f28 [1,0]) e (setN (kont Pg R Try.f28) (fun e => F28_j1 R (e 0) (e 3))) (fun e => F28_j2 R (e 0) (e 3)) _ (by kernel_rfl) (fun e => F28_j2_ok R e) (by kernel_rfl)))
  h _
theorem F28_calls {R : ER} {x0 x1 : Value} {w : World} (h : F28 R x0 x1 w) : Calls Pg 28 ⟨[x0, x1]⟩ w R :=
  calls_of_den Try.func28 (by kernel_rfl) (by kernel_rfl) (F28_den R x0 x1) h
/-! ### 29: inherit_Tracker_SetBase -/
def F29_j1 (R : ER) (x0 x1 x2 : Value) : WP :=
  pv (nilO x0) fun v1 =>
  pv (faO 0 v1) fun v2 =>
  ld1 v2 fun v3 =>
  pv (ixS 1 v3 x1) fun v4 =>
  st1 v4 x2 fun _ =>
  cal Pg R 58 ⟨[x0]⟩ fun v5 =>
  R (.returned (.tuple ⟨[v5, (.int .i64 0)]⟩))
theorem F29_j1_ok (R : ER) (e : Env) : den Pg R (cd Try.f29 [1,1]) e (kont Pg R Try.f29) = (F29_j1 R (e 0) (e 1) (e 2)) := by kernel_rfl
def F29_j4 (R : ER) (x0 x1 x2 : Value) : WP :=
  cal Pg R 57 ⟨[x0, x1]⟩ fun v6 =>
  pv (unO .not v6) fun v7 =>
  gd v7 false (pv (some x2)) fun v8 =>
  gd v7 false (cal Pg R 37 ⟨[v8]⟩) fun v9 =>
  gd v7 false (pv (unO .not v9)) fun v10 =>
  pv (pickO v7 (.bool true) v10) fun v11 =>
  cnd v11 (
   R (.returned (.tuple ⟨[(.slice none 0 0), (.int .i64 34)]⟩))) (
   F29_j1 R x0 x1 x2)
theorem F29_j4_ok (R : ER) (e : Env) : den Pg R (cd Try.f29 [1,0,0,1,1]) e (inB 0 (setN (kont Pg R Try.f29) (fun e => F29_j1 R (e 0) (e 1) (e 2)))) = (F29_j4 R (e 0) (e 1) (e 2)) := by kernel_rfl
def F29_j3 (R : ER) (x0 x1 x2 x8 : Value) : WP :=
  cnd x8 (R (.returned (.tuple ⟨[(.slice none 0 0), (.int .i64 35)]⟩))) (F29_j4 R x0 x1 x2)
theorem F29_j3_ok (R : ER) (e : Env) : den Pg R (cd Try.f29 [1,0,0,1]) e (inB 0 (setN (kont Pg R Try.f29) (fun e => F29_j1 R (e 0) (e 1) (e 2)))) = (F29_j3 R (e 0) (e 1) (e 2) (e 8)) := (den_if Pg R (cd Try.f29 [1,0,0,1]) (cd Try.f29 [1,0,0,1,0]) (cd Try.f29 [1,0,0,1,1]) e (inB 0 (setN (kont Pg R Try.f29) (fun e => F29_j1 R (e 0) (e 1) (e 2)))) _ (F29_j4 R (e 0) (e 1) (e 2)) _ (by kernel_rfl) rfl (F29_j4_ok R e) (by kernel_rfl))
def F29_j2 (R : ER) (x0 x1 x2 : Value) : WP :=
  pv (eqNilP x0) fun v12 =>
  F29_j3 R x0 x1 x2 v12
theorem F29_j2_ok (R : ER) (e : Env) : den Pg R (cd Try.f29 [1,0]) e (setN (kont Pg R Try.f29) (fun e => F29_j1 R (e 0) (e 1) (e 2))) = (F29_j2 R (e 0) (e 1) (e 2)) := (den_block Pg R (cd Try.f29 [1,0]) 0 (cd Try.f29 [1,0,0]) e (setN (kont Pg R Try.f29) (fun e => F29_j1 R (e 0) (e 1) (e 2))) _ (by kernel_rfl) (den_join Pg R 0 (cd Try.f29 [1,0,0]) (cd Try.f29 [1,0,0,1]) e (inB 0 (setN (kont Pg R Try.f29) (fun e => F29_j1 R (e 0) (e 1) (e 2)))) (fun e => F29_j3 R (e 0) (e 1) (e 2) (e 8)) _ (by kernel_rfl) (fun e => F29_j3_ok R e) (by kernel_rfl)))
def F29 (R : ER) (x0 x1 x2 : Value) : WP :=
  F29_j2 R x0 x1 x2
theorem F29_den (R : ER) (x0 x1 x2 : Value) : den Pg R (cd Try.f29 []) (argsEnv [x0, x1, x2]) (kont Pg R Try.f29) = F29 R x0 x1 x2 :=
  have h : ∀ e, den Pg R (cd Try.f29 []) e (kont Pg R Try.f29) = F29 R (e 0) (e 1) (e 2) := fun e => (den_join Pg R 1 (cd Try.f29 []) (cd Try.f29 [1,1]) e (kont Pg R Try.f29) (fun e => F29_j1 R (e 0) (e 1) (e 2)) _ (by kernel_rfl) (fun e => F29_j1_ok R e) (den_join Pg R 0 (pre 1 (cd Try.f29 [])) (cd Try.f29 [1,0]) e (setN (kont Pg R Try.f29) (fun e => F29_j1 R (e 0) (e 1) (e 2))) (fun e => F29_j2 R (e 0) (e 1) (e 2)) _ (by kernel_rfl) (fun e => F29_j2_ok R e) (by kernel_rfl)))
  h _
theorem F29_calls {R : ER} {x0 x1 x2 : Value} {w : World} (h : F29 R x0 x1 x2 w) : Calls Pg 29 ⟨[x0, x1, x2]⟩ w R :=
  calls_of_den Try.func29 (by kernel_rfl) (by kernel_rfl) (F29_den R x0 x1 x2) h
/-! ### 30: inherit_Tracker_Replace -/
def F30_j3 (R : ER) (x0 : Value) : WP :=
  cal Pg R 58 ⟨[x0]⟩ fun v1 =>
  R (.returned (.tuple ⟨[v1, (.int .i64 0)]⟩))
theorem F30_j3_ok (R : ER) (e : Env) : den Pg R (cd Try.f30 [1,1,1,1,1]) e (kont Pg R Try.f30) = (F30_j3 R (e 0)) := by kernel_rfl
def F30_j6 (R : ER) (k1 : V4) (x0 x25 x26 x27 : Value) : WP :=
  pv (ixS 2 x25 x27) fun v2 =>
  ldN 2 v2 fun v3 =>
  al Pg 39 fun v4 =>
  stN 2 v4 v3 fun _ =>
  drewV (
  pv (nilO x0) fun v5 =>
  pv (faO 1 v5) fun v6 =>
  ld1 v6 fun v7 =>
  ldN 2 v4 fun v8 =>
  mem fun w10 => unitV Pg noR (Instr.mapUpdate 72 v7 v8 (.bool true)) fun v9 =>
  pv (bin .add x27 (.int .i64 1)) fun v11 =>
  k1 x0 x25 x26 v11)
theorem F30_j6_ok (R : ER) (k1 : V4) (e : Env) : den Pg R (cd Try.f30 [1,1,1,1,0,1,0,0,1,1]) e (setN (inB 0 (setN (kont Pg R Try.f30) (fun e => F30_j3 R (e 0)))) (fun e => k1 (e 0) (e 25) (e 26) (e 27))) = (F30_j6 R k1 (e 0) (e 25) (e 26) (e 27)) := by kernel_rfl
def F30_b1 (R : ER) (k1 : V4) (x0 x25 x26 x27 : Value) : WP :=
  pv (bin .lss x27 x26) fun v12 =>
  cnd v12 (
   F30_j6 R k1 x0 x25 x26 x27) (
   F30_j3 R x0)
theorem F30_b1_ok (R : ER) (k1 : V4) (e : Env) : den Pg R (cd Try.f30 [1,1,1,1,0,1,0,0]) e (setN (inB 0 (setN (kont Pg R Try.f30) (fun e => F30_j3 R (e 0)))) (fun e => k1 (e 0) (e 25) (e 26) (e 27))) = (F30_b1 R k1 (e 0) (e 25) (e 26) (e 27)) := (den_join Pg R 1 (cd Try.f30 [1,1,1,1,0,1,0,0]) (cd Try.f30 [1,1,1,1,0,1,0,0,1,1]) e (setN (inB 0 (setN (kont Pg R Try.f30) (fun e => F30_j3 R (e 0)))) (fun e => k1 (e 0) (e 25) (e 26) (e 27))) (fun e => F30_j6 R k1 (e 0) (e 25) (e 26) (e 27)) _ (by kernel_rfl) (fun e => F30_j6_ok R k1 e) (by kernel_rfl))
noncomputable def F30_l1 (R : ER) (n : Nat) : V4 := Nat.rec (motive := fun _ => V4) (fun _ _ _ _ => fun _ => False) (fun _ ih => fun x0 x25 x26 x27 => F30_b1 R ih x0 x25 x26 x27) n
theorem F30_l1_succ (R : ER) (n : Nat) (x0 x25 x26 x27 : Value) : F30_l1 R (n + 1) x0 x25 x26 x27 = F30_b1 R (F30_l1 R n) x0 x25 x26 x27 := rfl
theorem F30_l1_ok (R : ER) : ∀ (n : Nat) (e : Env), iterL (den Pg R (cd Try.f30 [1,1,1,1,0,1,0,0])) n e (inB 0 (setN (kont Pg R Try.f30) (fun e => F30_j3 R (e 0)))) = F30_l1 R n (e 0) (e 25) (e 26) (e 27) :=
  iterL_join (den Pg R (cd Try.f30 [1,1,1,1,0,1,0,0])) (inB 0 (setN (kont Pg R Try.f30) (fun e => F30_j3 R (e 0)))) (fun n e => F30_l1 R n (e 0) (e 25) (e 26) (e 27)) (fun _ => rfl) (fun n e => (F30_b1_ok R (F30_l1 R n) e).trans (F30_l1_succ R n (e 0) (e 25) (e 26) (e 27)).symm)
def F30_j5 (R : ER) (x0 x25 x26 x27 : Value) : WP :=
  exN fun n => F30_l1 R n x0 x25 x26 x27
theorem F30_j5_ok (R : ER) (e : Env) : den Pg R (cd Try.f30 [1,1,1,1,0,1]) e (setN (kont Pg R Try.f30) (fun e => F30_j3 R (e 0))) = (F30_j5 R (e 0) (e 25) (e 26) (e 27)) := (den_block Pg R (cd Try.f30 [1,1,1,1,0,1]) 0 (cd Try.f30 [1,1,1,1,0,1,0]) e (setN (kont Pg R Try.f30) (fun e => F30_j3 R (e 0))) _ (by kernel_rfl) (den_loop Pg R (cd Try.f30 [1,1,1,1,0,1,0]) (cd Try.f30 [1,1,1,1,0,1,0,0]) e (inB 0 (setN (kont Pg R Try.f30) (fun e => F30_j3 R (e 0)))) (fun n e => F30_l1 R n (e 0) (e 25) (e 26) (e 27)) _ (by kernel_rfl) (F30_l1_ok R) (by kernel_rfl)))
def F30_j4 (R : ER) (x0 x1 : Value) : WP :=
  pv (lenS x1) fun v13 =>
  F30_j5 R x0 x1 v13 (.int .i64 0)
theorem F30_j4_ok (R : ER) (e : Env) : den Pg R (cd Try.f30 [1,1,1,1,0]) e (setN (kont Pg R Try.f30) (fun e => F30_j3 R (e 0))) = (F30_j4 R (e 0) (e 1)) := (den_join Pg R 0 (cd Try.f30 [1,1,1,1,0]) (cd Try.f30 [1,1,1,1,0,1]) e (setN (kont Pg R Try.f30) (fun e => F30_j3 R (e 0))) (fun e => F30_j5 R (e 0) (e 25) (e 26) (e 27)) _ (by kernel_rfl) (fun e => F30_j5_ok R e) (by kernel_rfl))
def F30_j2 (R : ER) (x0 x1 : Value) : WP :=
  pv (nilO x0) fun v14 =>
  pv (faO 1 v14) fun v15 =>
  ld1 v15 fun v16 =>
  blt Pg R .clear ⟨[72]⟩ 0 ⟨[false]⟩ ⟨[v16]⟩ fun _ =>
  F30_j4 R x0 x1
theorem F30_j2_ok (R : ER) (e : Env) : den Pg R (cd Try.f30 [1,1,1]) e (kont Pg R Try.f30) = (F30_j2 R (e 0) (e 1)) := (den_join Pg R 1 (cd Try.f30 [1,1,1]) (cd Try.f30 [1,1,1,1,1]) e (kont Pg R Try.f30) (fun e => F30_j3 R (e 0)) _ (by kernel_rfl) (fun e => F30_j3_ok R e) (den_join Pg R 0 (pre 1 (cd Try.f30 [1,1,1])) (cd Try.f30 [1,1,1,1,0]) e (setN (kont Pg R Try.f30) (fun e => F30_j3 R (e 0))) (fun e => F30_j4 R (e 0) (e 1)) _ (by kernel_rfl) (fun e => F30_j4_ok R e) (by kernel_rfl)))
def F30_j7 (R : ER) (x0 x1 : Value) : WP :=
  pv (nilO x0) fun v17 =>
  pv (faO 0 v17) fun v18 =>
  ld1 v18 fun v19 =>
  pv (bldO [.slice none 0 0, .slice none 0 0] [(0,1, v19), (1,1, x1)]) fun v20 =>
  cal Pg R 16 ⟨[v20]⟩ fun v21 =>
  pv (bin .neq v21 (.int .i64 0)) fun v22 =>
  cnd v22 (
   R (.returned (.tuple ⟨[(.slice none 0 0), v21]⟩))) (
   F30_j2 R x0 x1)
theorem F30_j7_ok (R : ER) (e : Env) : den Pg R (cd Try.f30 [1,1,0]) e (setN (kont Pg R Try.f30) (fun e => F30_j2 R (e 0) (e 1))) = (F30_j7 R (e 0) (e 1)) := (by kernel_rfl)
def F30_j1 (R : ER) (x0 x1 : Value) : WP :=
  F30_j7 R x0 x1
theorem F30_j1_ok (R : ER) (e : Env) : den Pg R (cd Try.f30 [1,1]) e (kont Pg R Try.f30) = (F30_j1 R (e 0) (e 1)) := (den_join Pg R 0 (cd Try.f30 [1,1]) (cd Try.f30 [1,1,1]) e (kont Pg R Try.f30) (fun e => F30_j2 R (e 0) (e 1)) _ (by kernel_rfl) (fun e => F30_j2_ok R e) (den_conv Pg R (pre 0 (cd Try.f30 [1,1])) (cd Try.f30 [1,1,0]) e (setN (kont Pg R Try.f30) (fun e => F30_j2 R (e 0) (e 1))) _ (by kernel_rfl) (F30_j7_ok R e)))
def F30 (R : ER) (x0 x1 : Value) : WP :=
  pv (eqNilP x0) fun v23 =>
  cnd v23 (
   R (.returned (.tuple ⟨[(.slice none 0 0), (.int .i64 35)]⟩))) (
   F30_j1 R x0 x1)
theorem F30_den (R : ER) (x0 x1 : Value) : den Pg R (cd Try.f30 []) (argsEnv [x0, x1]) (kont Pg R Try.f30) = F30 R x0 x1 :=
  have h : ∀ e, den Pg R (cd Try.f30 []) e (kont Pg R Try.f30) = F30 R (e 0) (e 1) := fun e => (den_join Pg R 1 (cd Try.f30 []) (cd Try.f30 [1,1]) e (kont Pg R Try.f30) (fun e => F30_j1 R (e 0) (e 1)) _ (by kernel_rfl) (fun e => F30_j1_ok R e) (by kernel_rfl))
  h _
theorem F30_calls {R : ER} {x0 x1 : Value} {w : World} (h : F30 R x0 x1 w) : Calls Pg 30 ⟨[x0, x1]⟩ w R :=
  calls_of_den Try.func30 (by kernel_rfl) (by kernel_rfl) (F30_den R x0 x1) h
/-! ### 31: inherit_Tracker_Add -/
def F31_j1 (R : ER) (x0 x3 : Value) : WP :=
  drewV (
  pv (nilO x0) fun v1 =>
  pv (faO 1 v1) fun v2 =>
  ld1 v2 fun v3 =>
  ldN 2 x3 fun v4 =>
  mem fun w6 => unitV Pg noR (Instr.mapUpdate 72 v3 v4 (.bool true)) fun v5 =>
  cal Pg R 58 ⟨[x0]⟩ fun v7 =>
  R (.returned (.tuple ⟨[v7, (.int .i64 0)]⟩)))
theorem F31_j1_ok (R : ER) (e : Env) : den Pg R (cd Try.f31 [1,1]) e (kont Pg R Try.f31) = (F31_j1 R (e 0) (e 3)) := by kernel_rfl
def F31_j6 (R : ER) (x0 x3 : Value) : WP :=
  drewV (
  pv (nilO x0) fun v8 =>
  pv (faO 1 v8) fun v9 =>
  ld1 v9 fun v10 =>
  ldN 2 x3 fun v11 =>
  mem fun w13 => valV Pg noR (Instr.lookup 72 v10 v11 false) fun v12 =>
  cnd v12 (
   R (.returned (.tuple ⟨[(.slice none 0 0), (.int .i64 10)]⟩))) (
   pv (nilO x0) fun v14 =>
   pv (faO 1 v14) fun v15 =>
   ld1 v15 fun v16 =>
   blt Pg R .len ⟨[72]⟩ 3 ⟨[false]⟩ ⟨[v16]⟩ fun v17 =>
   pv (bin .geq v17 (.int .i64 2000)) fun v18 =>
   cnd v18 (
    R (.returned (.tuple ⟨[(.slice none 0 0), (.int .i64 18)]⟩))) (
    F31_j1 R x0 x3)))
theorem F31_j6_ok (R : ER) (e : Env) : den Pg R (cd Try.f31 [1,0,0,1,1,1,1]) e (inB 0 (setN (kont Pg R Try.f31) (fun e => F31_j1 R (e 0) (e 3)))) = (F31_j6 R (e 0) (e 3)) := (by kernel_rfl)
def F31_j5 (R : ER) (x0 x3 x9 : Value) : WP :=
  cnd x9 (R (.returned (.tuple ⟨[(.slice none 0 0), (.int .i64 34)]⟩))) (F31_j6 R x0 x3)
theorem F31_j5_ok (R : ER) (e : Env) : den Pg R (cd Try.f31 [1,0,0,1,1,1]) e (inB 0 (setN (kont Pg R Try.f31) (fun e => F31_j1 R (e 0) (e 3)))) = (F31_j5 R (e 0) (e 3) (e 9)) := (den_if Pg R (cd Try.f31 [1,0,0,1,1,1]) (cd Try.f31 [1,0,0,1,1,1,0]) (cd Try.f31 [1,0,0,1,1,1,1]) e (inB 0 (setN (kont Pg R Try.f31) (fun e => F31_j1 R (e 0) (e 3)))) _ (F31_j6 R (e 0) (e 3)) _ (by kernel_rfl) rfl (F31_j6_ok R e) (by kernel_rfl))
def F31_j4 (R : ER) (x0 x3 : Value) : WP :=
  pv (faO 0 x3) fun v19 =>
  ld1 v19 fun v20 =>
  cal Pg R 57 ⟨[x0, v20]⟩ fun v21 =>
  pv (unO .not v21) fun v22 =>
  gd v22 false (pv (some x0)) fun v23 =>
  gd v22 false (pv (faO 1 x3)) fun v24 =>
  gd v22 false (ld1 v24) fun v25 =>
  gd v22 false (cal Pg R 57 ⟨[v23, v25]⟩) fun v26 =>
  gd v22 false (pv (unO .not v26)) fun v27 =>
  pv (pickO v22 (.bool true) v27) fun v28 =>
  F31_j5 R x0 x3 v28
theorem F31_j4_ok (R : ER) (e : Env) : den Pg R (cd Try.f31 [1,0,0,1,1]) e (inB 0 (setN (kont Pg R Try.f31) (fun e => F31_j1 R (e 0) (e 3)))) = (F31_j4 R (e 0) (e 3)) := (den_join Pg R 0 (cd Try.f31 [1,0,0,1,1]) (cd Try.f31 [1,0,0,1,1,1]) e (inB 0 (setN (kont Pg R Try.f31) (fun e => F31_j1 R (e 0) (e 3)))) (fun e => F31_j5 R (e 0) (e 3) (e 9)) _ (by kernel_rfl) (fun e => F31_j5_ok R e) (by kernel_rfl))
def F31_j3 (R : ER) (x0 x3 x6 : Value) : WP :=
  cnd x6 (R (.returned (.tuple ⟨[(.slice none 0 0), (.int .i64 35)]⟩))) (F31_j4 R x0 x3)
theorem F31_j3_ok (R : ER) (e : Env) : den Pg R (cd Try.f31 [1,0,0,1]) e (inB 0 (setN (kont Pg R Try.f31) (fun e => F31_j1 R (e 0) (e 3)))) = (F31_j3 R (e 0) (e 3) (e 6)) := (den_if Pg R (cd Try.f31 [1,0,0,1]) (cd Try.f31 [1,0,0,1,0]) (cd Try.f31 [1,0,0,1,1]) e (inB 0 (setN (kont Pg R Try.f31) (fun e => F31_j1 R (e 0) (e 3)))) _ (F31_j4 R (e 0) (e 3)) _ (by kernel_rfl) rfl (F31_j4_ok R e) (by kernel_rfl))
def F31_j2 (R : ER) (x0 x3 : Value) : WP :=
  pv (eqNilP x0) fun v29 =>
  F31_j3 R x0 x3 v29
theorem F31_j2_ok (R : ER) (e : Env) : den Pg R (cd Try.f31 [1,0]) e (setN (kont Pg R Try.f31) (fun e => F31_j1 R (e 0) (e 3))) = (F31_j2 R (e 0) (e 3)) := (den_block Pg R (cd Try.f31 [1,0]) 0 (cd Try.f31 [1,0,0]) e (setN (kont Pg R Try.f31) (fun e => F31_j1 R (e 0) (e 3))) _ (by kernel_rfl) (den_join Pg R 0 (cd Try.f31 [1,0,0]) (cd Try.f31 [1,0,0,1]) e (inB 0 (setN (kont Pg R Try.f31) (fun e => F31_j1 R (e 0) (e 3)))) (fun e => F31_j3 R (e 0) (e 3) (e 6)) _ (by kernel_rfl) (fun e => F31_j3_ok R e) (by kernel_rfl)))
def F31 (R : ER) (x0 x1 : Value) : WP :=
  bx 39 x1 fun v30 =>
  F31_j2 R x0 v30
theorem F31_den (R : ER) (x0 x1 : Value) : den Pg R (cd Try.f31 []) (argsEnv [x0, x1]) (kont Pg R Try.f31) = F31 R x0 x1 :=
  have h : ∀ e, den Pg R (cd Try.f31 []) e (kont Pg R Try.f31) = F31 R (e 0) (e 1) := fun e => (den_join Pg R 1 (cd Try.f31 []) (cd Try.f31 [1,1]) e (kont Pg R Try.f31) (fun e => F31_j1 R (e 0) (e 3)) _ (by kernel_rfl) (fun e => F31_j1_ok R e) (den_join Pg R 0 (pre 1 (cd Try.f31 [])) (cd Try.f31 [1,0]) e (setN (kont Pg R Try.f31) (fun e => F31_j1 R (e 0) (e 3))) (fun e => F31_j2 R (e 0) (e 3)) _ (by kernel_rfl) (fun e => F31_j2_ok R e) (by kernel_rfl)))
  h _
theorem F31_calls {R : ER} {x0 x1 : Value} {w : World} (h : F31 R x0 x1 w) : Calls Pg 31 ⟨[x0, x1]⟩ w R :=
  calls_of_den Try.func31 (by kernel_rfl) (by kernel_rfl) (F31_den R x0 x1) h
/-! ### 32: inherit_Tracker_Effective -/
def F32 (R : ER) (x0 x1 : Value) : WP :=
  pv (eqNilP x0) fun v1 =>
  cnd v1 (
   R (.returned (.tuple ⟨[(.int .i64 0), (.int .i64 35)]⟩))) (
   cal Pg R 57 ⟨[x0, x1]⟩ fun v2 =>
   pv (unO .not v2) fun v3 =>
   cnd v3 (
    R (.returned (.tuple ⟨[(.int .i64 0), (.int .i64 34)]⟩))) (
    pv (nilO x0) fun v4 =>
  pv (faO 2 v4) fun v5 =>
  ld1 v5 fun v6 =>
  pv (ixS 1 v6 x1) fun v7 =>
  ld1 v7 fun v8 =>
  R (.returned (.tuple ⟨[v8, (.int .i64 0)]⟩))))
theorem F32_den (R : ER) (x0 x1 : Value) : den Pg R (cd Try.f32 []) (argsEnv [x0, x1]) (kont Pg R Try.f32) = F32 R x0 x1 :=
  have h : ∀ e, den Pg R (cd Try.f32 []) e (kont Pg R Try.f32) = F32 R (e 0) (e 1) := fun e => (by kernel_rfl)
  h _
theorem F32_calls {R : ER} {x0 x1 : Value} {w : World} (h : F32 R x0 x1 w) : Calls Pg 32 ⟨[x0, x1]⟩ w R :=
  calls_of_den Try.func32 (by kernel_rfl) (by kernel_rfl) (F32_den R x0 x1) h
end Go.Proofs.Ytagcifbfokneoaa.Den
end
