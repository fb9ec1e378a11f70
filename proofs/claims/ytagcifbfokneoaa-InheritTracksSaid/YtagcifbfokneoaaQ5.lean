/- Printed by a program of this session: what the functions mean, and that the model means just that. Conditions: none. -/
import Derived.Test.YtagcifbfokneoaaQ4
section
set_option linter.unusedVariables false
set_option maxRecDepth 100000
namespace Go.Proofs.Ytagcifbfokneoaa.Den
open Go
/-! ### 33: inherit_Graph_effective -/
def F33_j3 (R : ER) (x3 : Value) : WP :=
  ld1 x3 fun v1 =>
  R (.returned v1)
theorem F33_j3_ok (R : ER) (e : Env) : den Pg R (cd Try.f33 [1,1,1,1,1,1]) e (kont Pg R Try.f33) = (F33_j3 R (e 3)) := by kernel_rfl
def F33_j7 (R : ER) (k1 : V4) (k2 : V8) (x3 x4 x5 x6 x8 x44 x45 x46 : Value) : WP :=
  pv (ixS 1 x44 x46) fun v2 =>
  ld1 v2 fun v3 =>
  ld1 x3 fun v4 =>
  pv (ixS 1 v4 x8) fun v5 =>
  ld1 v5 fun v6 =>
  calD Pg R x6 ⟨[v3, v6]⟩ fun v7 =>
  pv (bin .add x46 (.int .i64 1)) fun v8 =>
  k2 x3 x4 x5 x6 x8 x44 x45 v8
theorem F33_j7_ok (R : ER) (k1 : V4) (k2 : V8) (e : Env) : den Pg R (cd Try.f33 [1,1,1,1,1,0,0,0,1,0,1,1,1,0,0,1,1]) e (setN (inB 4 (inB 3 (setN (inB 2 (setN (kont Pg R Try.f33) (fun e => F33_j3 R (e 3)))) (fun e => k1 (e 3) (e 4) (e 5) (e 6))))) (fun e => k2 (e 3) (e 4) (e 5) (e 6) (e 8) (e 44) (e 45) (e 46))) = (F33_j7 R k1 k2 (e 3) (e 4) (e 5) (e 6) (e 8) (e 44) (e 45) (e 46)) := by kernel_rfl
def F33_b2 (R : ER) (k1 : V4) (k2 : V8) (x3 x4 x5 x6 x8 x44 x45 x46 : Value) : WP :=
  pv (bin .lss x46 x45) fun v9 =>
  cnd v9 (
   F33_j7 R k1 k2 x3 x4 x5 x6 x8 x44 x45 x46) (
   k1 x3 x4 x5 x6)
theorem F33_b2_ok (R : ER) (k1 : V4) (k2 : V8) (e : Env) : den Pg R (cd Try.f33 [1,1,1,1,1,0,0,0,1,0,1,1,1,0,0]) e (setN (inB 4 (inB 3 (setN (inB 2 (setN (kont Pg R Try.f33) (fun e => F33_j3 R (e 3)))) (fun e => k1 (e 3) (e 4) (e 5) (e 6))))) (fun e => k2 (e 3) (e 4) (e 5) (e 6) (e 8) (e 44) (e 45) (e 46))) = (F33_b2 R k1 k2 (e 3) (e 4) (e 5) (e 6) (e 8) (e 44) (e 45) (e 46)) := (den_join Pg R 1 (cd Try.f33 [1,1,1,1,1,0,0,0,1,0,1,1,1,0,0]) (cd Try.f33 [1,1,1,1,1,0,0,0,1,0,1,1,1,0,0,1,1]) e (setN (inB 4 (inB 3 (setN (inB 2 (setN (kont Pg R Try.f33) (fun e => F33_j3 R (e 3)))) (fun e => k1 (e 3) (e 4) (e 5) (e 6))))) (fun e => k2 (e 3) (e 4) (e 5) (e 6) (e 8) (e 44) (e 45) (e 46))) (fun e => F33_j7 R k1 k2 (e 3) (e 4) (e 5) (e 6) (e 8) (e 44) (e 45) (e 46)) _ (by kernel_rfl) (fun e => F33_j7_ok R k1 k2 e) (by kernel_rfl))
noncomputable def F33_l1 (R : ER) (k1 : V4) (n : Nat) : V8 := Nat.rec (motive := fun _ => V8) (fun _ _ _ _ _ _ _ _ => fun _ => False) (fun _ ih => fun x3 x4 x5 x6 x8 x44 x45 x46 => F33_b2 R k1 ih x3 x4 x5 x6 x8 x44 x45 x46) n
theorem F33_l1_succ (R : ER) (k1 : V4) (n : Nat) (x3 x4 x5 x6 x8 x44 x45 x46 : Value) : F33_l1 R k1 (n + 1) x3 x4 x5 x6 x8 x44 x45 x46 = F33_b2 R k1 (F33_l1 R k1 n) x3 x4 x5 x6 x8 x44 x45 x46 := rfl
theorem F33_l1_ok (R : ER) (k1 : V4) : ∀ (n : Nat) (e : Env), iterL (den Pg R (cd Try.f33 [1,1,1,1,1,0,0,0,1,0,1,1,1,0,0])) n e (inB 4 (inB 3 (setN (inB 2 (setN (kont Pg R Try.f33) (fun e => F33_j3 R (e 3)))) (fun e => k1 (e 3) (e 4) (e 5) (e 6))))) = F33_l1 R k1 n (e 3) (e 4) (e 5) (e 6) (e 8) (e 44) (e 45) (e 46) :=
  iterL_join (den Pg R (cd Try.f33 [1,1,1,1,1,0,0,0,1,0,1,1,1,0,0])) (inB 4 (inB 3 (setN (inB 2 (setN (kont Pg R Try.f33) (fun e => F33_j3 R (e 3)))) (fun e => k1 (e 3) (e 4) (e 5) (e 6))))) (fun n e => F33_l1 R k1 n (e 3) (e 4) (e 5) (e 6) (e 8) (e 44) (e 45) (e 46)) (fun _ => rfl) (fun n e => (F33_b2_ok R k1 (F33_l1 R k1 n) e).trans (F33_l1_succ R k1 n (e 3) (e 4) (e 5) (e 6) (e 8) (e 44) (e 45) (e 46)).symm)
def F33_j6 (R : ER) (k1 : V4) (x3 x4 x5 x6 x8 x44 x45 x46 : Value) : WP :=
  exN fun n => F33_l1 R k1 n x3 x4 x5 x6 x8 x44 x45 x46
theorem F33_j6_ok (R : ER) (k1 : V4) (e : Env) : den Pg R (cd Try.f33 [1,1,1,1,1,0,0,0,1,0,1,1,1]) e (inB 3 (setN (inB 2 (setN (kont Pg R Try.f33) (fun e => F33_j3 R (e 3)))) (fun e => k1 (e 3) (e 4) (e 5) (e 6)))) = (F33_j6 R k1 (e 3) (e 4) (e 5) (e 6) (e 8) (e 44) (e 45) (e 46)) := (den_block Pg R (cd Try.f33 [1,1,1,1,1,0,0,0,1,0,1,1,1]) 4 (cd Try.f33 [1,1,1,1,1,0,0,0,1,0,1,1,1,0]) e (inB 3 (setN (inB 2 (setN (kont Pg R Try.f33) (fun e => F33_j3 R (e 3)))) (fun e => k1 (e 3) (e 4) (e 5) (e 6)))) _ (by kernel_rfl) (den_loop Pg R (cd Try.f33 [1,1,1,1,1,0,0,0,1,0,1,1,1,0]) (cd Try.f33 [1,1,1,1,1,0,0,0,1,0,1,1,1,0,0]) e (inB 4 (inB 3 (setN (inB 2 (setN (kont Pg R Try.f33) (fun e => F33_j3 R (e 3)))) (fun e => k1 (e 3) (e 4) (e 5) (e 6))))) (fun n e => F33_l1 R k1 n (e 3) (e 4) (e 5) (e 6) (e 8) (e 44) (e 45) (e 46)) _ (by kernel_rfl) (F33_l1_ok R k1) (by kernel_rfl)))
def F33_j5 (R : ER) (k1 : V4) (x3 x4 x5 x6 : Value) : WP :=
  ld1 x5 fun v10 =>
  ld1 x5 fun v11 =>
  pv (lenS v11) fun v12 =>
  pv (bin .sub v12 (.int .i64 1)) fun v13 =>
  pv (ixS 1 v10 v13) fun v14 =>
  ld1 v14 fun v15 =>
  ld1 x5 fun v16 =>
  ld1 x5 fun v17 =>
  pv (lenS v17) fun v18 =>
  pv (bin .sub v18 (.int .i64 1)) fun v19 =>
  pv (slS 1 v16 none (some v19)) fun v20 =>
  st1 x5 v20 fun _ =>
  pv (ixS 1 x4 v15) fun v21 =>
  ld1 v21 fun v22 =>
  pv (lenS v22) fun v23 =>
  F33_j6 R k1 x3 x4 x5 x6 v15 v22 v23 (.int .i64 0)
theorem F33_j5_ok (R : ER) (k1 : V4) (e : Env) : den Pg R (cd Try.f33 [1,1,1,1,1,0,0,0,1]) e (setN (inB 2 (setN (kont Pg R Try.f33) (fun e => F33_j3 R (e 3)))) (fun e => k1 (e 3) (e 4) (e 5) (e 6))) = (F33_j5 R k1 (e 3) (e 4) (e 5) (e 6)) := (den_block Pg R (cd Try.f33 [1,1,1,1,1,0,0,0,1]) 3 (cd Try.f33 [1,1,1,1,1,0,0,0,1,0]) e (setN (inB 2 (setN (kont Pg R Try.f33) (fun e => F33_j3 R (e 3)))) (fun e => k1 (e 3) (e 4) (e 5) (e 6))) _ (by kernel_rfl) (den_join Pg R 2 (cd Try.f33 [1,1,1,1,1,0,0,0,1,0]) (cd Try.f33 [1,1,1,1,1,0,0,0,1,0,1,1,1]) e (inB 3 (setN (inB 2 (setN (kont Pg R Try.f33) (fun e => F33_j3 R (e 3)))) (fun e => k1 (e 3) (e 4) (e 5) (e 6)))) (fun e => F33_j6 R k1 (e 3) (e 4) (e 5) (e 6) (e 8) (e 44) (e 45) (e 46)) _ (by kernel_rfl) (fun e => F33_j6_ok R k1 e) (by kernel_rfl)))
def F33_b1 (R : ER) (k1 : V4) (x3 x4 x5 x6 : Value) : WP :=
  ld1 x5 fun v24 =>
  pv (lenS v24) fun v25 =>
  pv (bin .gtr v25 (.int .i64 0)) fun v26 =>
  cnd v26 (
   F33_j5 R k1 x3 x4 x5 x6) (
   F33_j3 R x3)
theorem F33_b1_ok (R : ER) (k1 : V4) (e : Env) : den Pg R (cd Try.f33 [1,1,1,1,1,0,0,0]) e (setN (inB 2 (setN (kont Pg R Try.f33) (fun e => F33_j3 R (e 3)))) (fun e => k1 (e 3) (e 4) (e 5) (e 6))) = (F33_b1 R k1 (e 3) (e 4) (e 5) (e 6)) := (den_join Pg R 0 (cd Try.f33 [1,1,1,1,1,0,0,0]) (cd Try.f33 [1,1,1,1,1,0,0,0,1]) e (setN (inB 2 (setN (kont Pg R Try.f33) (fun e => F33_j3 R (e 3)))) (fun e => k1 (e 3) (e 4) (e 5) (e 6))) (fun e => F33_j5 R k1 (e 3) (e 4) (e 5) (e 6)) _ (by kernel_rfl) (fun e => F33_j5_ok R k1 e) (by kernel_rfl))
noncomputable def F33_l2 (R : ER) (n : Nat) : V4 := Nat.rec (motive := fun _ => V4) (fun _ _ _ _ => fun _ => False) (fun _ ih => fun x3 x4 x5 x6 => F33_b1 R ih x3 x4 x5 x6) n
theorem F33_l2_succ (R : ER) (n : Nat) (x3 x4 x5 x6 : Value) : F33_l2 R (n + 1) x3 x4 x5 x6 = F33_b1 R (F33_l2 R n) x3 x4 x5 x6 := rfl
theorem F33_l2_ok (R : ER) : ∀ (n : Nat) (e : Env), iterL (den Pg R (cd Try.f33 [1,1,1,1,1,0,0,0])) n e (inB 2 (setN (kont Pg R Try.f33) (fun e => F33_j3 R (e 3)))) = F33_l2 R n (e 3) (e 4) (e 5) (e 6) :=
  iterL_join (den Pg R (cd Try.f33 [1,1,1,1,1,0,0,0])) (inB 2 (setN (kont Pg R Try.f33) (fun e => F33_j3 R (e 3)))) (fun n e => F33_l2 R n (e 3) (e 4) (e 5) (e 6)) (fun _ => rfl) (fun n e => (F33_b1_ok R (F33_l2 R n) e).trans (F33_l2_succ R n (e 3) (e 4) (e 5) (e 6)).symm)
def F33_j4 (R : ER) (x3 x4 x5 x6 : Value) : WP :=
  exN fun n => F33_l2 R n x3 x4 x5 x6
theorem F33_j4_ok (R : ER) (e : Env) : den Pg R (cd Try.f33 [1,1,1,1,1,0]) e (setN (kont Pg R Try.f33) (fun e => F33_j3 R (e 3))) = (F33_j4 R (e 3) (e 4) (e 5) (e 6)) := (den_block Pg R (cd Try.f33 [1,1,1,1,1,0]) 2 (cd Try.f33 [1,1,1,1,1,0,0]) e (setN (kont Pg R Try.f33) (fun e => F33_j3 R (e 3))) _ (by kernel_rfl) (den_loop Pg R (cd Try.f33 [1,1,1,1,1,0,0]) (cd Try.f33 [1,1,1,1,1,0,0,0]) e (inB 2 (setN (kont Pg R Try.f33) (fun e => F33_j3 R (e 3)))) (fun n e => F33_l2 R n (e 3) (e 4) (e 5) (e 6)) _ (by kernel_rfl) (F33_l2_ok R) (by kernel_rfl)))
def F33_j2 (R : ER) (x3 x4 x5 x6 : Value) : WP :=
  F33_j4 R x3 x4 x5 x6
theorem F33_j2_ok (R : ER) (e : Env) : den Pg R (cd Try.f33 [1,1,1,1,1]) e (kont Pg R Try.f33) = (F33_j2 R (e 3) (e 4) (e 5) (e 6)) := (den_join Pg R 0 (cd Try.f33 [1,1,1,1,1]) (cd Try.f33 [1,1,1,1,1,1]) e (kont Pg R Try.f33) (fun e => F33_j3 R (e 3)) _ (by kernel_rfl) (fun e => F33_j3_ok R e) (den_conv Pg R (pre 0 (cd Try.f33 [1,1,1,1,1])) (cd Try.f33 [1,1,1,1,1,0]) e (setN (kont Pg R Try.f33) (fun e => F33_j3 R (e 3))) _ (by kernel_rfl) (F33_j4_ok R e)))
def F33_b3 (R : ER) (k1 : V6) (x3 x4 x5 x6 x18 x19 : Value) : WP :=
  pv (bin .lss x19 x18) fun v27 =>
  cnd v27 (
   ld1 x5 fun v28 =>
  valV Pg R (Instr.buildSlice 22 1 ⟨[(0, x19)]⟩) fun v29 =>
  blt Pg R .append ⟨[22,22]⟩ 22 ⟨[false, false]⟩ ⟨[v28, v29]⟩ fun v30 =>
  st1 x5 v30 fun _ =>
  pv (bin .add x19 (.int .i64 1)) fun v31 =>
  k1 x3 x4 x5 x6 x18 v31) (
   F33_j2 R x3 x4 x5 x6)
theorem F33_b3_ok (R : ER) (k1 : V6) (e : Env) : den Pg R (cd Try.f33 [1,1,1,1,0,1,0,0]) e (setN (inB 0 (setN (kont Pg R Try.f33) (fun e => F33_j2 R (e 3) (e 4) (e 5) (e 6)))) (fun e => k1 (e 3) (e 4) (e 5) (e 6) (e 18) (e 19))) = (F33_b3 R k1 (e 3) (e 4) (e 5) (e 6) (e 18) (e 19)) := by kernel_rfl
noncomputable def F33_l3 (R : ER) (n : Nat) : V6 := Nat.rec (motive := fun _ => V6) (fun _ _ _ _ _ _ => fun _ => False) (fun _ ih => fun x3 x4 x5 x6 x18 x19 => F33_b3 R ih x3 x4 x5 x6 x18 x19) n
theorem F33_l3_succ (R : ER) (n : Nat) (x3 x4 x5 x6 x18 x19 : Value) : F33_l3 R (n + 1) x3 x4 x5 x6 x18 x19 = F33_b3 R (F33_l3 R n) x3 x4 x5 x6 x18 x19 := rfl
theorem F33_l3_ok (R : ER) : ∀ (n : Nat) (e : Env), iterL (den Pg R (cd Try.f33 [1,1,1,1,0,1,0,0])) n e (inB 0 (setN (kont Pg R Try.f33) (fun e => F33_j2 R (e 3) (e 4) (e 5) (e 6)))) = F33_l3 R n (e 3) (e 4) (e 5) (e 6) (e 18) (e 19) :=
  iterL_join (den Pg R (cd Try.f33 [1,1,1,1,0,1,0,0])) (inB 0 (setN (kont Pg R Try.f33) (fun e => F33_j2 R (e 3) (e 4) (e 5) (e 6)))) (fun n e => F33_l3 R n (e 3) (e 4) (e 5) (e 6) (e 18) (e 19)) (fun _ => rfl) (fun n e => (F33_b3_ok R (F33_l3 R n) e).trans (F33_l3_succ R n (e 3) (e 4) (e 5) (e 6) (e 18) (e 19)).symm)
def F33_j9 (R : ER) (x3 x4 x5 x6 x18 x19 : Value) : WP :=
  exN fun n => F33_l3 R n x3 x4 x5 x6 x18 x19
theorem F33_j9_ok (R : ER) (e : Env) : den Pg R (cd Try.f33 [1,1,1,1,0,1]) e (setN (kont Pg R Try.f33) (fun e => F33_j2 R (e 3) (e 4) (e 5) (e 6))) = (F33_j9 R (e 3) (e 4) (e 5) (e 6) (e 18) (e 19)) := (den_block Pg R (cd Try.f33 [1,1,1,1,0,1]) 0 (cd Try.f33 [1,1,1,1,0,1,0]) e (setN (kont Pg R Try.f33) (fun e => F33_j2 R (e 3) (e 4) (e 5) (e 6))) _ (by kernel_rfl) (den_loop Pg R (cd Try.f33 [1,1,1,1,0,1,0]) (cd Try.f33 [1,1,1,1,0,1,0,0]) e (inB 0 (setN (kont Pg R Try.f33) (fun e => F33_j2 R (e 3) (e 4) (e 5) (e 6)))) (fun n e => F33_l3 R n (e 3) (e 4) (e 5) (e 6) (e 18) (e 19)) _ (by kernel_rfl) (F33_l3_ok R) (by kernel_rfl)))
def F33_j8 (R : ER) (x3 x4 x5 x6 : Value) : WP :=
  ld1 x3 fun v32 =>
  pv (lenS v32) fun v33 =>
  F33_j9 R x3 x4 x5 x6 v33 (.int .i64 0)
theorem F33_j8_ok (R : ER) (e : Env) : den Pg R (cd Try.f33 [1,1,1,1,0]) e (setN (kont Pg R Try.f33) (fun e => F33_j2 R (e 3) (e 4) (e 5) (e 6))) = (F33_j8 R (e 3) (e 4) (e 5) (e 6)) := (den_join Pg R 0 (cd Try.f33 [1,1,1,1,0]) (cd Try.f33 [1,1,1,1,0,1]) e (setN (kont Pg R Try.f33) (fun e => F33_j2 R (e 3) (e 4) (e 5) (e 6))) (fun e => F33_j9 R (e 3) (e 4) (e 5) (e 6) (e 18) (e 19)) _ (by kernel_rfl) (fun e => F33_j9_ok R e) (by kernel_rfl))
def F33_j1 (R : ER) (x3 x4 : Value) : WP :=
  al Pg 22 fun v34 =>
  F33_j8 R x3 x4 v34 (.func (.func 59) ⟨[]⟩ ⟨[x3, v34]⟩)
theorem F33_j1_ok (R : ER) (e : Env) : den Pg R (cd Try.f33 [1,1]) e (kont Pg R Try.f33) = (F33_j1 R (e 3) (e 4)) := (den_join Pg R 2 (cd Try.f33 [1,1]) (cd Try.f33 [1,1,1,1,1]) e (kont Pg R Try.f33) (fun e => F33_j2 R (e 3) (e 4) (e 5) (e 6)) _ (by kernel_rfl) (fun e => F33_j2_ok R e) (den_join Pg R 1 (pre 2 (cd Try.f33 [1,1])) (cd Try.f33 [1,1,1,1,0]) e (setN (kont Pg R Try.f33) (fun e => F33_j2 R (e 3) (e 4) (e 5) (e 6))) (fun e => F33_j8 R (e 3) (e 4) (e 5) (e 6)) _ (by kernel_rfl) (fun e => F33_j8_ok R e) (by kernel_rfl)))
def F33 (R : ER) (x0 : Value) : WP :=
  bx 25 x0 fun v35 =>
  drewV (
  pv (faO 0 v35) fun v36 =>
  ld1 v36 fun v37 =>
  ldN 2 v35 fun v38 =>
  allW [
  (mem fun w40 => cal Pg noR 50 ⟨[v37]⟩ fun v39 =>
   rdN 2 v35 v38 <|
   allW [
   (mem fun w42 => cal Pg noR 46 ⟨[v38]⟩ fun v41 =>
    mem fun w44 => al Pg 22 fun v43 =>
    rdN 2 v35 v38 <|
    rd1 v36 v37 <|
    mem fun w46 => st1 v43 v39 fun v45 =>
    F33_j1 R v43 v41),
   (mem fun w48 => al Pg 22 fun v47 =>
    rdN 2 v35 v38 <|
    rd1 v36 v37 <|
    mem fun w50 => cal Pg noR 46 ⟨[v38]⟩ fun v49 =>
    mem fun w52 => st1 v47 v39 fun v51 =>
    F33_j1 R v47 v49)]),
  (mem fun w54 => al Pg 22 fun v53 =>
   rdN 2 v35 v38 <|
   rd1 v36 v37 <|
   mem fun w56 => cal Pg noR 50 ⟨[v37]⟩ fun v55 =>
   rdN 2 v35 v38 <|
   mem fun w58 => cal Pg noR 46 ⟨[v38]⟩ fun v57 =>
   mem fun w60 => st1 v53 v55 fun v59 =>
   F33_j1 R v53 v57)])
theorem F33_den (R : ER) (x0 : Value) : den Pg R (cd Try.f33 []) (argsEnv [x0]) (kont Pg R Try.f33) = F33 R x0 :=
  have h : ∀ e, den Pg R (cd Try.f33 []) e (kont Pg R Try.f33) = F33 R (e 0) := fun e => (den_join Pg R 1 (cd Try.f33 []) (cd Try.f33 [1,1]) e (kont Pg R Try.f33) (fun e => F33_j1 R (e 3) (e 4)) _ (by kernel_rfl) (fun e => F33_j1_ok R e) (by kernel_rfl))
  h _
theorem F33_calls {R : ER} {x0 : Value} {w : World} (h : F33 R x0 w) : Calls Pg 33 ⟨[x0]⟩ w R :=
  calls_of_den Try.func33 (by kernel_rfl) (by kernel_rfl) (F33_den R x0) h
/-! ### 34: orpimentref05_Values -/
def F34_j1 (R : ER) (x3 : Value) : WP :=
  R (.returned x3)
theorem F34_j1_ok (R : ER) (e : Env) : den Pg R (cd Try.f34 [1,1,1]) e (kont Pg R Try.f34) = (F34_j1 R (e 3)) := by kernel_rfl
def F34_j7 (R : ER) (k1 : V3) (k2 : V4) (x1 x3 x4 x5 : Value) : WP :=
  pv (bin .add x5 (.int .i64 1)) fun v1 =>
  k2 x1 x3 x4 v1
theorem F34_j7_ok (R : ER) (k1 : V3) (k2 : V4) (e : Env) : den Pg R (cd Try.f34 [1,1,0,1,0,0,1,0,1,1,0,0,1,1]) e (setN (inB 2 (inB 1 (setN (inB 0 (setN (kont Pg R Try.f34) (fun e => F34_j1 R (e 3)))) (fun e => k1 (e 1) (e 3) (e 4))))) (fun e => k2 (e 1) (e 3) (e 4) (e 5))) = (F34_j7 R k1 k2 (e 1) (e 3) (e 4) (e 5)) := by kernel_rfl
def F34_j8 (R : ER) (k1 : V3) (k2 : V4) (x1 x3 x4 x5 : Value) : WP :=
  pv (faO 1 x1) fun v2 =>
  ld1 v2 fun v3 =>
  pv (ixS 2 v3 x5) fun v4 =>
  ldN 2 v4 fun v5 =>
  al Pg 39 fun v6 =>
  stN 2 v6 v5 fun _ =>
  drewV (
  pv (faO 0 v6) fun v7 =>
  ld1 v7 fun v8 =>
  pv (ixS 1 x3 v8) fun v9 =>
  ld1 v9 fun v10 =>
  pv (faO 1 v6) fun v11 =>
  ld1 v11 fun v12 =>
  pv (ixS 1 x3 v12) fun v13 =>
  ld1 v13 fun v14 =>
  pv (bin .gtr v10 v14) fun v15 =>
  cnd v15 (
   drewV (
   pv (faO 1 v6) fun v16 =>
   ld1 v16 fun v17 =>
   pv (faO 0 v6) fun v18 =>
   ld1 v18 fun v19 =>
   pv (ixS 1 x3 v19) fun v20 =>
   ld1 v20 fun v21 =>
   pv (ixS 1 x3 v17) fun v22 =>
   mem fun w24 => st1 v22 v21 fun v23 =>
   F34_j7 R k1 k2 x1 x3 (.bool true) x5)) (
   F34_j7 R k1 k2 x1 x3 x4 x5))
theorem F34_j8_ok (R : ER) (k1 : V3) (k2 : V4) (e : Env) : den Pg R (cd Try.f34 [1,1,0,1,0,0,1,0,1,1,0,0,1,0]) e (setN (setN (inB 2 (inB 1 (setN (inB 0 (setN (kont Pg R Try.f34) (fun e => F34_j1 R (e 3)))) (fun e => k1 (e 1) (e 3) (e 4))))) (fun e => k2 (e 1) (e 3) (e 4) (e 5))) (fun e => F34_j7 R k1 k2 (e 1) (e 3) (e 4) (e 5))) = (F34_j8 R k1 k2 (e 1) (e 3) (e 4) (e 5)) := (den_block Pg R (cd Try.f34 [1,1,0,1,0,0,1,0,1,1,0,0,1,0]) 3 (cd Try.f34 [1,1,0,1,0,0,1,0,1,1,0,0,1,0,0]) e (setN (setN (inB 2 (inB 1 (setN (inB 0 (setN (kont Pg R Try.f34) (fun e => F34_j1 R (e 3)))) (fun e => k1 (e 1) (e 3) (e 4))))) (fun e => k2 (e 1) (e 3) (e 4) (e 5))) (fun e => F34_j7 R k1 k2 (e 1) (e 3) (e 4) (e 5))) _ (by kernel_rfl) (by kernel_rfl))
def F34_j6 (R : ER) (k1 : V3) (k2 : V4) (x1 x3 x4 x5 : Value) : WP :=
  F34_j8 R k1 k2 x1 x3 x4 x5
theorem F34_j6_ok (R : ER) (k1 : V3) (k2 : V4) (e : Env) : den Pg R (cd Try.f34 [1,1,0,1,0,0,1,0,1,1,0,0,1]) e (setN (inB 2 (inB 1 (setN (inB 0 (setN (kont Pg R Try.f34) (fun e => F34_j1 R (e 3)))) (fun e => k1 (e 1) (e 3) (e 4))))) (fun e => k2 (e 1) (e 3) (e 4) (e 5))) = (F34_j6 R k1 k2 (e 1) (e 3) (e 4) (e 5)) := (den_join Pg R 0 (cd Try.f34 [1,1,0,1,0,0,1,0,1,1,0,0,1]) (cd Try.f34 [1,1,0,1,0,0,1,0,1,1,0,0,1,1]) e (setN (inB 2 (inB 1 (setN (inB 0 (setN (kont Pg R Try.f34) (fun e => F34_j1 R (e 3)))) (fun e => k1 (e 1) (e 3) (e 4))))) (fun e => k2 (e 1) (e 3) (e 4) (e 5))) (fun e => F34_j7 R k1 k2 (e 1) (e 3) (e 4) (e 5)) _ (by kernel_rfl) (fun e => F34_j7_ok R k1 k2 e) (den_conv Pg R (pre 0 (cd Try.f34 [1,1,0,1,0,0,1,0,1,1,0,0,1])) (cd Try.f34 [1,1,0,1,0,0,1,0,1,1,0,0,1,0]) e (setN (setN (inB 2 (inB 1 (setN (inB 0 (setN (kont Pg R Try.f34) (fun e => F34_j1 R (e 3)))) (fun e => k1 (e 1) (e 3) (e 4))))) (fun e => k2 (e 1) (e 3) (e 4) (e 5))) (fun e => F34_j7 R k1 k2 (e 1) (e 3) (e 4) (e 5))) _ (by kernel_rfl) (F34_j8_ok R k1 k2 e)))
def F34_b2 (R : ER) (k1 : V3) (k2 : V4) (x1 x3 x4 x5 : Value) : WP :=
  pv (faO 1 x1) fun v25 =>
  ld1 v25 fun v26 =>
  pv (lenS v26) fun v27 =>
  pv (bin .lss x5 v27) fun v28 =>
  cnd v28 (
   F34_j6 R k1 k2 x1 x3 x4 x5) (
   k1 x1 x3 x4)
theorem F34_b2_ok (R : ER) (k1 : V3) (k2 : V4) (e : Env) : den Pg R (cd Try.f34 [1,1,0,1,0,0,1,0,1,1,0,0]) e (setN (inB 2 (inB 1 (setN (inB 0 (setN (kont Pg R Try.f34) (fun e => F34_j1 R (e 3)))) (fun e => k1 (e 1) (e 3) (e 4))))) (fun e => k2 (e 1) (e 3) (e 4) (e 5))) = (F34_b2 R k1 k2 (e 1) (e 3) (e 4) (e 5)) := (den_join Pg R 0 (cd Try.f34 [1,1,0,1,0,0,1,0,1,1,0,0]) (cd Try.f34 [1,1,0,1,0,0,1,0,1,1,0,0,1]) e (setN (inB 2 (inB 1 (setN (inB 0 (setN (kont Pg R Try.f34) (fun e => F34_j1 R (e 3)))) (fun e => k1 (e 1) (e 3) (e 4))))) (fun e => k2 (e 1) (e 3) (e 4) (e 5))) (fun e => F34_j6 R k1 k2 (e 1) (e 3) (e 4) (e 5)) _ (by kernel_rfl) (fun e => F34_j6_ok R k1 k2 e) (by kernel_rfl))
noncomputable def F34_l1 (R : ER) (k1 : V3) (n : Nat) : V4 := Nat.rec (motive := fun _ => V4) (fun _ _ _ _ => fun _ => False) (fun _ ih => fun x1 x3 x4 x5 => F34_b2 R k1 ih x1 x3 x4 x5) n
theorem F34_l1_succ (R : ER) (k1 : V3) (n : Nat) (x1 x3 x4 x5 : Value) : F34_l1 R k1 (n + 1) x1 x3 x4 x5 = F34_b2 R k1 (F34_l1 R k1 n) x1 x3 x4 x5 := rfl
theorem F34_l1_ok (R : ER) (k1 : V3) : ∀ (n : Nat) (e : Env), iterL (den Pg R (cd Try.f34 [1,1,0,1,0,0,1,0,1,1,0,0])) n e (inB 2 (inB 1 (setN (inB 0 (setN (kont Pg R Try.f34) (fun e => F34_j1 R (e 3)))) (fun e => k1 (e 1) (e 3) (e 4))))) = F34_l1 R k1 n (e 1) (e 3) (e 4) (e 5) :=
  iterL_join (den Pg R (cd Try.f34 [1,1,0,1,0,0,1,0,1,1,0,0])) (inB 2 (inB 1 (setN (inB 0 (setN (kont Pg R Try.f34) (fun e => F34_j1 R (e 3)))) (fun e => k1 (e 1) (e 3) (e 4))))) (fun n e => F34_l1 R k1 n (e 1) (e 3) (e 4) (e 5)) (fun _ => rfl) (fun n e => (F34_b2_ok R k1 (F34_l1 R k1 n) e).trans (F34_l1_succ R k1 n (e 1) (e 3) (e 4) (e 5)).symm)
def F34_j5 (R : ER) (k1 : V3) (x1 x3 x4 x5 : Value) : WP :=
  exN fun n => F34_l1 R k1 n x1 x3 x4 x5
theorem F34_j5_ok (R : ER) (k1 : V3) (e : Env) : den Pg R (cd Try.f34 [1,1,0,1,0,0,1,0,1,1]) e (inB 1 (setN (inB 0 (setN (kont Pg R Try.f34) (fun e => F34_j1 R (e 3)))) (fun e => k1 (e 1) (e 3) (e 4)))) = (F34_j5 R k1 (e 1) (e 3) (e 4) (e 5)) := (den_block Pg R (cd Try.f34 [1,1,0,1,0,0,1,0,1,1]) 2 (cd Try.f34 [1,1,0,1,0,0,1,0,1,1,0]) e (inB 1 (setN (inB 0 (setN (kont Pg R Try.f34) (fun e => F34_j1 R (e 3)))) (fun e => k1 (e 1) (e 3) (e 4)))) _ (by kernel_rfl) (den_loop Pg R (cd Try.f34 [1,1,0,1,0,0,1,0,1,1,0]) (cd Try.f34 [1,1,0,1,0,0,1,0,1,1,0,0]) e (inB 2 (inB 1 (setN (inB 0 (setN (kont Pg R Try.f34) (fun e => F34_j1 R (e 3)))) (fun e => k1 (e 1) (e 3) (e 4))))) (fun n e => F34_l1 R k1 n (e 1) (e 3) (e 4) (e 5)) _ (by kernel_rfl) (F34_l1_ok R k1) (by kernel_rfl)))
def F34_j4 (R : ER) (k1 : V3) (x1 x3 : Value) : WP :=
  F34_j5 R k1 x1 x3 (.bool false) (.int .i64 0)
theorem F34_j4_ok (R : ER) (k1 : V3) (e : Env) : den Pg R (cd Try.f34 [1,1,0,1,0,0,1]) e (setN (inB 0 (setN (kont Pg R Try.f34) (fun e => F34_j1 R (e 3)))) (fun e => k1 (e 1) (e 3) (e 4))) = (F34_j4 R k1 (e 1) (e 3)) := (den_block Pg R (cd Try.f34 [1,1,0,1,0,0,1]) 1 (cd Try.f34 [1,1,0,1,0,0,1,0]) e (setN (inB 0 (setN (kont Pg R Try.f34) (fun e => F34_j1 R (e 3)))) (fun e => k1 (e 1) (e 3) (e 4))) _ (by kernel_rfl) (den_join Pg R 1 (cd Try.f34 [1,1,0,1,0,0,1,0]) (cd Try.f34 [1,1,0,1,0,0,1,0,1,1]) e (inB 1 (setN (inB 0 (setN (kont Pg R Try.f34) (fun e => F34_j1 R (e 3)))) (fun e => k1 (e 1) (e 3) (e 4)))) (fun e => F34_j5 R k1 (e 1) (e 3) (e 4) (e 5)) _ (by kernel_rfl) (fun e => F34_j5_ok R k1 e) (by kernel_rfl)))
def F34_b1 (R : ER) (k1 : V3) (x1 x3 x4 : Value) : WP :=
  cnd x4 (
   F34_j4 R k1 x1 x3) (
   F34_j1 R x3)
theorem F34_b1_ok (R : ER) (k1 : V3) (e : Env) : den Pg R (cd Try.f34 [1,1,0,1,0,0]) e (setN (inB 0 (setN (kont Pg R Try.f34) (fun e => F34_j1 R (e 3)))) (fun e => k1 (e 1) (e 3) (e 4))) = (F34_b1 R k1 (e 1) (e 3) (e 4)) := (den_join Pg R 0 (cd Try.f34 [1,1,0,1,0,0]) (cd Try.f34 [1,1,0,1,0,0,1]) e (setN (inB 0 (setN (kont Pg R Try.f34) (fun e => F34_j1 R (e 3)))) (fun e => k1 (e 1) (e 3) (e 4))) (fun e => F34_j4 R k1 (e 1) (e 3)) _ (by kernel_rfl) (fun e => F34_j4_ok R k1 e) (by kernel_rfl))
noncomputable def F34_l2 (R : ER) (n : Nat) : V3 := Nat.rec (motive := fun _ => V3) (fun _ _ _ => fun _ => False) (fun _ ih => fun x1 x3 x4 => F34_b1 R ih x1 x3 x4) n
theorem F34_l2_succ (R : ER) (n : Nat) (x1 x3 x4 : Value) : F34_l2 R (n + 1) x1 x3 x4 = F34_b1 R (F34_l2 R n) x1 x3 x4 := rfl
theorem F34_l2_ok (R : ER) : ∀ (n : Nat) (e : Env), iterL (den Pg R (cd Try.f34 [1,1,0,1,0,0])) n e (inB 0 (setN (kont Pg R Try.f34) (fun e => F34_j1 R (e 3)))) = F34_l2 R n (e 1) (e 3) (e 4) :=
  iterL_join (den Pg R (cd Try.f34 [1,1,0,1,0,0])) (inB 0 (setN (kont Pg R Try.f34) (fun e => F34_j1 R (e 3)))) (fun n e => F34_l2 R n (e 1) (e 3) (e 4)) (fun _ => rfl) (fun n e => (F34_b1_ok R (F34_l2 R n) e).trans (F34_l2_succ R n (e 1) (e 3) (e 4)).symm)
def F34_j3 (R : ER) (x1 x3 x4 : Value) : WP :=
  exN fun n => F34_l2 R n x1 x3 x4
theorem F34_j3_ok (R : ER) (e : Env) : den Pg R (cd Try.f34 [1,1,0,1]) e (setN (kont Pg R Try.f34) (fun e => F34_j1 R (e 3))) = (F34_j3 R (e 1) (e 3) (e 4)) := (den_block Pg R (cd Try.f34 [1,1,0,1]) 0 (cd Try.f34 [1,1,0,1,0]) e (setN (kont Pg R Try.f34) (fun e => F34_j1 R (e 3))) _ (by kernel_rfl) (den_loop Pg R (cd Try.f34 [1,1,0,1,0]) (cd Try.f34 [1,1,0,1,0,0]) e (inB 0 (setN (kont Pg R Try.f34) (fun e => F34_j1 R (e 3)))) (fun n e => F34_l2 R n (e 1) (e 3) (e 4)) _ (by kernel_rfl) (F34_l2_ok R) (by kernel_rfl)))
def F34_j2 (R : ER) (x1 x3 : Value) : WP :=
  F34_j3 R x1 x3 (.bool true)
theorem F34_j2_ok (R : ER) (e : Env) : den Pg R (cd Try.f34 [1,1,0]) e (setN (kont Pg R Try.f34) (fun e => F34_j1 R (e 3))) = (F34_j2 R (e 1) (e 3)) := (den_join Pg R 0 (cd Try.f34 [1,1,0]) (cd Try.f34 [1,1,0,1]) e (setN (kont Pg R Try.f34) (fun e => F34_j1 R (e 3))) (fun e => F34_j3 R (e 1) (e 3) (e 4)) _ (by kernel_rfl) (fun e => F34_j3_ok R e) (by kernel_rfl))
def F34 (R : ER) (x0 : Value) : WP :=
  bx 32 x0 fun v29 =>
  valV Pg R (Instr.buildSlice 22 0 ⟨[]⟩) fun v30 =>
  pv (faO 0 v29) fun v31 =>
  ld1 v31 fun v32 =>
  blt Pg R .append ⟨[22,22]⟩ 22 ⟨[false, false]⟩ ⟨[v30, v32]⟩ fun v33 =>
  F34_j2 R v29 v33
theorem F34_den (R : ER) (x0 : Value) : den Pg R (cd Try.f34 []) (argsEnv [x0]) (kont Pg R Try.f34) = F34 R x0 :=
  have h : ∀ e, den Pg R (cd Try.f34 []) e (kont Pg R Try.f34) = F34 R (e 0) := fun e => (den_join Pg R 2 (cd Try.f34 []) (cd Try.f34 [1,1,1]) e (kont Pg R Try.f34) (fun e => F34_j1 R (e 3)) _ (by kernel_rfl) (fun e => F34_j1_ok R e) (den_join Pg R 1 (pre 2 (cd Try.f34 [])) (cd Try.f34 [1,1,0]) e (setN (kont Pg R Try.f34) (fun e => F34_j1 R (e 3))) (fun e => F34_j2 R (e 1) (e 3)) _ (by kernel_rfl) (fun e => F34_j2_ok R e) (by kernel_rfl)))
  h _
theorem F34_calls {R : ER} {x0 : Value} {w : World} (h : F34 R x0 w) : Calls Pg 34 ⟨[x0]⟩ w R :=
  calls_of_den Try.func34 (by kernel_rfl) (by kernel_rfl) (F34_den R x0) h
/-! ### 35: slices_ContainsFunc -/
def F35 (R : ER) (x0 x1 : Value) : WP :=
  cal Pg R 60 ⟨[x0, x1]⟩ fun v1 =>
  pv (bin .geq v1 (.int .i64 0)) fun v2 =>
  R (.returned v2)
theorem F35_den (R : ER) (x0 x1 : Value) : den Pg R (cd Try.f35 []) (argsEnv [x0, x1]) (kont Pg R Try.f35) = F35 R x0 x1 :=
  have h : ∀ e, den Pg R (cd Try.f35 []) e (kont Pg R Try.f35) = F35 R (e 0) (e 1) := fun e => by kernel_rfl
  h _
theorem F35_calls {R : ER} {x0 x1 : Value} {w : World} (h : F35 R x0 x1 w) : Calls Pg 35 ⟨[x0, x1]⟩ w R :=
  calls_of_den Try.func35 (by kernel_rfl) (by kernel_rfl) (F35_den R x0 x1) h
/-! ### 36: inherit_Check_1 -/
def F36 (R : ER) (x0 : Value) : WP :=
  cal Pg R 37 ⟨[x0]⟩ fun v1 =>
  pv (unO .not v1) fun v2 =>
  R (.returned v2)
theorem F36_den (R : ER) (x0 : Value) : den Pg R (cd Try.f36 []) (argsEnv [x0]) (kont Pg R Try.f36) = F36 R x0 :=
  have h : ∀ e, den Pg R (cd Try.f36 []) e (kont Pg R Try.f36) = F36 R (e 0) := fun e => by kernel_rfl
  h _
theorem F36_calls {R : ER} {x0 : Value} {w : World} (h : F36 R x0 w) : Calls Pg 36 ⟨[x0]⟩ w R :=
  calls_of_den Try.func36 (by kernel_rfl) (by kernel_rfl) (F36_den R x0) h
/-! ### 37: inherit_isPriority -/
def F37 (R : ER) (x0 : Value) : WP :=
  pv (bin .geq x0 (.int .i64 0)) fun v1 =>
  gd v1 true (pv (some x0)) fun v2 =>
  gd v1 true (pv (bin .leq v2 (.int .i64 255))) fun v3 =>
  pv (pickO v1 v3 (.bool false)) fun v4 =>
  R (.returned v4)
theorem F37_den (R : ER) (x0 : Value) : den Pg R (cd Try.f37 []) (argsEnv [x0]) (kont Pg R Try.f37) = F37 R x0 :=
  have h : ∀ e, den Pg R (cd Try.f37 []) e (kont Pg R Try.f37) = F37 R (e 0) := fun e => by kernel_rfl
  h _
theorem F37_calls {R : ER} {x0 : Value} {w : World} (h : F37 R x0 w) : Calls Pg 37 ⟨[x0]⟩ w R :=
  calls_of_den Try.func37 (by kernel_rfl) (by kernel_rfl) (F37_den R x0) h
/-! ### 38: inherit_Check_2 -/
def F38 (R : ER) (x0 x1 : Value) : WP :=
  pv (bin .lss x0 (.int .i64 0)) fun v1 =>
  gd v1 false (pv (some x0)) fun v2 =>
  gd v1 false (pv (faO 0 x1)) fun v3 =>
  gd v1 false (ld1 v3) fun v4 =>
  gd v1 false (pv (lenS v4)) fun v5 =>
  gd v1 false (pv (bin .geq v2 v5)) fun v6 =>
  pv (pickO v1 (.bool true) v6) fun v7 =>
  R (.returned v7)
theorem F38_den (R : ER) (x0 x1 : Value) : den Pg R (cd Try.f38 []) (argsEnv [x0, x1]) (kont Pg R Try.f38) = F38 R x0 x1 :=
  have h : ∀ e, den Pg R (cd Try.f38 []) e (kont Pg R Try.f38) = F38 R (e 0) (e 1) := fun e => by kernel_rfl
  h _
theorem F38_calls {R : ER} {x0 x1 : Value} {w : World} (h : F38 R x0 x1 w) : Calls Pg 38 ⟨[x0, x1]⟩ w R :=
  calls_of_den Try.func38 (by kernel_rfl) (by kernel_rfl) (F38_den R x0 x1) h
/-! ### 39: slices_ContainsFunc_39 -/
def F39 (R : ER) (x0 x1 : Value) : WP :=
  cal Pg R 61 ⟨[x0, x1]⟩ fun v1 =>
  pv (bin .geq v1 (.int .i64 0)) fun v2 =>
  R (.returned v2)
theorem F39_den (R : ER) (x0 x1 : Value) : den Pg R (cd Try.f39 []) (argsEnv [x0, x1]) (kont Pg R Try.f39) = F39 R x0 x1 :=
  have h : ∀ e, den Pg R (cd Try.f39 []) e (kont Pg R Try.f39) = F39 R (e 0) (e 1) := fun e => by kernel_rfl
  h _
theorem F39_calls {R : ER} {x0 x1 : Value} {w : World} (h : F39 R x0 x1 w) : Calls Pg 39 ⟨[x0, x1]⟩ w R :=
  calls_of_den Try.func39 (by kernel_rfl) (by kernel_rfl) (F39_den R x0 x1) h
/-! ### 40: inherit_Check_3 -/
def F40 (R : ER) (x0 x1 : Value) : WP :=
  bx 39 x0 fun v1 =>
  ld1 x1 fun v2 =>
  pv (faO 0 v1) fun v3 =>
  ld1 v3 fun v4 =>
  calD Pg R v2 ⟨[v4]⟩ fun v5 =>
  gd v5 false (ld1 x1) fun v6 =>
  gd v5 false (pv (faO 1 v1)) fun v7 =>
  gd v5 false (ld1 v7) fun v8 =>
  gd v5 false (calD Pg R v6 ⟨[v8]⟩) fun v9 =>
  pv (pickO v5 (.bool true) v9) fun v10 =>
  R (.returned v10)
theorem F40_den (R : ER) (x0 x1 : Value) : den Pg R (cd Try.f40 []) (argsEnv [x0, x1]) (kont Pg R Try.f40) = F40 R x0 x1 :=
  have h : ∀ e, den Pg R (cd Try.f40 []) e (kont Pg R Try.f40) = F40 R (e 0) (e 1) := fun e => by kernel_rfl
  h _
theorem F40_calls {R : ER} {x0 x1 : Value} {w : World} (h : F40 R x0 x1 w) : Calls Pg 40 ⟨[x0, x1]⟩ w R :=
  calls_of_den Try.func40 (by kernel_rfl) (by kernel_rfl) (F40_den R x0 x1) h
/-! ### 41: orpimentref05_Graph_thread -/
def F41 (R : ER) (x0 x1 : Value) : WP :=
  bx 32 x0 fun v1 =>
  pv (bin .geq x1 (.int .i64 0)) fun v2 =>
  gd v2 true (pv (some x1)) fun v3 =>
  gd v2 true (pv (faO 0 v1)) fun v4 =>
  gd v2 true (ld1 v4) fun v5 =>
  gd v2 true (pv (lenS v5)) fun v6 =>
  gd v2 true (pv (bin .lss v3 v6)) fun v7 =>
  pv (pickO v2 v7 (.bool false)) fun v8 =>
  R (.returned v8)
theorem F41_den (R : ER) (x0 x1 : Value) : den Pg R (cd Try.f41 []) (argsEnv [x0, x1]) (kont Pg R Try.f41) = F41 R x0 x1 :=
  have h : ∀ e, den Pg R (cd Try.f41 []) e (kont Pg R Try.f41) = F41 R (e 0) (e 1) := fun e => by kernel_rfl
  h _
theorem F41_calls {R : ER} {x0 x1 : Value} {w : World} (h : F41 R x0 x1 w) : Calls Pg 41 ⟨[x0, x1]⟩ w R :=
  calls_of_den Try.func41 (by kernel_rfl) (by kernel_rfl) (F41_den R x0 x1) h
/-! ### 42: orpimentref05_has -/
def F42_j1 (R : ER) : WP :=
  R (.returned (.bool false))
theorem F42_j1_ok (R : ER) (e : Env) : den Pg R (cd Try.f42 [1,1]) e (kont Pg R Try.f42) = (F42_j1 R) := by kernel_rfl
def F42_j4 (R : ER) (k1 : V3) (x0 x3 x5 : Value) : WP :=
  drewV (
  pv (ixS 2 x0 x5) fun v1 =>
  ldN 2 v1 fun v2 =>
  ldN 2 x3 fun v3 =>
  pv (eqAgg [0,0] v2 v3) fun v4 =>
  cnd v4 (
   R (.returned (.bool true))) (
   pv (bin .add x5 (.int .i64 1)) fun v5 =>
  k1 x0 x3 v5))
theorem F42_j4_ok (R : ER) (k1 : V3) (e : Env) : den Pg R (cd Try.f42 [1,0,1,0,0,1]) e (setN (inB 0 (setN (kont Pg R Try.f42) (fun e => F42_j1 R))) (fun e => k1 (e 0) (e 3) (e 5))) = (F42_j4 R k1 (e 0) (e 3) (e 5)) := by kernel_rfl
def F42_b1 (R : ER) (k1 : V3) (x0 x3 x5 : Value) : WP :=
  pv (lenS x0) fun v6 =>
  pv (bin .lss x5 v6) fun v7 =>
  cnd v7 (
   F42_j4 R k1 x0 x3 x5) (
   F42_j1 R)
theorem F42_b1_ok (R : ER) (k1 : V3) (e : Env) : den Pg R (cd Try.f42 [1,0,1,0,0]) e (setN (inB 0 (setN (kont Pg R Try.f42) (fun e => F42_j1 R))) (fun e => k1 (e 0) (e 3) (e 5))) = (F42_b1 R k1 (e 0) (e 3) (e 5)) := (den_join Pg R 0 (cd Try.f42 [1,0,1,0,0]) (cd Try.f42 [1,0,1,0,0,1]) e (setN (inB 0 (setN (kont Pg R Try.f42) (fun e => F42_j1 R))) (fun e => k1 (e 0) (e 3) (e 5))) (fun e => F42_j4 R k1 (e 0) (e 3) (e 5)) _ (by kernel_rfl) (fun e => F42_j4_ok R k1 e) (by kernel_rfl))
noncomputable def F42_l1 (R : ER) (n : Nat) : V3 := Nat.rec (motive := fun _ => V3) (fun _ _ _ => fun _ => False) (fun _ ih => fun x0 x3 x5 => F42_b1 R ih x0 x3 x5) n
theorem F42_l1_succ (R : ER) (n : Nat) (x0 x3 x5 : Value) : F42_l1 R (n + 1) x0 x3 x5 = F42_b1 R (F42_l1 R n) x0 x3 x5 := rfl
theorem F42_l1_ok (R : ER) : ∀ (n : Nat) (e : Env), iterL (den Pg R (cd Try.f42 [1,0,1,0,0])) n e (inB 0 (setN (kont Pg R Try.f42) (fun e => F42_j1 R))) = F42_l1 R n (e 0) (e 3) (e 5) :=
  iterL_join (den Pg R (cd Try.f42 [1,0,1,0,0])) (inB 0 (setN (kont Pg R Try.f42) (fun e => F42_j1 R))) (fun n e => F42_l1 R n (e 0) (e 3) (e 5)) (fun _ => rfl) (fun n e => (F42_b1_ok R (F42_l1 R n) e).trans (F42_l1_succ R n (e 0) (e 3) (e 5)).symm)
def F42_j3 (R : ER) (x0 x3 x5 : Value) : WP :=
  exN fun n => F42_l1 R n x0 x3 x5
theorem F42_j3_ok (R : ER) (e : Env) : den Pg R (cd Try.f42 [1,0,1]) e (setN (kont Pg R Try.f42) (fun e => F42_j1 R)) = (F42_j3 R (e 0) (e 3) (e 5)) := (den_block Pg R (cd Try.f42 [1,0,1]) 0 (cd Try.f42 [1,0,1,0]) e (setN (kont Pg R Try.f42) (fun e => F42_j1 R)) _ (by kernel_rfl) (den_loop Pg R (cd Try.f42 [1,0,1,0]) (cd Try.f42 [1,0,1,0,0]) e (inB 0 (setN (kont Pg R Try.f42) (fun e => F42_j1 R))) (fun n e => F42_l1 R n (e 0) (e 3) (e 5)) _ (by kernel_rfl) (F42_l1_ok R) (by kernel_rfl)))
def F42_j2 (R : ER) (x0 x3 : Value) : WP :=
  F42_j3 R x0 x3 (.int .i64 0)
theorem F42_j2_ok (R : ER) (e : Env) : den Pg R (cd Try.f42 [1,0]) e (setN (kont Pg R Try.f42) (fun e => F42_j1 R)) = (F42_j2 R (e 0) (e 3)) := (den_join Pg R 0 (cd Try.f42 [1,0]) (cd Try.f42 [1,0,1]) e (setN (kont Pg R Try.f42) (fun e => F42_j1 R)) (fun e => F42_j3 R (e 0) (e 3) (e 5)) _ (by kernel_rfl) (fun e => F42_j3_ok R e) (by kernel_rfl))
def F42 (R : ER) (x0 x1 : Value) : WP :=
  bx 39 x1 fun v8 =>
  F42_j2 R x0 v8
theorem F42_den (R : ER) (x0 x1 : Value) : den Pg R (cd Try.f42 []) (argsEnv [x0, x1]) (kont Pg R Try.f42) = F42 R x0 x1 :=
  have h : ∀ e, den Pg R (cd Try.f42 []) e (kont Pg R Try.f42) = F42 R (e 0) (e 1) := fun e => (den_join Pg R 1 (cd Try.f42 []) (cd Try.f42 [1,1]) e (kont Pg R Try.f42) (fun e => F42_j1 R) _ (by kernel_rfl) (fun e => F42_j1_ok R e) (den_join Pg R 0 (pre 1 (cd Try.f42 [])) (cd Try.f42 [1,0]) e (setN (kont Pg R Try.f42) (fun e => F42_j1 R)) (fun e => F42_j2 R (e 0) (e 3)) _ (by kernel_rfl) (fun e => F42_j2_ok R e) (by kernel_rfl)))
  h _
theorem F42_calls {R : ER} {x0 x1 : Value} {w : World} (h : F42 R x0 x1 w) : Calls Pg 42 ⟨[x0, x1]⟩ w R :=
  calls_of_den Try.func42 (by kernel_rfl) (by kernel_rfl) (F42_den R x0 x1) h
/-! ### 43: inherit_distances -/
def F43_j2 (R : ER) (x5 : Value) : WP :=
  R (.returned x5)
theorem F43_j2_ok (R : ER) (e : Env) : den Pg R (cd Try.f43 [1,1,1,1,1,1]) e (kont Pg R Try.f43) = (F43_j2 R (e 5)) := by kernel_rfl
def F43_j6 (R : ER) (k1 : V4) (x0 x5 x7 x8 : Value) : WP :=
  pv (bin .add x8 (.int .i64 1)) fun v1 =>
  k1 x0 x5 x7 v1
theorem F43_j6_ok (R : ER) (k1 : V4) (e : Env) : den Pg R (cd Try.f43 [1,1,1,1,1,0,1,0,0,1,1]) e (setN (inB 2 (setN (kont Pg R Try.f43) (fun e => F43_j2 R (e 5)))) (fun e => k1 (e 0) (e 5) (e 7) (e 8))) = (F43_j6 R k1 (e 0) (e 5) (e 7) (e 8)) := by kernel_rfl
def F43_j10 (R : ER) (k1 : V4) (k2 : V7) (x0 x5 x7 x8 x40 x41 x42 : Value) : WP :=
  pv (bin .add x42 (.int .i64 1)) fun v2 =>
  k2 x0 x5 x7 x8 x40 x41 v2
theorem F43_j10_ok (R : ER) (k1 : V4) (k2 : V7) (e : Env) : den Pg R (cd Try.f43 [1,1,1,1,1,0,1,0,0,1,0,0,1,0,0,1,1,1]) e (setN (inB 4 (inB 3 (setN (setN (inB 2 (setN (kont Pg R Try.f43) (fun e => F43_j2 R (e 5)))) (fun e => k1 (e 0) (e 5) (e 7) (e 8))) (fun e => F43_j6 R k1 (e 0) (e 5) (e 7) (e 8))))) (fun e => k2 (e 0) (e 5) (e 7) (e 8) (e 40) (e 41) (e 42))) = (F43_j10 R k1 k2 (e 0) (e 5) (e 7) (e 8) (e 40) (e 41) (e 42)) := by kernel_rfl
def F43_j13 (R : ER) (k1 : V4) (k2 : V7) (x0 x5 x7 x8 x10 x40 x41 x42 : Value) : WP :=
  pv (ixS 1 x7 x8) fun v3 =>
  ld1 v3 fun v4 =>
  pv (ixS 1 x5 v4) fun v5 =>
  ld1 v5 fun v6 =>
  pv (bin .add v6 (.int .i64 1)) fun v7 =>
  pv (ixS 1 x5 x10) fun v8 =>
  st1 v8 v7 fun _ =>
  valV Pg R (Instr.buildSlice 22 1 ⟨[(0, x10)]⟩) fun v9 =>
  blt Pg R .append ⟨[22,22]⟩ 22 ⟨[false, false]⟩ ⟨[x7, v9]⟩ fun v10 =>
  F43_j10 R k1 k2 x0 x5 v10 x8 x40 x41 x42
theorem F43_j13_ok (R : ER) (k1 : V4) (k2 : V7) (e : Env) : den Pg R (cd Try.f43 [1,1,1,1,1,0,1,0,0,1,0,0,1,0,0,1,1,0,0,1,1,0]) e (inB 5 (setN (setN (inB 4 (inB 3 (setN (setN (inB 2 (setN (kont Pg R Try.f43) (fun e => F43_j2 R (e 5)))) (fun e => k1 (e 0) (e 5) (e 7) (e 8))) (fun e => F43_j6 R k1 (e 0) (e 5) (e 7) (e 8))))) (fun e => k2 (e 0) (e 5) (e 7) (e 8) (e 40) (e 41) (e 42))) (fun e => F43_j10 R k1 k2 (e 0) (e 5) (e 7) (e 8) (e 40) (e 41) (e 42)))) = (F43_j13 R k1 k2 (e 0) (e 5) (e 7) (e 8) (e 10) (e 40) (e 41) (e 42)) := by kernel_rfl
def F43_j12 (R : ER) (k1 : V4) (k2 : V7) (x0 x5 x7 x8 x10 x40 x41 x42 x50 : Value) : WP :=
  cnd x50 (F43_j13 R k1 k2 x0 x5 x7 x8 x10 x40 x41 x42) (F43_j10 R k1 k2 x0 x5 x7 x8 x40 x41 x42)
theorem F43_j12_ok (R : ER) (k1 : V4) (k2 : V7) (e : Env) : den Pg R (cd Try.f43 [1,1,1,1,1,0,1,0,0,1,0,0,1,0,0,1,1,0,0,1,1]) e (inB 5 (setN (setN (inB 4 (inB 3 (setN (setN (inB 2 (setN (kont Pg R Try.f43) (fun e => F43_j2 R (e 5)))) (fun e => k1 (e 0) (e 5) (e 7) (e 8))) (fun e => F43_j6 R k1 (e 0) (e 5) (e 7) (e 8))))) (fun e => k2 (e 0) (e 5) (e 7) (e 8) (e 40) (e 41) (e 42))) (fun e => F43_j10 R k1 k2 (e 0) (e 5) (e 7) (e 8) (e 40) (e 41) (e 42)))) = (F43_j12 R k1 k2 (e 0) (e 5) (e 7) (e 8) (e 10) (e 40) (e 41) (e 42) (e 50)) := (den_if Pg R (cd Try.f43 [1,1,1,1,1,0,1,0,0,1,0,0,1,0,0,1,1,0,0,1,1]) (cd Try.f43 [1,1,1,1,1,0,1,0,0,1,0,0,1,0,0,1,1,0,0,1,1,0]) (cd Try.f43 [1,1,1,1,1,0,1,0,0,1,0,0,1,0,0,1,1,0,0,1,1,1]) e (inB 5 (setN (setN (inB 4 (inB 3 (setN (setN (inB 2 (setN (kont Pg R Try.f43) (fun e => F43_j2 R (e 5)))) (fun e => k1 (e 0) (e 5) (e 7) (e 8))) (fun e => F43_j6 R k1 (e 0) (e 5) (e 7) (e 8))))) (fun e => k2 (e 0) (e 5) (e 7) (e 8) (e 40) (e 41) (e 42))) (fun e => F43_j10 R k1 k2 (e 0) (e 5) (e 7) (e 8) (e 40) (e 41) (e 42)))) (F43_j13 R k1 k2 (e 0) (e 5) (e 7) (e 8) (e 10) (e 40) (e 41) (e 42)) _ _ (by kernel_rfl) (F43_j13_ok R k1 k2 e) rfl (by kernel_rfl))
def F43_j11 (R : ER) (k1 : V4) (k2 : V7) (x0 x5 x7 x8 x40 x41 x42 : Value) : WP :=
  pv (ixS 1 x40 x42) fun v11 =>
  ld1 v11 fun v12 =>
  pv (ixS 1 x5 v12) fun v13 =>
  ld1 v13 fun v14 =>
  pv (bin .lss v14 (.int .i64 0)) fun v15 =>
  F43_j12 R k1 k2 x0 x5 x7 x8 v12 x40 x41 x42 v15
theorem F43_j11_ok (R : ER) (k1 : V4) (k2 : V7) (e : Env) : den Pg R (cd Try.f43 [1,1,1,1,1,0,1,0,0,1,0,0,1,0,0,1,1,0]) e (setN (setN (inB 4 (inB 3 (setN (setN (inB 2 (setN (kont Pg R Try.f43) (fun e => F43_j2 R (e 5)))) (fun e => k1 (e 0) (e 5) (e 7) (e 8))) (fun e => F43_j6 R k1 (e 0) (e 5) (e 7) (e 8))))) (fun e => k2 (e 0) (e 5) (e 7) (e 8) (e 40) (e 41) (e 42))) (fun e => F43_j10 R k1 k2 (e 0) (e 5) (e 7) (e 8) (e 40) (e 41) (e 42))) = (F43_j11 R k1 k2 (e 0) (e 5) (e 7) (e 8) (e 40) (e 41) (e 42)) := (den_block Pg R (cd Try.f43 [1,1,1,1,1,0,1,0,0,1,0,0,1,0,0,1,1,0]) 5 (cd Try.f43 [1,1,1,1,1,0,1,0,0,1,0,0,1,0,0,1,1,0,0]) e (setN (setN (inB 4 (inB 3 (setN (setN (inB 2 (setN (kont Pg R Try.f43) (fun e => F43_j2 R (e 5)))) (fun e => k1 (e 0) (e 5) (e 7) (e 8))) (fun e => F43_j6 R k1 (e 0) (e 5) (e 7) (e 8))))) (fun e => k2 (e 0) (e 5) (e 7) (e 8) (e 40) (e 41) (e 42))) (fun e => F43_j10 R k1 k2 (e 0) (e 5) (e 7) (e 8) (e 40) (e 41) (e 42))) _ (by kernel_rfl) (den_join Pg R 1 (cd Try.f43 [1,1,1,1,1,0,1,0,0,1,0,0,1,0,0,1,1,0,0]) (cd Try.f43 [1,1,1,1,1,0,1,0,0,1,0,0,1,0,0,1,1,0,0,1,1]) e (inB 5 (setN (setN (inB 4 (inB 3 (setN (setN (inB 2 (setN (kont Pg R Try.f43) (fun e => F43_j2 R (e 5)))) (fun e => k1 (e 0) (e 5) (e 7) (e 8))) (fun e => F43_j6 R k1 (e 0) (e 5) (e 7) (e 8))))) (fun e => k2 (e 0) (e 5) (e 7) (e 8) (e 40) (e 41) (e 42))) (fun e => F43_j10 R k1 k2 (e 0) (e 5) (e 7) (e 8) (e 40) (e 41) (e 42)))) (fun e => F43_j12 R k1 k2 (e 0) (e 5) (e 7) (e 8) (e 10) (e 40) (e 41) (e 42) (e 50)) _ (by kernel_rfl) (fun e => F43_j12_ok R k1 k2 e) (by kernel_rfl)))
def F43_j9 (R : ER) (k1 : V4) (k2 : V7) (x0 x5 x7 x8 x40 x41 x42 : Value) : WP :=
  F43_j11 R k1 k2 x0 x5 x7 x8 x40 x41 x42
theorem F43_j9_ok (R : ER) (k1 : V4) (k2 : V7) (e : Env) : den Pg R (cd Try.f43 [1,1,1,1,1,0,1,0,0,1,0,0,1,0,0,1,1]) e (setN (inB 4 (inB 3 (setN (setN (inB 2 (setN (kont Pg R Try.f43) (fun e => F43_j2 R (e 5)))) (fun e => k1 (e 0) (e 5) (e 7) (e 8))) (fun e => F43_j6 R k1 (e 0) (e 5) (e 7) (e 8))))) (fun e => k2 (e 0) (e 5) (e 7) (e 8) (e 40) (e 41) (e 42))) = (F43_j9 R k1 k2 (e 0) (e 5) (e 7) (e 8) (e 40) (e 41) (e 42)) := (den_join Pg R 0 (cd Try.f43 [1,1,1,1,1,0,1,0,0,1,0,0,1,0,0,1,1]) (cd Try.f43 [1,1,1,1,1,0,1,0,0,1,0,0,1,0,0,1,1,1]) e (setN (inB 4 (inB 3 (setN (setN (inB 2 (setN (kont Pg R Try.f43) (fun e => F43_j2 R (e 5)))) (fun e => k1 (e 0) (e 5) (e 7) (e 8))) (fun e => F43_j6 R k1 (e 0) (e 5) (e 7) (e 8))))) (fun e => k2 (e 0) (e 5) (e 7) (e 8) (e 40) (e 41) (e 42))) (fun e => F43_j10 R k1 k2 (e 0) (e 5) (e 7) (e 8) (e 40) (e 41) (e 42)) _ (by kernel_rfl) (fun e => F43_j10_ok R k1 k2 e) (den_conv Pg R (pre 0 (cd Try.f43 [1,1,1,1,1,0,1,0,0,1,0,0,1,0,0,1,1])) (cd Try.f43 [1,1,1,1,1,0,1,0,0,1,0,0,1,0,0,1,1,0]) e (setN (setN (inB 4 (inB 3 (setN (setN (inB 2 (setN (kont Pg R Try.f43) (fun e => F43_j2 R (e 5)))) (fun e => k1 (e 0) (e 5) (e 7) (e 8))) (fun e => F43_j6 R k1 (e 0) (e 5) (e 7) (e 8))))) (fun e => k2 (e 0) (e 5) (e 7) (e 8) (e 40) (e 41) (e 42))) (fun e => F43_j10 R k1 k2 (e 0) (e 5) (e 7) (e 8) (e 40) (e 41) (e 42))) _ (by kernel_rfl) (F43_j11_ok R k1 k2 e)))
def F43_b2 (R : ER) (k1 : V4) (k2 : V7) (x0 x5 x7 x8 x40 x41 x42 : Value) : WP :=
  pv (bin .lss x42 x41) fun v16 =>
  cnd v16 (
   F43_j9 R k1 k2 x0 x5 x7 x8 x40 x41 x42) (
   F43_j6 R k1 x0 x5 x7 x8)
theorem F43_b2_ok (R : ER) (k1 : V4) (k2 : V7) (e : Env) : den Pg R (cd Try.f43 [1,1,1,1,1,0,1,0,0,1,0,0,1,0,0]) e (setN (inB 4 (inB 3 (setN (setN (inB 2 (setN (kont Pg R Try.f43) (fun e => F43_j2 R (e 5)))) (fun e => k1 (e 0) (e 5) (e 7) (e 8))) (fun e => F43_j6 R k1 (e 0) (e 5) (e 7) (e 8))))) (fun e => k2 (e 0) (e 5) (e 7) (e 8) (e 40) (e 41) (e 42))) = (F43_b2 R k1 k2 (e 0) (e 5) (e 7) (e 8) (e 40) (e 41) (e 42)) := (den_join Pg R 1 (cd Try.f43 [1,1,1,1,1,0,1,0,0,1,0,0,1,0,0]) (cd Try.f43 [1,1,1,1,1,0,1,0,0,1,0,0,1,0,0,1,1]) e (setN (inB 4 (inB 3 (setN (setN (inB 2 (setN (kont Pg R Try.f43) (fun e => F43_j2 R (e 5)))) (fun e => k1 (e 0) (e 5) (e 7) (e 8))) (fun e => F43_j6 R k1 (e 0) (e 5) (e 7) (e 8))))) (fun e => k2 (e 0) (e 5) (e 7) (e 8) (e 40) (e 41) (e 42))) (fun e => F43_j9 R k1 k2 (e 0) (e 5) (e 7) (e 8) (e 40) (e 41) (e 42)) _ (by kernel_rfl) (fun e => F43_j9_ok R k1 k2 e) (by kernel_rfl))
noncomputable def F43_l1 (R : ER) (k1 : V4) (n : Nat) : V7 := Nat.rec (motive := fun _ => V7) (fun _ _ _ _ _ _ _ => fun _ => False) (fun _ ih => fun x0 x5 x7 x8 x40 x41 x42 => F43_b2 R k1 ih x0 x5 x7 x8 x40 x41 x42) n
theorem F43_l1_succ (R : ER) (k1 : V4) (n : Nat) (x0 x5 x7 x8 x40 x41 x42 : Value) : F43_l1 R k1 (n + 1) x0 x5 x7 x8 x40 x41 x42 = F43_b2 R k1 (F43_l1 R k1 n) x0 x5 x7 x8 x40 x41 x42 := rfl
theorem F43_l1_ok (R : ER) (k1 : V4) : ∀ (n : Nat) (e : Env), iterL (den Pg R (cd Try.f43 [1,1,1,1,1,0,1,0,0,1,0,0,1,0,0])) n e (inB 4 (inB 3 (setN (setN (inB 2 (setN (kont Pg R Try.f43) (fun e => F43_j2 R (e 5)))) (fun e => k1 (e 0) (e 5) (e 7) (e 8))) (fun e => F43_j6 R k1 (e 0) (e 5) (e 7) (e 8))))) = F43_l1 R k1 n (e 0) (e 5) (e 7) (e 8) (e 40) (e 41) (e 42) :=
  iterL_join (den Pg R (cd Try.f43 [1,1,1,1,1,0,1,0,0,1,0,0,1,0,0])) (inB 4 (inB 3 (setN (setN (inB 2 (setN (kont Pg R Try.f43) (fun e => F43_j2 R (e 5)))) (fun e => k1 (e 0) (e 5) (e 7) (e 8))) (fun e => F43_j6 R k1 (e 0) (e 5) (e 7) (e 8))))) (fun n e => F43_l1 R k1 n (e 0) (e 5) (e 7) (e 8) (e 40) (e 41) (e 42)) (fun _ => rfl) (fun n e => (F43_b2_ok R k1 (F43_l1 R k1 n) e).trans (F43_l1_succ R k1 n (e 0) (e 5) (e 7) (e 8) (e 40) (e 41) (e 42)).symm)
def F43_j8 (R : ER) (k1 : V4) (x0 x5 x7 x8 x40 x41 x42 : Value) : WP :=
  exN fun n => F43_l1 R k1 n x0 x5 x7 x8 x40 x41 x42
theorem F43_j8_ok (R : ER) (k1 : V4) (e : Env) : den Pg R (cd Try.f43 [1,1,1,1,1,0,1,0,0,1,0,0,1]) e (inB 3 (setN (setN (inB 2 (setN (kont Pg R Try.f43) (fun e => F43_j2 R (e 5)))) (fun e => k1 (e 0) (e 5) (e 7) (e 8))) (fun e => F43_j6 R k1 (e 0) (e 5) (e 7) (e 8)))) = (F43_j8 R k1 (e 0) (e 5) (e 7) (e 8) (e 40) (e 41) (e 42)) := (den_block Pg R (cd Try.f43 [1,1,1,1,1,0,1,0,0,1,0,0,1]) 4 (cd Try.f43 [1,1,1,1,1,0,1,0,0,1,0,0,1,0]) e (inB 3 (setN (setN (inB 2 (setN (kont Pg R Try.f43) (fun e => F43_j2 R (e 5)))) (fun e => k1 (e 0) (e 5) (e 7) (e 8))) (fun e => F43_j6 R k1 (e 0) (e 5) (e 7) (e 8)))) _ (by kernel_rfl) (den_loop Pg R (cd Try.f43 [1,1,1,1,1,0,1,0,0,1,0,0,1,0]) (cd Try.f43 [1,1,1,1,1,0,1,0,0,1,0,0,1,0,0]) e (inB 4 (inB 3 (setN (setN (inB 2 (setN (kont Pg R Try.f43) (fun e => F43_j2 R (e 5)))) (fun e => k1 (e 0) (e 5) (e 7) (e 8))) (fun e => F43_j6 R k1 (e 0) (e 5) (e 7) (e 8))))) (fun n e => F43_l1 R k1 n (e 0) (e 5) (e 7) (e 8) (e 40) (e 41) (e 42)) _ (by kernel_rfl) (F43_l1_ok R k1) (by kernel_rfl)))
def F43_j7 (R : ER) (k1 : V4) (x0 x5 x7 x8 : Value) : WP :=
  pv (ixS 1 x7 x8) fun v17 =>
  ld1 v17 fun v18 =>
  pv (ixS 1 x0 v18) fun v19 =>
  ld1 v19 fun v20 =>
  pv (lenS v20) fun v21 =>
  F43_j8 R k1 x0 x5 x7 x8 v20 v21 (.int .i64 0)
theorem F43_j7_ok (R : ER) (k1 : V4) (e : Env) : den Pg R (cd Try.f43 [1,1,1,1,1,0,1,0,0,1,0]) e (setN (setN (inB 2 (setN (kont Pg R Try.f43) (fun e => F43_j2 R (e 5)))) (fun e => k1 (e 0) (e 5) (e 7) (e 8))) (fun e => F43_j6 R k1 (e 0) (e 5) (e 7) (e 8))) = (F43_j7 R k1 (e 0) (e 5) (e 7) (e 8)) := (den_block Pg R (cd Try.f43 [1,1,1,1,1,0,1,0,0,1,0]) 3 (cd Try.f43 [1,1,1,1,1,0,1,0,0,1,0,0]) e (setN (setN (inB 2 (setN (kont Pg R Try.f43) (fun e => F43_j2 R (e 5)))) (fun e => k1 (e 0) (e 5) (e 7) (e 8))) (fun e => F43_j6 R k1 (e 0) (e 5) (e 7) (e 8))) _ (by kernel_rfl) (den_join Pg R 0 (cd Try.f43 [1,1,1,1,1,0,1,0,0,1,0,0]) (cd Try.f43 [1,1,1,1,1,0,1,0,0,1,0,0,1]) e (inB 3 (setN (setN (inB 2 (setN (kont Pg R Try.f43) (fun e => F43_j2 R (e 5)))) (fun e => k1 (e 0) (e 5) (e 7) (e 8))) (fun e => F43_j6 R k1 (e 0) (e 5) (e 7) (e 8)))) (fun e => F43_j8 R k1 (e 0) (e 5) (e 7) (e 8) (e 40) (e 41) (e 42)) _ (by kernel_rfl) (fun e => F43_j8_ok R k1 e) (by kernel_rfl)))
def F43_j5 (R : ER) (k1 : V4) (x0 x5 x7 x8 : Value) : WP :=
  F43_j7 R k1 x0 x5 x7 x8
theorem F43_j5_ok (R : ER) (k1 : V4) (e : Env) : den Pg R (cd Try.f43 [1,1,1,1,1,0,1,0,0,1]) e (setN (inB 2 (setN (kont Pg R Try.f43) (fun e => F43_j2 R (e 5)))) (fun e => k1 (e 0) (e 5) (e 7) (e 8))) = (F43_j5 R k1 (e 0) (e 5) (e 7) (e 8)) := (den_join Pg R 0 (cd Try.f43 [1,1,1,1,1,0,1,0,0,1]) (cd Try.f43 [1,1,1,1,1,0,1,0,0,1,1]) e (setN (inB 2 (setN (kont Pg R Try.f43) (fun e => F43_j2 R (e 5)))) (fun e => k1 (e 0) (e 5) (e 7) (e 8))) (fun e => F43_j6 R k1 (e 0) (e 5) (e 7) (e 8)) _ (by kernel_rfl) (fun e => F43_j6_ok R k1 e) (den_conv Pg R (pre 0 (cd Try.f43 [1,1,1,1,1,0,1,0,0,1])) (cd Try.f43 [1,1,1,1,1,0,1,0,0,1,0]) e (setN (setN (inB 2 (setN (kont Pg R Try.f43) (fun e => F43_j2 R (e 5)))) (fun e => k1 (e 0) (e 5) (e 7) (e 8))) (fun e => F43_j6 R k1 (e 0) (e 5) (e 7) (e 8))) _ (by kernel_rfl) (F43_j7_ok R k1 e)))
def F43_b1 (R : ER) (k1 : V4) (x0 x5 x7 x8 : Value) : WP :=
  pv (lenS x7) fun v22 =>
  pv (bin .lss x8 v22) fun v23 =>
  cnd v23 (
   F43_j5 R k1 x0 x5 x7 x8) (
   F43_j2 R x5)
theorem F43_b1_ok (R : ER) (k1 : V4) (e : Env) : den Pg R (cd Try.f43 [1,1,1,1,1,0,1,0,0]) e (setN (inB 2 (setN (kont Pg R Try.f43) (fun e => F43_j2 R (e 5)))) (fun e => k1 (e 0) (e 5) (e 7) (e 8))) = (F43_b1 R k1 (e 0) (e 5) (e 7) (e 8)) := (den_join Pg R 0 (cd Try.f43 [1,1,1,1,1,0,1,0,0]) (cd Try.f43 [1,1,1,1,1,0,1,0,0,1]) e (setN (inB 2 (setN (kont Pg R Try.f43) (fun e => F43_j2 R (e 5)))) (fun e => k1 (e 0) (e 5) (e 7) (e 8))) (fun e => F43_j5 R k1 (e 0) (e 5) (e 7) (e 8)) _ (by kernel_rfl) (fun e => F43_j5_ok R k1 e) (by kernel_rfl))
noncomputable def F43_l2 (R : ER) (n : Nat) : V4 := Nat.rec (motive := fun _ => V4) (fun _ _ _ _ => fun _ => False) (fun _ ih => fun x0 x5 x7 x8 => F43_b1 R ih x0 x5 x7 x8) n
theorem F43_l2_succ (R : ER) (n : Nat) (x0 x5 x7 x8 : Value) : F43_l2 R (n + 1) x0 x5 x7 x8 = F43_b1 R (F43_l2 R n) x0 x5 x7 x8 := rfl
theorem F43_l2_ok (R : ER) : ∀ (n : Nat) (e : Env), iterL (den Pg R (cd Try.f43 [1,1,1,1,1,0,1,0,0])) n e (inB 2 (setN (kont Pg R Try.f43) (fun e => F43_j2 R (e 5)))) = F43_l2 R n (e 0) (e 5) (e 7) (e 8) :=
  iterL_join (den Pg R (cd Try.f43 [1,1,1,1,1,0,1,0,0])) (inB 2 (setN (kont Pg R Try.f43) (fun e => F43_j2 R (e 5)))) (fun n e => F43_l2 R n (e 0) (e 5) (e 7) (e 8)) (fun _ => rfl) (fun n e => (F43_b1_ok R (F43_l2 R n) e).trans (F43_l2_succ R n (e 0) (e 5) (e 7) (e 8)).symm)
def F43_j4 (R : ER) (x0 x5 x7 x8 : Value) : WP :=
  exN fun n => F43_l2 R n x0 x5 x7 x8
theorem F43_j4_ok (R : ER) (e : Env) : den Pg R (cd Try.f43 [1,1,1,1,1,0,1]) e (setN (kont Pg R Try.f43) (fun e => F43_j2 R (e 5))) = (F43_j4 R (e 0) (e 5) (e 7) (e 8)) := (den_block Pg R (cd Try.f43 [1,1,1,1,1,0,1]) 2 (cd Try.f43 [1,1,1,1,1,0,1,0]) e (setN (kont Pg R Try.f43) (fun e => F43_j2 R (e 5))) _ (by kernel_rfl) (den_loop Pg R (cd Try.f43 [1,1,1,1,1,0,1,0]) (cd Try.f43 [1,1,1,1,1,0,1,0,0]) e (inB 2 (setN (kont Pg R Try.f43) (fun e => F43_j2 R (e 5)))) (fun n e => F43_l2 R n (e 0) (e 5) (e 7) (e 8)) _ (by kernel_rfl) (F43_l2_ok R) (by kernel_rfl)))
def F43_j3 (R : ER) (x0 x5 x7 : Value) : WP :=
  F43_j4 R x0 x5 x7 (.int .i64 0)
theorem F43_j3_ok (R : ER) (e : Env) : den Pg R (cd Try.f43 [1,1,1,1,1,0]) e (setN (kont Pg R Try.f43) (fun e => F43_j2 R (e 5))) = (F43_j3 R (e 0) (e 5) (e 7)) := (den_join Pg R 0 (cd Try.f43 [1,1,1,1,1,0]) (cd Try.f43 [1,1,1,1,1,0,1]) e (setN (kont Pg R Try.f43) (fun e => F43_j2 R (e 5))) (fun e => F43_j4 R (e 0) (e 5) (e 7) (e 8)) _ (by kernel_rfl) (fun e => F43_j4_ok R e) (by kernel_rfl))
def F43_j1 (R : ER) (x0 x1 x5 : Value) : WP :=
  pv (ixS 1 x5 x1) fun v24 =>
  st1 v24 (.int .i64 0) fun _ =>
  valV Pg R (Instr.buildSlice 22 1 ⟨[(0, x1)]⟩) fun v25 =>
  F43_j3 R x0 x5 v25
theorem F43_j1_ok (R : ER) (e : Env) : den Pg R (cd Try.f43 [1,1,1]) e (kont Pg R Try.f43) = (F43_j1 R (e 0) (e 1) (e 5)) := (den_join Pg R 2 (cd Try.f43 [1,1,1]) (cd Try.f43 [1,1,1,1,1,1]) e (kont Pg R Try.f43) (fun e => F43_j2 R (e 5)) _ (by kernel_rfl) (fun e => F43_j2_ok R e) (den_join Pg R 1 (pre 2 (cd Try.f43 [1,1,1])) (cd Try.f43 [1,1,1,1,1,0]) e (setN (kont Pg R Try.f43) (fun e => F43_j2 R (e 5))) (fun e => F43_j3 R (e 0) (e 5) (e 7)) _ (by kernel_rfl) (fun e => F43_j3_ok R e) (by kernel_rfl)))
def F43_b3 (R : ER) (k1 : V5) (x0 x1 x5 x15 x16 : Value) : WP :=
  pv (bin .lss x16 x15) fun v26 =>
  cnd v26 (
   pv (ixS 1 x5 x16) fun v27 =>
  st1 v27 (.int .i64 (-1)) fun _ =>
  pv (bin .add x16 (.int .i64 1)) fun v28 =>
  k1 x0 x1 x5 x15 v28) (
   F43_j1 R x0 x1 x5)
theorem F43_b3_ok (R : ER) (k1 : V5) (e : Env) : den Pg R (cd Try.f43 [1,1,0,1,0,0]) e (setN (inB 0 (setN (kont Pg R Try.f43) (fun e => F43_j1 R (e 0) (e 1) (e 5)))) (fun e => k1 (e 0) (e 1) (e 5) (e 15) (e 16))) = (F43_b3 R k1 (e 0) (e 1) (e 5) (e 15) (e 16)) := by kernel_rfl
noncomputable def F43_l3 (R : ER) (n : Nat) : V5 := Nat.rec (motive := fun _ => V5) (fun _ _ _ _ _ => fun _ => False) (fun _ ih => fun x0 x1 x5 x15 x16 => F43_b3 R ih x0 x1 x5 x15 x16) n
theorem F43_l3_succ (R : ER) (n : Nat) (x0 x1 x5 x15 x16 : Value) : F43_l3 R (n + 1) x0 x1 x5 x15 x16 = F43_b3 R (F43_l3 R n) x0 x1 x5 x15 x16 := rfl
theorem F43_l3_ok (R : ER) : ∀ (n : Nat) (e : Env), iterL (den Pg R (cd Try.f43 [1,1,0,1,0,0])) n e (inB 0 (setN (kont Pg R Try.f43) (fun e => F43_j1 R (e 0) (e 1) (e 5)))) = F43_l3 R n (e 0) (e 1) (e 5) (e 15) (e 16) :=
  iterL_join (den Pg R (cd Try.f43 [1,1,0,1,0,0])) (inB 0 (setN (kont Pg R Try.f43) (fun e => F43_j1 R (e 0) (e 1) (e 5)))) (fun n e => F43_l3 R n (e 0) (e 1) (e 5) (e 15) (e 16)) (fun _ => rfl) (fun n e => (F43_b3_ok R (F43_l3 R n) e).trans (F43_l3_succ R n (e 0) (e 1) (e 5) (e 15) (e 16)).symm)
def F43_j15 (R : ER) (x0 x1 x5 x15 x16 : Value) : WP :=
  exN fun n => F43_l3 R n x0 x1 x5 x15 x16
theorem F43_j15_ok (R : ER) (e : Env) : den Pg R (cd Try.f43 [1,1,0,1]) e (setN (kont Pg R Try.f43) (fun e => F43_j1 R (e 0) (e 1) (e 5))) = (F43_j15 R (e 0) (e 1) (e 5) (e 15) (e 16)) := (den_block Pg R (cd Try.f43 [1,1,0,1]) 0 (cd Try.f43 [1,1,0,1,0]) e (setN (kont Pg R Try.f43) (fun e => F43_j1 R (e 0) (e 1) (e 5))) _ (by kernel_rfl) (den_loop Pg R (cd Try.f43 [1,1,0,1,0]) (cd Try.f43 [1,1,0,1,0,0]) e (inB 0 (setN (kont Pg R Try.f43) (fun e => F43_j1 R (e 0) (e 1) (e 5)))) (fun n e => F43_l3 R n (e 0) (e 1) (e 5) (e 15) (e 16)) _ (by kernel_rfl) (F43_l3_ok R) (by kernel_rfl)))
def F43_j14 (R : ER) (x0 x1 x5 : Value) : WP :=
  pv (lenS x5) fun v29 =>
  F43_j15 R x0 x1 x5 v29 (.int .i64 0)
theorem F43_j14_ok (R : ER) (e : Env) : den Pg R (cd Try.f43 [1,1,0]) e (setN (kont Pg R Try.f43) (fun e => F43_j1 R (e 0) (e 1) (e 5))) = (F43_j14 R (e 0) (e 1) (e 5)) := (den_join Pg R 0 (cd Try.f43 [1,1,0]) (cd Try.f43 [1,1,0,1]) e (setN (kont Pg R Try.f43) (fun e => F43_j1 R (e 0) (e 1) (e 5))) (fun e => F43_j15 R (e 0) (e 1) (e 5) (e 15) (e 16)) _ (by kernel_rfl) (fun e => F43_j15_ok R e) (by kernel_rfl))
def F43 (R : ER) (x0 x1 : Value) : WP :=
  pv (lenS x0) fun v30 =>
  valV Pg R (Instr.makeSlice 22 v30 v30) fun v31 =>
  F43_j14 R x0 x1 v31
theorem F43_den (R : ER) (x0 x1 : Value) : den Pg R (cd Try.f43 []) (argsEnv [x0, x1]) (kont Pg R Try.f43) = F43 R x0 x1 :=
  have h : ∀ e, den Pg R (cd Try.f43 []) e (kont Pg R Try.f43) = F43 R (e 0) (e 1) := fun e => (den_join Pg R 2 (cd Try.f43 []) (cd Try.f43 [1,1,1]) e (kont Pg R Try.f43) (fun e => F43_j1 R (e 0) (e 1) (e 5)) _ (by kernel_rfl) (fun e => F43_j1_ok R e) (den_join Pg R 1 (pre 2 (cd Try.f43 [])) (cd Try.f43 [1,1,0]) e (setN (kont Pg R Try.f43) (fun e => F43_j1 R (e 0) (e 1) (e 5))) (fun e => F43_j14 R (e 0) (e 1) (e 5)) _ (by kernel_rfl) (fun e => F43_j14_ok R e) (by kernel_rfl)))
  h _
theorem F43_calls {R : ER} {x0 x1 : Value} {w : World} (h : F43 R x0 x1 w) : Calls Pg 43 ⟨[x0, x1]⟩ w R :=
  calls_of_den Try.func43 (by kernel_rfl) (by kernel_rfl) (F43_den R x0 x1) h
/-! ### 44: inherit_Graph_waiters -/
def F44_j1 (R : ER) (x3 : Value) : WP :=
  R (.returned x3)
theorem F44_j1_ok (R : ER) (e : Env) : den Pg R (cd Try.f44 [1,1,1]) e (kont Pg R Try.f44) = (F44_j1 R (e 3)) := by kernel_rfl
def F44_j4 (R : ER) (k1 : V4) (x3 x11 x12 x13 : Value) : WP :=
  pv (ixS 2 x11 x13) fun v1 =>
  ldN 2 v1 fun v2 =>
  al Pg 39 fun v3 =>
  stN 2 v3 v2 fun _ =>
  drewV (
  pv (faO 1 v3) fun v4 =>
  ld1 v4 fun v5 =>
  pv (faO 1 v3) fun v6 =>
  ld1 v6 fun v7 =>
  pv (ixS 1 x3 v7) fun v8 =>
  ld1 v8 fun v9 =>
  pv (faO 0 v3) fun v10 =>
  ld1 v10 fun v11 =>
  mem fun w13 => valV Pg noR (Instr.buildSlice 22 1 ⟨[(0, v11)]⟩) fun v12 =>
  rd1 v8 v9 <|
  rd1 v6 v7 <|
  rd1 v4 v5 <|
  mem fun w15 => blt Pg noR .append ⟨[22,22]⟩ 22 ⟨[false, false]⟩ ⟨[v9, v12]⟩ fun v14 =>
  rd1 v4 v5 <|
  pv (ixS 1 x3 v5) fun v16 =>
  mem fun w18 => st1 v16 v14 fun v17 =>
  pv (bin .add x13 (.int .i64 1)) fun v19 =>
  k1 x3 x11 x12 v19)
theorem F44_j4_ok (R : ER) (k1 : V4) (e : Env) : den Pg R (cd Try.f44 [1,1,0,1,0,0,1,1]) e (setN (inB 0 (setN (kont Pg R Try.f44) (fun e => F44_j1 R (e 3)))) (fun e => k1 (e 3) (e 11) (e 12) (e 13))) = (F44_j4 R k1 (e 3) (e 11) (e 12) (e 13)) := by kernel_rfl
def F44_b1 (R : ER) (k1 : V4) (x3 x11 x12 x13 : Value) : WP :=
  pv (bin .lss x13 x12) fun v20 =>
  cnd v20 (
   F44_j4 R k1 x3 x11 x12 x13) (
   F44_j1 R x3)
theorem F44_b1_ok (R : ER) (k1 : V4) (e : Env) : den Pg R (cd Try.f44 [1,1,0,1,0,0]) e (setN (inB 0 (setN (kont Pg R Try.f44) (fun e => F44_j1 R (e 3)))) (fun e => k1 (e 3) (e 11) (e 12) (e 13))) = (F44_b1 R k1 (e 3) (e 11) (e 12) (e 13)) := (den_join Pg R 1 (cd Try.f44 [1,1,0,1,0,0]) (cd Try.f44 [1,1,0,1,0,0,1,1]) e (setN (inB 0 (setN (kont Pg R Try.f44) (fun e => F44_j1 R (e 3)))) (fun e => k1 (e 3) (e 11) (e 12) (e 13))) (fun e => F44_j4 R k1 (e 3) (e 11) (e 12) (e 13)) _ (by kernel_rfl) (fun e => F44_j4_ok R k1 e) (by kernel_rfl))
noncomputable def F44_l1 (R : ER) (n : Nat) : V4 := Nat.rec (motive := fun _ => V4) (fun _ _ _ _ => fun _ => False) (fun _ ih => fun x3 x11 x12 x13 => F44_b1 R ih x3 x11 x12 x13) n
theorem F44_l1_succ (R : ER) (n : Nat) (x3 x11 x12 x13 : Value) : F44_l1 R (n + 1) x3 x11 x12 x13 = F44_b1 R (F44_l1 R n) x3 x11 x12 x13 := rfl
theorem F44_l1_ok (R : ER) : ∀ (n : Nat) (e : Env), iterL (den Pg R (cd Try.f44 [1,1,0,1,0,0])) n e (inB 0 (setN (kont Pg R Try.f44) (fun e => F44_j1 R (e 3)))) = F44_l1 R n (e 3) (e 11) (e 12) (e 13) :=
  iterL_join (den Pg R (cd Try.f44 [1,1,0,1,0,0])) (inB 0 (setN (kont Pg R Try.f44) (fun e => F44_j1 R (e 3)))) (fun n e => F44_l1 R n (e 3) (e 11) (e 12) (e 13)) (fun _ => rfl) (fun n e => (F44_b1_ok R (F44_l1 R n) e).trans (F44_l1_succ R n (e 3) (e 11) (e 12) (e 13)).symm)
def F44_j3 (R : ER) (x3 x11 x12 x13 : Value) : WP :=
  exN fun n => F44_l1 R n x3 x11 x12 x13
theorem F44_j3_ok (R : ER) (e : Env) : den Pg R (cd Try.f44 [1,1,0,1]) e (setN (kont Pg R Try.f44) (fun e => F44_j1 R (e 3))) = (F44_j3 R (e 3) (e 11) (e 12) (e 13)) := (den_block Pg R (cd Try.f44 [1,1,0,1]) 0 (cd Try.f44 [1,1,0,1,0]) e (setN (kont Pg R Try.f44) (fun e => F44_j1 R (e 3))) _ (by kernel_rfl) (den_loop Pg R (cd Try.f44 [1,1,0,1,0]) (cd Try.f44 [1,1,0,1,0,0]) e (inB 0 (setN (kont Pg R Try.f44) (fun e => F44_j1 R (e 3)))) (fun n e => F44_l1 R n (e 3) (e 11) (e 12) (e 13)) _ (by kernel_rfl) (F44_l1_ok R) (by kernel_rfl)))
def F44_j2 (R : ER) (x1 x3 : Value) : WP :=
  pv (faO 1 x1) fun v21 =>
  ld1 v21 fun v22 =>
  pv (lenS v22) fun v23 =>
  F44_j3 R x3 v22 v23 (.int .i64 0)
theorem F44_j2_ok (R : ER) (e : Env) : den Pg R (cd Try.f44 [1,1,0]) e (setN (kont Pg R Try.f44) (fun e => F44_j1 R (e 3))) = (F44_j2 R (e 1) (e 3)) := (den_join Pg R 0 (cd Try.f44 [1,1,0]) (cd Try.f44 [1,1,0,1]) e (setN (kont Pg R Try.f44) (fun e => F44_j1 R (e 3))) (fun e => F44_j3 R (e 3) (e 11) (e 12) (e 13)) _ (by kernel_rfl) (fun e => F44_j3_ok R e) (by kernel_rfl))
def F44 (R : ER) (x0 : Value) : WP :=
  bx 25 x0 fun v24 =>
  pv (faO 0 v24) fun v25 =>
  ld1 v25 fun v26 =>
  pv (lenS v26) fun v27 =>
  valV Pg R (Instr.makeSlice 75 v27 v27) fun v28 =>
  F44_j2 R v24 v28
theorem F44_den (R : ER) (x0 : Value) : den Pg R (cd Try.f44 []) (argsEnv [x0]) (kont Pg R Try.f44) = F44 R x0 :=
  have h : ∀ e, den Pg R (cd Try.f44 []) e (kont Pg R Try.f44) = F44 R (e 0) := fun e => (den_join Pg R 2 (cd Try.f44 []) (cd Try.f44 [1,1,1]) e (kont Pg R Try.f44) (fun e => F44_j1 R (e 3)) _ (by kernel_rfl) (fun e => F44_j1_ok R e) (den_join Pg R 1 (pre 2 (cd Try.f44 [])) (cd Try.f44 [1,1,0]) e (setN (kont Pg R Try.f44) (fun e => F44_j1 R (e 3))) (fun e => F44_j2 R (e 1) (e 3)) _ (by kernel_rfl) (fun e => F44_j2_ok R e) (by kernel_rfl)))
  h _
theorem F44_calls {R : ER} {x0 : Value} {w : World} (h : F44 R x0 w) : Calls Pg 44 ⟨[x0]⟩ w R :=
  calls_of_den Try.func44 (by kernel_rfl) (by kernel_rfl) (F44_den R x0) h
/-! ### 45: inherit_walk -/
def F45_j1 (R : ER) (x0 : Value) : WP :=
  R (.returned x0)
theorem F45_j1_ok (R : ER) (e : Env) : den Pg R (cd Try.f45 [1,1]) e (kont Pg R Try.f45) = (F45_j1 R (e 0)) := by kernel_rfl
def F45_j4 (R : ER) (k1 : V4) (x0 x1 x2 x3 : Value) : WP :=
  pv (bin .sub x3 (.int .i64 1)) fun v1 =>
  k1 x0 x1 x2 v1
theorem F45_j4_ok (R : ER) (k1 : V4) (e : Env) : den Pg R (cd Try.f45 [1,0,0,0,1,1]) e (setN (inB 0 (setN (kont Pg R Try.f45) (fun e => F45_j1 R (e 0)))) (fun e => k1 (e 0) (e 1) (e 2) (e 3))) = (F45_j4 R k1 (e 0) (e 1) (e 2) (e 3)) := by kernel_rfl
def F45_j7 (R : ER) (k1 : V4) (k2 : V7) (x0 x1 x2 x3 x25 x26 x27 : Value) : WP :=
  pv (ixS 1 x25 x27) fun v2 =>
  ld1 v2 fun v3 =>
  pv (ixS 1 x2 v3) fun v4 =>
  ld1 v4 fun v5 =>
  pv (bin .sub x3 (.int .i64 1)) fun v6 =>
  pv (bin .eql v5 v6) fun v7 =>
  cnd v7 (
   valV Pg R (Instr.buildSlice 22 1 ⟨[(0, v3)]⟩) fun v8 =>
   blt Pg R .append ⟨[22,22]⟩ 22 ⟨[false, false]⟩ ⟨[x0, v8]⟩ fun v9 =>
   F45_j4 R k1 v9 x1 x2 x3) (
   pv (bin .add x27 (.int .i64 1)) fun v10 =>
  k2 x0 x1 x2 x3 x25 x26 v10)
theorem F45_j7_ok (R : ER) (k1 : V4) (k2 : V7) (e : Env) : den Pg R (cd Try.f45 [1,0,0,0,1,0,0,1,1,0,0,1,1]) e (setN (inB 2 (inB 1 (setN (setN (inB 0 (setN (kont Pg R Try.f45) (fun e => F45_j1 R (e 0)))) (fun e => k1 (e 0) (e 1) (e 2) (e 3))) (fun e => F45_j4 R k1 (e 0) (e 1) (e 2) (e 3))))) (fun e => k2 (e 0) (e 1) (e 2) (e 3) (e 25) (e 26) (e 27))) = (F45_j7 R k1 k2 (e 0) (e 1) (e 2) (e 3) (e 25) (e 26) (e 27)) := (by kernel_rfl)
def F45_b2 (R : ER) (k1 : V4) (k2 : V7) (x0 x1 x2 x3 x25 x26 x27 : Value) : WP :=
  pv (bin .lss x27 x26) fun v11 =>
  cnd v11 (
   F45_j7 R k1 k2 x0 x1 x2 x3 x25 x26 x27) (
   F45_j4 R k1 x0 x1 x2 x3)
theorem F45_b2_ok (R : ER) (k1 : V4) (k2 : V7) (e : Env) : den Pg R (cd Try.f45 [1,0,0,0,1,0,0,1,1,0,0]) e (setN (inB 2 (inB 1 (setN (setN (inB 0 (setN (kont Pg R Try.f45) (fun e => F45_j1 R (e 0)))) (fun e => k1 (e 0) (e 1) (e 2) (e 3))) (fun e => F45_j4 R k1 (e 0) (e 1) (e 2) (e 3))))) (fun e => k2 (e 0) (e 1) (e 2) (e 3) (e 25) (e 26) (e 27))) = (F45_b2 R k1 k2 (e 0) (e 1) (e 2) (e 3) (e 25) (e 26) (e 27)) := (den_join Pg R 1 (cd Try.f45 [1,0,0,0,1,0,0,1,1,0,0]) (cd Try.f45 [1,0,0,0,1,0,0,1,1,0,0,1,1]) e (setN (inB 2 (inB 1 (setN (setN (inB 0 (setN (kont Pg R Try.f45) (fun e => F45_j1 R (e 0)))) (fun e => k1 (e 0) (e 1) (e 2) (e 3))) (fun e => F45_j4 R k1 (e 0) (e 1) (e 2) (e 3))))) (fun e => k2 (e 0) (e 1) (e 2) (e 3) (e 25) (e 26) (e 27))) (fun e => F45_j7 R k1 k2 (e 0) (e 1) (e 2) (e 3) (e 25) (e 26) (e 27)) _ (by kernel_rfl) (fun e => F45_j7_ok R k1 k2 e) (by kernel_rfl))
noncomputable def F45_l1 (R : ER) (k1 : V4) (n : Nat) : V7 := Nat.rec (motive := fun _ => V7) (fun _ _ _ _ _ _ _ => fun _ => False) (fun _ ih => fun x0 x1 x2 x3 x25 x26 x27 => F45_b2 R k1 ih x0 x1 x2 x3 x25 x26 x27) n
theorem F45_l1_succ (R : ER) (k1 : V4) (n : Nat) (x0 x1 x2 x3 x25 x26 x27 : Value) : F45_l1 R k1 (n + 1) x0 x1 x2 x3 x25 x26 x27 = F45_b2 R k1 (F45_l1 R k1 n) x0 x1 x2 x3 x25 x26 x27 := rfl
theorem F45_l1_ok (R : ER) (k1 : V4) : ∀ (n : Nat) (e : Env), iterL (den Pg R (cd Try.f45 [1,0,0,0,1,0,0,1,1,0,0])) n e (inB 2 (inB 1 (setN (setN (inB 0 (setN (kont Pg R Try.f45) (fun e => F45_j1 R (e 0)))) (fun e => k1 (e 0) (e 1) (e 2) (e 3))) (fun e => F45_j4 R k1 (e 0) (e 1) (e 2) (e 3))))) = F45_l1 R k1 n (e 0) (e 1) (e 2) (e 3) (e 25) (e 26) (e 27) :=
  iterL_join (den Pg R (cd Try.f45 [1,0,0,0,1,0,0,1,1,0,0])) (inB 2 (inB 1 (setN (setN (inB 0 (setN (kont Pg R Try.f45) (fun e => F45_j1 R (e 0)))) (fun e => k1 (e 0) (e 1) (e 2) (e 3))) (fun e => F45_j4 R k1 (e 0) (e 1) (e 2) (e 3))))) (fun n e => F45_l1 R k1 n (e 0) (e 1) (e 2) (e 3) (e 25) (e 26) (e 27)) (fun _ => rfl) (fun n e => (F45_b2_ok R k1 (F45_l1 R k1 n) e).trans (F45_l1_succ R k1 n (e 0) (e 1) (e 2) (e 3) (e 25) (e 26) (e 27)).symm)
def F45_j6 (R : ER) (k1 : V4) (x0 x1 x2 x3 x25 x26 x27 : Value) : WP :=
  exN fun n => F45_l1 R k1 n x0 x1 x2 x3 x25 x26 x27
theorem F45_j6_ok (R : ER) (k1 : V4) (e : Env) : den Pg R (cd Try.f45 [1,0,0,0,1,0,0,1,1]) e (inB 1 (setN (setN (inB 0 (setN (kont Pg R Try.f45) (fun e => F45_j1 R (e 0)))) (fun e => k1 (e 0) (e 1) (e 2) (e 3))) (fun e => F45_j4 R k1 (e 0) (e 1) (e 2) (e 3)))) = (F45_j6 R k1 (e 0) (e 1) (e 2) (e 3) (e 25) (e 26) (e 27)) := (den_block Pg R (cd Try.f45 [1,0,0,0,1,0,0,1,1]) 2 (cd Try.f45 [1,0,0,0,1,0,0,1,1,0]) e (inB 1 (setN (setN (inB 0 (setN (kont Pg R Try.f45) (fun e => F45_j1 R (e 0)))) (fun e => k1 (e 0) (e 1) (e 2) (e 3))) (fun e => F45_j4 R k1 (e 0) (e 1) (e 2) (e 3)))) _ (by kernel_rfl) (den_loop Pg R (cd Try.f45 [1,0,0,0,1,0,0,1,1,0]) (cd Try.f45 [1,0,0,0,1,0,0,1,1,0,0]) e (inB 2 (inB 1 (setN (setN (inB 0 (setN (kont Pg R Try.f45) (fun e => F45_j1 R (e 0)))) (fun e => k1 (e 0) (e 1) (e 2) (e 3))) (fun e => F45_j4 R k1 (e 0) (e 1) (e 2) (e 3))))) (fun n e => F45_l1 R k1 n (e 0) (e 1) (e 2) (e 3) (e 25) (e 26) (e 27)) _ (by kernel_rfl) (F45_l1_ok R k1) (by kernel_rfl)))
def F45_j5 (R : ER) (k1 : V4) (x0 x1 x2 x3 : Value) : WP :=
  pv (lenS x0) fun v12 =>
  pv (bin .sub v12 (.int .i64 1)) fun v13 =>
  pv (ixS 1 x0 v13) fun v14 =>
  ld1 v14 fun v15 =>
  pv (ixS 1 x1 v15) fun v16 =>
  ld1 v16 fun v17 =>
  pv (lenS v17) fun v18 =>
  F45_j6 R k1 x0 x1 x2 x3 v17 v18 (.int .i64 0)
theorem F45_j5_ok (R : ER) (k1 : V4) (e : Env) : den Pg R (cd Try.f45 [1,0,0,0,1,0]) e (setN (setN (inB 0 (setN (kont Pg R Try.f45) (fun e => F45_j1 R (e 0)))) (fun e => k1 (e 0) (e 1) (e 2) (e 3))) (fun e => F45_j4 R k1 (e 0) (e 1) (e 2) (e 3))) = (F45_j5 R k1 (e 0) (e 1) (e 2) (e 3)) := (den_block Pg R (cd Try.f45 [1,0,0,0,1,0]) 1 (cd Try.f45 [1,0,0,0,1,0,0]) e (setN (setN (inB 0 (setN (kont Pg R Try.f45) (fun e => F45_j1 R (e 0)))) (fun e => k1 (e 0) (e 1) (e 2) (e 3))) (fun e => F45_j4 R k1 (e 0) (e 1) (e 2) (e 3))) _ (by kernel_rfl) (den_join Pg R 1 (cd Try.f45 [1,0,0,0,1,0,0]) (cd Try.f45 [1,0,0,0,1,0,0,1,1]) e (inB 1 (setN (setN (inB 0 (setN (kont Pg R Try.f45) (fun e => F45_j1 R (e 0)))) (fun e => k1 (e 0) (e 1) (e 2) (e 3))) (fun e => F45_j4 R k1 (e 0) (e 1) (e 2) (e 3)))) (fun e => F45_j6 R k1 (e 0) (e 1) (e 2) (e 3) (e 25) (e 26) (e 27)) _ (by kernel_rfl) (fun e => F45_j6_ok R k1 e) (by kernel_rfl)))
def F45_j3 (R : ER) (k1 : V4) (x0 x1 x2 x3 : Value) : WP :=
  F45_j5 R k1 x0 x1 x2 x3
theorem F45_j3_ok (R : ER) (k1 : V4) (e : Env) : den Pg R (cd Try.f45 [1,0,0,0,1]) e (setN (inB 0 (setN (kont Pg R Try.f45) (fun e => F45_j1 R (e 0)))) (fun e => k1 (e 0) (e 1) (e 2) (e 3))) = (F45_j3 R k1 (e 0) (e 1) (e 2) (e 3)) := (den_join Pg R 0 (cd Try.f45 [1,0,0,0,1]) (cd Try.f45 [1,0,0,0,1,1]) e (setN (inB 0 (setN (kont Pg R Try.f45) (fun e => F45_j1 R (e 0)))) (fun e => k1 (e 0) (e 1) (e 2) (e 3))) (fun e => F45_j4 R k1 (e 0) (e 1) (e 2) (e 3)) _ (by kernel_rfl) (fun e => F45_j4_ok R k1 e) (den_conv Pg R (pre 0 (cd Try.f45 [1,0,0,0,1])) (cd Try.f45 [1,0,0,0,1,0]) e (setN (setN (inB 0 (setN (kont Pg R Try.f45) (fun e => F45_j1 R (e 0)))) (fun e => k1 (e 0) (e 1) (e 2) (e 3))) (fun e => F45_j4 R k1 (e 0) (e 1) (e 2) (e 3))) _ (by kernel_rfl) (F45_j5_ok R k1 e)))
def F45_b1 (R : ER) (k1 : V4) (x0 x1 x2 x3 : Value) : WP :=
  pv (bin .gtr x3 (.int .i64 0)) fun v19 =>
  cnd v19 (
   F45_j3 R k1 x0 x1 x2 x3) (
   F45_j1 R x0)
theorem F45_b1_ok (R : ER) (k1 : V4) (e : Env) : den Pg R (cd Try.f45 [1,0,0,0]) e (setN (inB 0 (setN (kont Pg R Try.f45) (fun e => F45_j1 R (e 0)))) (fun e => k1 (e 0) (e 1) (e 2) (e 3))) = (F45_b1 R k1 (e 0) (e 1) (e 2) (e 3)) := (den_join Pg R 0 (cd Try.f45 [1,0,0,0]) (cd Try.f45 [1,0,0,0,1]) e (setN (inB 0 (setN (kont Pg R Try.f45) (fun e => F45_j1 R (e 0)))) (fun e => k1 (e 0) (e 1) (e 2) (e 3))) (fun e => F45_j3 R k1 (e 0) (e 1) (e 2) (e 3)) _ (by kernel_rfl) (fun e => F45_j3_ok R k1 e) (by kernel_rfl))
noncomputable def F45_l2 (R : ER) (n : Nat) : V4 := Nat.rec (motive := fun _ => V4) (fun _ _ _ _ => fun _ => False) (fun _ ih => fun x0 x1 x2 x3 => F45_b1 R ih x0 x1 x2 x3) n
theorem F45_l2_succ (R : ER) (n : Nat) (x0 x1 x2 x3 : Value) : F45_l2 R (n + 1) x0 x1 x2 x3 = F45_b1 R (F45_l2 R n) x0 x1 x2 x3 := rfl
theorem F45_l2_ok (R : ER) : ∀ (n : Nat) (e : Env), iterL (den Pg R (cd Try.f45 [1,0,0,0])) n e (inB 0 (setN (kont Pg R Try.f45) (fun e => F45_j1 R (e 0)))) = F45_l2 R n (e 0) (e 1) (e 2) (e 3) :=
  iterL_join (den Pg R (cd Try.f45 [1,0,0,0])) (inB 0 (setN (kont Pg R Try.f45) (fun e => F45_j1 R (e 0)))) (fun n e => F45_l2 R n (e 0) (e 1) (e 2) (e 3)) (fun _ => rfl) (fun n e => (F45_b1_ok R (F45_l2 R n) e).trans (F45_l2_succ R n (e 0) (e 1) (e 2) (e 3)).symm)
def F45_j2 (R : ER) (x0 x1 x2 x3 : Value) : WP :=
  exN fun n => F45_l2 R n x0 x1 x2 x3
theorem F45_j2_ok (R : ER) (e : Env) : den Pg R (cd Try.f45 [1,0]) e (setN (kont Pg R Try.f45) (fun e => F45_j1 R (e 0))) = (F45_j2 R (e 0) (e 1) (e 2) (e 3)) := (den_block Pg R (cd Try.f45 [1,0]) 0 (cd Try.f45 [1,0,0]) e (setN (kont Pg R Try.f45) (fun e => F45_j1 R (e 0))) _ (by kernel_rfl) (den_loop Pg R (cd Try.f45 [1,0,0]) (cd Try.f45 [1,0,0,0]) e (inB 0 (setN (kont Pg R Try.f45) (fun e => F45_j1 R (e 0)))) (fun n e => F45_l2 R n (e 0) (e 1) (e 2) (e 3)) _ (by kernel_rfl) (F45_l2_ok R) (by kernel_rfl)))
def F45 (R : ER) (x0 x1 x2 x3 : Value) : WP :=
  F45_j2 R x0 x1 x2 x3
theorem F45_den (R : ER) (x0 x1 x2 x3 : Value) : den Pg R (cd Try.f45 []) (argsEnv [x0, x1, x2, x3]) (kont Pg R Try.f45) = F45 R x0 x1 x2 x3 :=
  have h : ∀ e, den Pg R (cd Try.f45 []) e (kont Pg R Try.f45) = F45 R (e 0) (e 1) (e 2) (e 3) := fun e => (den_join Pg R 1 (cd Try.f45 []) (cd Try.f45 [1,1]) e (kont Pg R Try.f45) (fun e => F45_j1 R (e 0)) _ (by kernel_rfl) (fun e => F45_j1_ok R e) (den_join Pg R 0 (pre 1 (cd Try.f45 [])) (cd Try.f45 [1,0]) e (setN (kont Pg R Try.f45) (fun e => F45_j1 R (e 0))) (fun e => F45_j2 R (e 0) (e 1) (e 2) (e 3)) _ (by kernel_rfl) (fun e => F45_j2_ok R e) (by kernel_rfl)))
  h _
theorem F45_calls {R : ER} {x0 x1 x2 x3 : Value} {w : World} (h : F45 R x0 x1 x2 x3 w) : Calls Pg 45 ⟨[x0, x1, x2, x3]⟩ w R :=
  calls_of_den Try.func45 (by kernel_rfl) (by kernel_rfl) (F45_den R x0 x1 x2 x3) h
/-! ### 46: inherit_Graph_holders -/
def F46_j1 (R : ER) (x3 : Value) : WP :=
  R (.returned x3)
theorem F46_j1_ok (R : ER) (e : Env) : den Pg R (cd Try.f46 [1,1,1]) e (kont Pg R Try.f46) = (F46_j1 R (e 3)) := by kernel_rfl
def F46_j4 (R : ER) (k1 : V4) (x3 x13 x14 x15 : Value) : WP :=
  pv (ixS 2 x13 x15) fun v1 =>
  ldN 2 v1 fun v2 =>
  al Pg 39 fun v3 =>
  stN 2 v3 v2 fun _ =>
  drewV (
  pv (faO 0 v3) fun v4 =>
  ld1 v4 fun v5 =>
  pv (faO 0 v3) fun v6 =>
  ld1 v6 fun v7 =>
  pv (ixS 1 x3 v7) fun v8 =>
  ld1 v8 fun v9 =>
  pv (faO 1 v3) fun v10 =>
  ld1 v10 fun v11 =>
  mem fun w13 => valV Pg noR (Instr.buildSlice 22 1 ⟨[(0, v11)]⟩) fun v12 =>
  rd1 v8 v9 <|
  rd1 v6 v7 <|
  rd1 v4 v5 <|
  mem fun w15 => blt Pg noR .append ⟨[22,22]⟩ 22 ⟨[false, false]⟩ ⟨[v9, v12]⟩ fun v14 =>
  rd1 v4 v5 <|
  pv (ixS 1 x3 v5) fun v16 =>
  mem fun w18 => st1 v16 v14 fun v17 =>
  pv (bin .add x15 (.int .i64 1)) fun v19 =>
  k1 x3 x13 x14 v19)
theorem F46_j4_ok (R : ER) (k1 : V4) (e : Env) : den Pg R (cd Try.f46 [1,1,0,1,0,0,1,1]) e (setN (inB 0 (setN (kont Pg R Try.f46) (fun e => F46_j1 R (e 3)))) (fun e => k1 (e 3) (e 13) (e 14) (e 15))) = (F46_j4 R k1 (e 3) (e 13) (e 14) (e 15)) := by kernel_rfl
def F46_b1 (R : ER) (k1 : V4) (x3 x13 x14 x15 : Value) : WP :=
  pv (bin .lss x15 x14) fun v20 =>
  cnd v20 (
   F46_j4 R k1 x3 x13 x14 x15) (
   F46_j1 R x3)
theorem F46_b1_ok (R : ER) (k1 : V4) (e : Env) : den Pg R (cd Try.f46 [1,1,0,1,0,0]) e (setN (inB 0 (setN (kont Pg R Try.f46) (fun e => F46_j1 R (e 3)))) (fun e => k1 (e 3) (e 13) (e 14) (e 15))) = (F46_b1 R k1 (e 3) (e 13) (e 14) (e 15)) := (den_join Pg R 1 (cd Try.f46 [1,1,0,1,0,0]) (cd Try.f46 [1,1,0,1,0,0,1,1]) e (setN (inB 0 (setN (kont Pg R Try.f46) (fun e => F46_j1 R (e 3)))) (fun e => k1 (e 3) (e 13) (e 14) (e 15))) (fun e => F46_j4 R k1 (e 3) (e 13) (e 14) (e 15)) _ (by kernel_rfl) (fun e => F46_j4_ok R k1 e) (by kernel_rfl))
noncomputable def F46_l1 (R : ER) (n : Nat) : V4 := Nat.rec (motive := fun _ => V4) (fun _ _ _ _ => fun _ => False) (fun _ ih => fun x3 x13 x14 x15 => F46_b1 R ih x3 x13 x14 x15) n
theorem F46_l1_succ (R : ER) (n : Nat) (x3 x13 x14 x15 : Value) : F46_l1 R (n + 1) x3 x13 x14 x15 = F46_b1 R (F46_l1 R n) x3 x13 x14 x15 := rfl
theorem F46_l1_ok (R : ER) : ∀ (n : Nat) (e : Env), iterL (den Pg R (cd Try.f46 [1,1,0,1,0,0])) n e (inB 0 (setN (kont Pg R Try.f46) (fun e => F46_j1 R (e 3)))) = F46_l1 R n (e 3) (e 13) (e 14) (e 15) :=
  iterL_join (den Pg R (cd Try.f46 [1,1,0,1,0,0])) (inB 0 (setN (kont Pg R Try.f46) (fun e => F46_j1 R (e 3)))) (fun n e => F46_l1 R n (e 3) (e 13) (e 14) (e 15)) (fun _ => rfl) (fun n e => (F46_b1_ok R (F46_l1 R n) e).trans (F46_l1_succ R n (e 3) (e 13) (e 14) (e 15)).symm)
def F46_j3 (R : ER) (x3 x13 x14 x15 : Value) : WP :=
  exN fun n => F46_l1 R n x3 x13 x14 x15
theorem F46_j3_ok (R : ER) (e : Env) : den Pg R (cd Try.f46 [1,1,0,1]) e (setN (kont Pg R Try.f46) (fun e => F46_j1 R (e 3))) = (F46_j3 R (e 3) (e 13) (e 14) (e 15)) := (den_block Pg R (cd Try.f46 [1,1,0,1]) 0 (cd Try.f46 [1,1,0,1,0]) e (setN (kont Pg R Try.f46) (fun e => F46_j1 R (e 3))) _ (by kernel_rfl) (den_loop Pg R (cd Try.f46 [1,1,0,1,0]) (cd Try.f46 [1,1,0,1,0,0]) e (inB 0 (setN (kont Pg R Try.f46) (fun e => F46_j1 R (e 3)))) (fun n e => F46_l1 R n (e 3) (e 13) (e 14) (e 15)) _ (by kernel_rfl) (F46_l1_ok R) (by kernel_rfl)))
def F46_j2 (R : ER) (x1 x3 : Value) : WP :=
  pv (faO 1 x1) fun v21 =>
  ld1 v21 fun v22 =>
  cal Pg R 63 ⟨[v22]⟩ fun v23 =>
  cal Pg R 62 ⟨[v23, (.func (.func 64) ⟨[]⟩ ⟨[]⟩)]⟩ fun v24 =>
  pv (lenS v24) fun v25 =>
  F46_j3 R x3 v24 v25 (.int .i64 0)
theorem F46_j2_ok (R : ER) (e : Env) : den Pg R (cd Try.f46 [1,1,0]) e (setN (kont Pg R Try.f46) (fun e => F46_j1 R (e 3))) = (F46_j2 R (e 1) (e 3)) := (den_join Pg R 0 (cd Try.f46 [1,1,0]) (cd Try.f46 [1,1,0,1]) e (setN (kont Pg R Try.f46) (fun e => F46_j1 R (e 3))) (fun e => F46_j3 R (e 3) (e 13) (e 14) (e 15)) _ (by kernel_rfl) (fun e => F46_j3_ok R e) (by kernel_rfl))
def F46 (R : ER) (x0 : Value) : WP :=
  bx 25 x0 fun v26 =>
  pv (faO 0 v26) fun v27 =>
  ld1 v27 fun v28 =>
  pv (lenS v28) fun v29 =>
  valV Pg R (Instr.makeSlice 75 v29 v29) fun v30 =>
  F46_j2 R v26 v30
theorem F46_den (R : ER) (x0 : Value) : den Pg R (cd Try.f46 []) (argsEnv [x0]) (kont Pg R Try.f46) = F46 R x0 :=
  have h : ∀ e, den Pg R (cd Try.f46 []) e (kont Pg R Try.f46) = F46 R (e 0) := fun e => (den_join Pg R 2 (cd Try.f46 []) (cd Try.f46 [1,1,1]) e (kont Pg R Try.f46) (fun e => F46_j1 R (e 3)) _ (by kernel_rfl) (fun e => F46_j1_ok R e) (den_join Pg R 1 (pre 2 (cd Try.f46 [])) (cd Try.f46 [1,1,0]) e (setN (kont Pg R Try.f46) (fun e => F46_j1 R (e 3))) (fun e => F46_j2 R (e 1) (e 3)) _ (by kernel_rfl) (fun e => F46_j2_ok R e) (by kernel_rfl)))
  h _
theorem F46_calls {R : ER} {x0 : Value} {w : World} (h : F46 R x0 w) : Calls Pg 46 ⟨[x0]⟩ w R :=
  calls_of_den Try.func46 (by kernel_rfl) (by kernel_rfl) (F46_den R x0) h
/-! ### 47: orpimentref05_Graph_distances -/
def F47_j1 (R : ER) (x5 : Value) : WP :=
  R (.returned x5)
theorem F47_j1_ok (R : ER) (e : Env) : den Pg R (cd Try.f47 [1,1,1,1]) e (kont Pg R Try.f47) = (F47_j1 R (e 5)) := by kernel_rfl
def F47_j5 (R : ER) (k1 : V3) (x2 x5 x6 : Value) : WP :=
  pv (bin .add x6 (.int .i64 1)) fun v1 =>
  k1 x2 x5 v1
theorem F47_j5_ok (R : ER) (k1 : V3) (e : Env) : den Pg R (cd Try.f47 [1,1,1,0,1,0,0,1,1]) e (setN (inB 0 (setN (kont Pg R Try.f47) (fun e => F47_j1 R (e 5)))) (fun e => k1 (e 2) (e 5) (e 6))) = (F47_j5 R k1 (e 2) (e 5) (e 6)) := by kernel_rfl
def F47_j9 (R : ER) (k1 : V3) (k2 : V4) (x2 x5 x6 x7 : Value) : WP :=
  pv (bin .add x7 (.int .i64 1)) fun v2 =>
  k2 x2 x5 x6 v2
theorem F47_j9_ok (R : ER) (k1 : V3) (k2 : V4) (e : Env) : den Pg R (cd Try.f47 [1,1,1,0,1,0,0,1,0,0,1,0,0,1,1]) e (setN (inB 2 (inB 1 (setN (setN (inB 0 (setN (kont Pg R Try.f47) (fun e => F47_j1 R (e 5)))) (fun e => k1 (e 2) (e 5) (e 6))) (fun e => F47_j5 R k1 (e 2) (e 5) (e 6))))) (fun e => k2 (e 2) (e 5) (e 6) (e 7))) = (F47_j9 R k1 k2 (e 2) (e 5) (e 6) (e 7)) := by kernel_rfl
def F47_j10 (R : ER) (k1 : V3) (k2 : V4) (x2 x5 x6 x7 : Value) : WP :=
  pv (faO 1 x2) fun v3 =>
  ld1 v3 fun v4 =>
  pv (ixS 2 v4 x7) fun v5 =>
  ldN 2 v5 fun v6 =>
  al Pg 39 fun v7 =>
  stN 2 v7 v6 fun _ =>
  pv (faO 1 v7) fun v8 =>
  ld1 v8 fun v9 =>
  pv (ixS 1 x5 v9) fun v10 =>
  ld1 v10 fun v11 =>
  pv (bin .eql v11 x6) fun v12 =>
  gd v12 true (pv (some x5)) fun v13 =>
  gd v12 true (pv (faO 0 v7)) fun v14 =>
  gd v12 true (ld1 v14) fun v15 =>
  gd v12 true (pv (ixS 1 v13 v15)) fun v16 =>
  gd v12 true (ld1 v16) fun v17 =>
  gd v12 true (pv (bin .eql v17 (.int .i64 0))) fun v18 =>
  pv (pickO v12 v18 (.bool false)) fun v19 =>
  cnd v19 (
   pv (faO 0 v7) fun v20 =>
   ld1 v20 fun v21 =>
   pv (bin .add x6 (.int .i64 1)) fun v22 =>
   pv (ixS 1 x5 v21) fun v23 =>
   st1 v23 v22 fun _ =>
   F47_j9 R k1 k2 x2 x5 x6 x7) (
   F47_j9 R k1 k2 x2 x5 x6 x7)
theorem F47_j10_ok (R : ER) (k1 : V3) (k2 : V4) (e : Env) : den Pg R (cd Try.f47 [1,1,1,0,1,0,0,1,0,0,1,0,0,1,0]) e (setN (setN (inB 2 (inB 1 (setN (setN (inB 0 (setN (kont Pg R Try.f47) (fun e => F47_j1 R (e 5)))) (fun e => k1 (e 2) (e 5) (e 6))) (fun e => F47_j5 R k1 (e 2) (e 5) (e 6))))) (fun e => k2 (e 2) (e 5) (e 6) (e 7))) (fun e => F47_j9 R k1 k2 (e 2) (e 5) (e 6) (e 7))) = (F47_j10 R k1 k2 (e 2) (e 5) (e 6) (e 7)) := (den_block Pg R (cd Try.f47 [1,1,1,0,1,0,0,1,0,0,1,0,0,1,0]) 3 (cd Try.f47 [1,1,1,0,1,0,0,1,0,0,1,0,0,1,0,0]) e (setN (setN (inB 2 (inB 1 (setN (setN (inB 0 (setN (kont Pg R Try.f47) (fun e => F47_j1 R (e 5)))) (fun e => k1 (e 2) (e 5) (e 6))) (fun e => F47_j5 R k1 (e 2) (e 5) (e 6))))) (fun e => k2 (e 2) (e 5) (e 6) (e 7))) (fun e => F47_j9 R k1 k2 (e 2) (e 5) (e 6) (e 7))) _ (by kernel_rfl) (by kernel_rfl))
def F47_j8 (R : ER) (k1 : V3) (k2 : V4) (x2 x5 x6 x7 : Value) : WP :=
  F47_j10 R k1 k2 x2 x5 x6 x7
theorem F47_j8_ok (R : ER) (k1 : V3) (k2 : V4) (e : Env) : den Pg R (cd Try.f47 [1,1,1,0,1,0,0,1,0,0,1,0,0,1]) e (setN (inB 2 (inB 1 (setN (setN (inB 0 (setN (kont Pg R Try.f47) (fun e => F47_j1 R (e 5)))) (fun e => k1 (e 2) (e 5) (e 6))) (fun e => F47_j5 R k1 (e 2) (e 5) (e 6))))) (fun e => k2 (e 2) (e 5) (e 6) (e 7))) = (F47_j8 R k1 k2 (e 2) (e 5) (e 6) (e 7)) := (den_join Pg R 0 (cd Try.f47 [1,1,1,0,1,0,0,1,0,0,1,0,0,1]) (cd Try.f47 [1,1,1,0,1,0,0,1,0,0,1,0,0,1,1]) e (setN (inB 2 (inB 1 (setN (setN (inB 0 (setN (kont Pg R Try.f47) (fun e => F47_j1 R (e 5)))) (fun e => k1 (e 2) (e 5) (e 6))) (fun e => F47_j5 R k1 (e 2) (e 5) (e 6))))) (fun e => k2 (e 2) (e 5) (e 6) (e 7))) (fun e => F47_j9 R k1 k2 (e 2) (e 5) (e 6) (e 7)) _ (by kernel_rfl) (fun e => F47_j9_ok R k1 k2 e) (den_conv Pg R (pre 0 (cd Try.f47 [1,1,1,0,1,0,0,1,0,0,1,0,0,1])) (cd Try.f47 [1,1,1,0,1,0,0,1,0,0,1,0,0,1,0]) e (setN (setN (inB 2 (inB 1 (setN (setN (inB 0 (setN (kont Pg R Try.f47) (fun e => F47_j1 R (e 5)))) (fun e => k1 (e 2) (e 5) (e 6))) (fun e => F47_j5 R k1 (e 2) (e 5) (e 6))))) (fun e => k2 (e 2) (e 5) (e 6) (e 7))) (fun e => F47_j9 R k1 k2 (e 2) (e 5) (e 6) (e 7))) _ (by kernel_rfl) (F47_j10_ok R k1 k2 e)))
def F47_b2 (R : ER) (k1 : V3) (k2 : V4) (x2 x5 x6 x7 : Value) : WP :=
  pv (faO 1 x2) fun v24 =>
  ld1 v24 fun v25 =>
  pv (lenS v25) fun v26 =>
  pv (bin .lss x7 v26) fun v27 =>
  cnd v27 (
   F47_j8 R k1 k2 x2 x5 x6 x7) (
   F47_j5 R k1 x2 x5 x6)
theorem F47_b2_ok (R : ER) (k1 : V3) (k2 : V4) (e : Env) : den Pg R (cd Try.f47 [1,1,1,0,1,0,0,1,0,0,1,0,0]) e (setN (inB 2 (inB 1 (setN (setN (inB 0 (setN (kont Pg R Try.f47) (fun e => F47_j1 R (e 5)))) (fun e => k1 (e 2) (e 5) (e 6))) (fun e => F47_j5 R k1 (e 2) (e 5) (e 6))))) (fun e => k2 (e 2) (e 5) (e 6) (e 7))) = (F47_b2 R k1 k2 (e 2) (e 5) (e 6) (e 7)) := (den_join Pg R 0 (cd Try.f47 [1,1,1,0,1,0,0,1,0,0,1,0,0]) (cd Try.f47 [1,1,1,0,1,0,0,1,0,0,1,0,0,1]) e (setN (inB 2 (inB 1 (setN (setN (inB 0 (setN (kont Pg R Try.f47) (fun e => F47_j1 R (e 5)))) (fun e => k1 (e 2) (e 5) (e 6))) (fun e => F47_j5 R k1 (e 2) (e 5) (e 6))))) (fun e => k2 (e 2) (e 5) (e 6) (e 7))) (fun e => F47_j8 R k1 k2 (e 2) (e 5) (e 6) (e 7)) _ (by kernel_rfl) (fun e => F47_j8_ok R k1 k2 e) (by kernel_rfl))
noncomputable def F47_l1 (R : ER) (k1 : V3) (n : Nat) : V4 := Nat.rec (motive := fun _ => V4) (fun _ _ _ _ => fun _ => False) (fun _ ih => fun x2 x5 x6 x7 => F47_b2 R k1 ih x2 x5 x6 x7) n
theorem F47_l1_succ (R : ER) (k1 : V3) (n : Nat) (x2 x5 x6 x7 : Value) : F47_l1 R k1 (n + 1) x2 x5 x6 x7 = F47_b2 R k1 (F47_l1 R k1 n) x2 x5 x6 x7 := rfl
theorem F47_l1_ok (R : ER) (k1 : V3) : ∀ (n : Nat) (e : Env), iterL (den Pg R (cd Try.f47 [1,1,1,0,1,0,0,1,0,0,1,0,0])) n e (inB 2 (inB 1 (setN (setN (inB 0 (setN (kont Pg R Try.f47) (fun e => F47_j1 R (e 5)))) (fun e => k1 (e 2) (e 5) (e 6))) (fun e => F47_j5 R k1 (e 2) (e 5) (e 6))))) = F47_l1 R k1 n (e 2) (e 5) (e 6) (e 7) :=
  iterL_join (den Pg R (cd Try.f47 [1,1,1,0,1,0,0,1,0,0,1,0,0])) (inB 2 (inB 1 (setN (setN (inB 0 (setN (kont Pg R Try.f47) (fun e => F47_j1 R (e 5)))) (fun e => k1 (e 2) (e 5) (e 6))) (fun e => F47_j5 R k1 (e 2) (e 5) (e 6))))) (fun n e => F47_l1 R k1 n (e 2) (e 5) (e 6) (e 7)) (fun _ => rfl) (fun n e => (F47_b2_ok R k1 (F47_l1 R k1 n) e).trans (F47_l1_succ R k1 n (e 2) (e 5) (e 6) (e 7)).symm)
def F47_j7 (R : ER) (k1 : V3) (x2 x5 x6 x7 : Value) : WP :=
  exN fun n => F47_l1 R k1 n x2 x5 x6 x7
theorem F47_j7_ok (R : ER) (k1 : V3) (e : Env) : den Pg R (cd Try.f47 [1,1,1,0,1,0,0,1,0,0,1]) e (inB 1 (setN (setN (inB 0 (setN (kont Pg R Try.f47) (fun e => F47_j1 R (e 5)))) (fun e => k1 (e 2) (e 5) (e 6))) (fun e => F47_j5 R k1 (e 2) (e 5) (e 6)))) = (F47_j7 R k1 (e 2) (e 5) (e 6) (e 7)) := (den_block Pg R (cd Try.f47 [1,1,1,0,1,0,0,1,0,0,1]) 2 (cd Try.f47 [1,1,1,0,1,0,0,1,0,0,1,0]) e (inB 1 (setN (setN (inB 0 (setN (kont Pg R Try.f47) (fun e => F47_j1 R (e 5)))) (fun e => k1 (e 2) (e 5) (e 6))) (fun e => F47_j5 R k1 (e 2) (e 5) (e 6)))) _ (by kernel_rfl) (den_loop Pg R (cd Try.f47 [1,1,1,0,1,0,0,1,0,0,1,0]) (cd Try.f47 [1,1,1,0,1,0,0,1,0,0,1,0,0]) e (inB 2 (inB 1 (setN (setN (inB 0 (setN (kont Pg R Try.f47) (fun e => F47_j1 R (e 5)))) (fun e => k1 (e 2) (e 5) (e 6))) (fun e => F47_j5 R k1 (e 2) (e 5) (e 6))))) (fun n e => F47_l1 R k1 n (e 2) (e 5) (e 6) (e 7)) _ (by kernel_rfl) (F47_l1_ok R k1) (by kernel_rfl)))
def F47_j6 (R : ER) (k1 : V3) (x2 x5 x6 : Value) : WP :=
  F47_j7 R k1 x2 x5 x6 (.int .i64 0)
theorem F47_j6_ok (R : ER) (k1 : V3) (e : Env) : den Pg R (cd Try.f47 [1,1,1,0,1,0,0,1,0]) e (setN (setN (inB 0 (setN (kont Pg R Try.f47) (fun e => F47_j1 R (e 5)))) (fun e => k1 (e 2) (e 5) (e 6))) (fun e => F47_j5 R k1 (e 2) (e 5) (e 6))) = (F47_j6 R k1 (e 2) (e 5) (e 6)) := (den_block Pg R (cd Try.f47 [1,1,1,0,1,0,0,1,0]) 1 (cd Try.f47 [1,1,1,0,1,0,0,1,0,0]) e (setN (setN (inB 0 (setN (kont Pg R Try.f47) (fun e => F47_j1 R (e 5)))) (fun e => k1 (e 2) (e 5) (e 6))) (fun e => F47_j5 R k1 (e 2) (e 5) (e 6))) _ (by kernel_rfl) (den_join Pg R 0 (cd Try.f47 [1,1,1,0,1,0,0,1,0,0]) (cd Try.f47 [1,1,1,0,1,0,0,1,0,0,1]) e (inB 1 (setN (setN (inB 0 (setN (kont Pg R Try.f47) (fun e => F47_j1 R (e 5)))) (fun e => k1 (e 2) (e 5) (e 6))) (fun e => F47_j5 R k1 (e 2) (e 5) (e 6)))) (fun e => F47_j7 R k1 (e 2) (e 5) (e 6) (e 7)) _ (by kernel_rfl) (fun e => F47_j7_ok R k1 e) (by kernel_rfl)))
def F47_j4 (R : ER) (k1 : V3) (x2 x5 x6 : Value) : WP :=
  F47_j6 R k1 x2 x5 x6
theorem F47_j4_ok (R : ER) (k1 : V3) (e : Env) : den Pg R (cd Try.f47 [1,1,1,0,1,0,0,1]) e (setN (inB 0 (setN (kont Pg R Try.f47) (fun e => F47_j1 R (e 5)))) (fun e => k1 (e 2) (e 5) (e 6))) = (F47_j4 R k1 (e 2) (e 5) (e 6)) := (den_join Pg R 0 (cd Try.f47 [1,1,1,0,1,0,0,1]) (cd Try.f47 [1,1,1,0,1,0,0,1,1]) e (setN (inB 0 (setN (kont Pg R Try.f47) (fun e => F47_j1 R (e 5)))) (fun e => k1 (e 2) (e 5) (e 6))) (fun e => F47_j5 R k1 (e 2) (e 5) (e 6)) _ (by kernel_rfl) (fun e => F47_j5_ok R k1 e) (den_conv Pg R (pre 0 (cd Try.f47 [1,1,1,0,1,0,0,1])) (cd Try.f47 [1,1,1,0,1,0,0,1,0]) e (setN (setN (inB 0 (setN (kont Pg R Try.f47) (fun e => F47_j1 R (e 5)))) (fun e => k1 (e 2) (e 5) (e 6))) (fun e => F47_j5 R k1 (e 2) (e 5) (e 6))) _ (by kernel_rfl) (F47_j6_ok R k1 e)))
def F47_b1 (R : ER) (k1 : V3) (x2 x5 x6 : Value) : WP :=
  pv (faO 0 x2) fun v28 =>
  ld1 v28 fun v29 =>
  pv (lenS v29) fun v30 =>
  pv (bin .leq x6 v30) fun v31 =>
  cnd v31 (
   F47_j4 R k1 x2 x5 x6) (
   F47_j1 R x5)
theorem F47_b1_ok (R : ER) (k1 : V3) (e : Env) : den Pg R (cd Try.f47 [1,1,1,0,1,0,0]) e (setN (inB 0 (setN (kont Pg R Try.f47) (fun e => F47_j1 R (e 5)))) (fun e => k1 (e 2) (e 5) (e 6))) = (F47_b1 R k1 (e 2) (e 5) (e 6)) := (den_join Pg R 0 (cd Try.f47 [1,1,1,0,1,0,0]) (cd Try.f47 [1,1,1,0,1,0,0,1]) e (setN (inB 0 (setN (kont Pg R Try.f47) (fun e => F47_j1 R (e 5)))) (fun e => k1 (e 2) (e 5) (e 6))) (fun e => F47_j4 R k1 (e 2) (e 5) (e 6)) _ (by kernel_rfl) (fun e => F47_j4_ok R k1 e) (by kernel_rfl))
noncomputable def F47_l2 (R : ER) (n : Nat) : V3 := Nat.rec (motive := fun _ => V3) (fun _ _ _ => fun _ => False) (fun _ ih => fun x2 x5 x6 => F47_b1 R ih x2 x5 x6) n
theorem F47_l2_succ (R : ER) (n : Nat) (x2 x5 x6 : Value) : F47_l2 R (n + 1) x2 x5 x6 = F47_b1 R (F47_l2 R n) x2 x5 x6 := rfl
theorem F47_l2_ok (R : ER) : ∀ (n : Nat) (e : Env), iterL (den Pg R (cd Try.f47 [1,1,1,0,1,0,0])) n e (inB 0 (setN (kont Pg R Try.f47) (fun e => F47_j1 R (e 5)))) = F47_l2 R n (e 2) (e 5) (e 6) :=
  iterL_join (den Pg R (cd Try.f47 [1,1,1,0,1,0,0])) (inB 0 (setN (kont Pg R Try.f47) (fun e => F47_j1 R (e 5)))) (fun n e => F47_l2 R n (e 2) (e 5) (e 6)) (fun _ => rfl) (fun n e => (F47_b1_ok R (F47_l2 R n) e).trans (F47_l2_succ R n (e 2) (e 5) (e 6)).symm)
def F47_j3 (R : ER) (x2 x5 x6 : Value) : WP :=
  exN fun n => F47_l2 R n x2 x5 x6
theorem F47_j3_ok (R : ER) (e : Env) : den Pg R (cd Try.f47 [1,1,1,0,1]) e (setN (kont Pg R Try.f47) (fun e => F47_j1 R (e 5))) = (F47_j3 R (e 2) (e 5) (e 6)) := (den_block Pg R (cd Try.f47 [1,1,1,0,1]) 0 (cd Try.f47 [1,1,1,0,1,0]) e (setN (kont Pg R Try.f47) (fun e => F47_j1 R (e 5))) _ (by kernel_rfl) (den_loop Pg R (cd Try.f47 [1,1,1,0,1,0]) (cd Try.f47 [1,1,1,0,1,0,0]) e (inB 0 (setN (kont Pg R Try.f47) (fun e => F47_j1 R (e 5)))) (fun n e => F47_l2 R n (e 2) (e 5) (e 6)) _ (by kernel_rfl) (F47_l2_ok R) (by kernel_rfl)))
def F47_j2 (R : ER) (x2 x5 : Value) : WP :=
  F47_j3 R x2 x5 (.int .i64 1)
theorem F47_j2_ok (R : ER) (e : Env) : den Pg R (cd Try.f47 [1,1,1,0]) e (setN (kont Pg R Try.f47) (fun e => F47_j1 R (e 5))) = (F47_j2 R (e 2) (e 5)) := (den_join Pg R 0 (cd Try.f47 [1,1,1,0]) (cd Try.f47 [1,1,1,0,1]) e (setN (kont Pg R Try.f47) (fun e => F47_j1 R (e 5))) (fun e => F47_j3 R (e 2) (e 5) (e 6)) _ (by kernel_rfl) (fun e => F47_j3_ok R e) (by kernel_rfl))
def F47 (R : ER) (x0 x1 : Value) : WP :=
  bx 32 x0 fun v32 =>
  pv (faO 0 v32) fun v33 =>
  ld1 v33 fun v34 =>
  pv (lenS v34) fun v35 =>
  valV Pg R (Instr.makeSlice 22 v35 v35) fun v36 =>
  pv (ixS 1 v36 x1) fun v37 =>
  st1 v37 (.int .i64 1) fun _ =>
  F47_j2 R v32 v36
theorem F47_den (R : ER) (x0 x1 : Value) : den Pg R (cd Try.f47 []) (argsEnv [x0, x1]) (kont Pg R Try.f47) = F47 R x0 x1 :=
  have h : ∀ e, den Pg R (cd Try.f47 []) e (kont Pg R Try.f47) = F47 R (e 0) (e 1) := fun e => (den_join Pg R 3 (cd Try.f47 []) (cd Try.f47 [1,1,1,1]) e (kont Pg R Try.f47) (fun e => F47_j1 R (e 5)) _ (by kernel_rfl) (fun e => F47_j1_ok R e) (den_join Pg R 2 (pre 3 (cd Try.f47 [])) (cd Try.f47 [1,1,1,0]) e (setN (kont Pg R Try.f47) (fun e => F47_j1 R (e 5))) (fun e => F47_j2 R (e 2) (e 5)) _ (by kernel_rfl) (fun e => F47_j2_ok R e) (by kernel_rfl)))
  h _
theorem F47_calls {R : ER} {x0 x1 : Value} {w : World} (h : F47 R x0 x1 w) : Calls Pg 47 ⟨[x0, x1]⟩ w R :=
  calls_of_den Try.func47 (by kernel_rfl) (by kernel_rfl) (F47_den R x0 x1) h
/-! ### 48: orpimentref05_Graph_chain -/
def F48_j1 (R : ER) (x7 : Value) : WP :=
  R (.returned x7)
theorem F48_j1_ok (R : ER) (e : Env) : den Pg R (cd Try.f48 [1,1,1]) e (kont Pg R Try.f48) = (F48_j1 R (e 7)) := by kernel_rfl
def F48_j4 (R : ER) (k1 : V4) (x2 x3 x7 x8 : Value) : WP :=
  valV Pg R (Instr.buildSlice 22 1 ⟨[(0, x8)]⟩) fun v1 =>
  blt Pg R .append ⟨[22,22]⟩ 22 ⟨[false, false]⟩ ⟨[x7, v1]⟩ fun v2 =>
  k1 x8 x2 x3 v2
theorem F48_j4_ok (R : ER) (k1 : V4) (e : Env) : den Pg R (cd Try.f48 [1,1,0,0,0,1,0,1,1]) e (inB 1 (setN (inB 0 (setN (kont Pg R Try.f48) (fun e => F48_j1 R (e 7)))) (fun e => k1 (e 1) (e 2) (e 3) (e 7)))) = (F48_j4 R k1 (e 2) (e 3) (e 7) (e 8)) := by kernel_rfl
def F48_j8 (R : ER) (k1 : V4) (k2 : V6) (x1 x2 x3 x7 x8 x9 : Value) : WP :=
  pv (bin .add x9 (.int .i64 1)) fun v3 =>
  k2 x1 x2 x3 x7 x8 v3
theorem F48_j8_ok (R : ER) (k1 : V4) (k2 : V6) (e : Env) : den Pg R (cd Try.f48 [1,1,0,0,0,1,0,1,0,1,0,0,1,1]) e (setN (inB 2 (setN (inB 1 (setN (inB 0 (setN (kont Pg R Try.f48) (fun e => F48_j1 R (e 7)))) (fun e => k1 (e 1) (e 2) (e 3) (e 7)))) (fun e => F48_j4 R k1 (e 2) (e 3) (e 7) (e 8)))) (fun e => k2 (e 1) (e 2) (e 3) (e 7) (e 8) (e 9))) = (F48_j8 R k1 k2 (e 1) (e 2) (e 3) (e 7) (e 8) (e 9)) := by kernel_rfl
def F48_j9 (R : ER) (k1 : V4) (k2 : V6) (x1 x2 x3 x7 x8 x9 : Value) : WP :=
  drewV (
  pv (ixS 1 x2 x9) fun v4 =>
  ld1 v4 fun v5 =>
  pv (ixS 1 x2 x1) fun v6 =>
  ld1 v6 fun v7 =>
  pv (bin .sub v7 (.int .i64 1)) fun v8 =>
  pv (bin .eql v5 v8) fun v9 =>
  gd v9 true (pv (faO 1 x3)) fun v10 =>
  gd v9 true (ld1 v10) fun v11 =>
  gd v9 true (pv (some x1)) fun v12 =>
  gd v9 true (pv (some x9)) fun v13 =>
  gd v9 true (pv (bldO [.int .i64 0, .int .i64 0] [(0,1, v12), (1,1, v13)])) fun v14 =>
  mem fun w16 => gd v9 true (cal Pg noR 42 ⟨[v11, v14]⟩) fun v15 =>
  pv (pickO v9 v15 (.bool false)) fun v17 =>
  cnd v17 (
   F48_j8 R k1 k2 x1 x2 x3 x7 x9 x9) (
   F48_j8 R k1 k2 x1 x2 x3 x7 x8 x9))
theorem F48_j9_ok (R : ER) (k1 : V4) (k2 : V6) (e : Env) : den Pg R (cd Try.f48 [1,1,0,0,0,1,0,1,0,1,0,0,1,0]) e (setN (setN (inB 2 (setN (inB 1 (setN (inB 0 (setN (kont Pg R Try.f48) (fun e => F48_j1 R (e 7)))) (fun e => k1 (e 1) (e 2) (e 3) (e 7)))) (fun e => F48_j4 R k1 (e 2) (e 3) (e 7) (e 8)))) (fun e => k2 (e 1) (e 2) (e 3) (e 7) (e 8) (e 9))) (fun e => F48_j8 R k1 k2 (e 1) (e 2) (e 3) (e 7) (e 8) (e 9))) = (F48_j9 R k1 k2 (e 1) (e 2) (e 3) (e 7) (e 8) (e 9)) := (den_block Pg R (cd Try.f48 [1,1,0,0,0,1,0,1,0,1,0,0,1,0]) 3 (cd Try.f48 [1,1,0,0,0,1,0,1,0,1,0,0,1,0,0]) e (setN (setN (inB 2 (setN (inB 1 (setN (inB 0 (setN (kont Pg R Try.f48) (fun e => F48_j1 R (e 7)))) (fun e => k1 (e 1) (e 2) (e 3) (e 7)))) (fun e => F48_j4 R k1 (e 2) (e 3) (e 7) (e 8)))) (fun e => k2 (e 1) (e 2) (e 3) (e 7) (e 8) (e 9))) (fun e => F48_j8 R k1 k2 (e 1) (e 2) (e 3) (e 7) (e 8) (e 9))) _ (by kernel_rfl) (by kernel_rfl))
def F48_j7 (R : ER) (k1 : V4) (k2 : V6) (x1 x2 x3 x7 x8 x9 : Value) : WP :=
  F48_j9 R k1 k2 x1 x2 x3 x7 x8 x9
theorem F48_j7_ok (R : ER) (k1 : V4) (k2 : V6) (e : Env) : den Pg R (cd Try.f48 [1,1,0,0,0,1,0,1,0,1,0,0,1]) e (setN (inB 2 (setN (inB 1 (setN (inB 0 (setN (kont Pg R Try.f48) (fun e => F48_j1 R (e 7)))) (fun e => k1 (e 1) (e 2) (e 3) (e 7)))) (fun e => F48_j4 R k1 (e 2) (e 3) (e 7) (e 8)))) (fun e => k2 (e 1) (e 2) (e 3) (e 7) (e 8) (e 9))) = (F48_j7 R k1 k2 (e 1) (e 2) (e 3) (e 7) (e 8) (e 9)) := (den_join Pg R 0 (cd Try.f48 [1,1,0,0,0,1,0,1,0,1,0,0,1]) (cd Try.f48 [1,1,0,0,0,1,0,1,0,1,0,0,1,1]) e (setN (inB 2 (setN (inB 1 (setN (inB 0 (setN (kont Pg R Try.f48) (fun e => F48_j1 R (e 7)))) (fun e => k1 (e 1) (e 2) (e 3) (e 7)))) (fun e => F48_j4 R k1 (e 2) (e 3) (e 7) (e 8)))) (fun e => k2 (e 1) (e 2) (e 3) (e 7) (e 8) (e 9))) (fun e => F48_j8 R k1 k2 (e 1) (e 2) (e 3) (e 7) (e 8) (e 9)) _ (by kernel_rfl) (fun e => F48_j8_ok R k1 k2 e) (den_conv Pg R (pre 0 (cd Try.f48 [1,1,0,0,0,1,0,1,0,1,0,0,1])) (cd Try.f48 [1,1,0,0,0,1,0,1,0,1,0,0,1,0]) e (setN (setN (inB 2 (setN (inB 1 (setN (inB 0 (setN (kont Pg R Try.f48) (fun e => F48_j1 R (e 7)))) (fun e => k1 (e 1) (e 2) (e 3) (e 7)))) (fun e => F48_j4 R k1 (e 2) (e 3) (e 7) (e 8)))) (fun e => k2 (e 1) (e 2) (e 3) (e 7) (e 8) (e 9))) (fun e => F48_j8 R k1 k2 (e 1) (e 2) (e 3) (e 7) (e 8) (e 9))) _ (by kernel_rfl) (F48_j9_ok R k1 k2 e)))
def F48_b2 (R : ER) (k1 : V4) (k2 : V6) (x1 x2 x3 x7 x8 x9 : Value) : WP :=
  pv (faO 0 x3) fun v18 =>
  ld1 v18 fun v19 =>
  pv (lenS v19) fun v20 =>
  pv (bin .lss x9 v20) fun v21 =>
  gd v21 true (pv (some x8)) fun v22 =>
  gd v21 true (pv (bin .lss v22 (.int .i64 0))) fun v23 =>
  pv (pickO v21 v23 (.bool false)) fun v24 =>
  cnd v24 (
   F48_j7 R k1 k2 x1 x2 x3 x7 x8 x9) (
   F48_j4 R k1 x2 x3 x7 x8)
theorem F48_b2_ok (R : ER) (k1 : V4) (k2 : V6) (e : Env) : den Pg R (cd Try.f48 [1,1,0,0,0,1,0,1,0,1,0,0]) e (setN (inB 2 (setN (inB 1 (setN (inB 0 (setN (kont Pg R Try.f48) (fun e => F48_j1 R (e 7)))) (fun e => k1 (e 1) (e 2) (e 3) (e 7)))) (fun e => F48_j4 R k1 (e 2) (e 3) (e 7) (e 8)))) (fun e => k2 (e 1) (e 2) (e 3) (e 7) (e 8) (e 9))) = (F48_b2 R k1 k2 (e 1) (e 2) (e 3) (e 7) (e 8) (e 9)) := (den_join Pg R 0 (cd Try.f48 [1,1,0,0,0,1,0,1,0,1,0,0]) (cd Try.f48 [1,1,0,0,0,1,0,1,0,1,0,0,1]) e (setN (inB 2 (setN (inB 1 (setN (inB 0 (setN (kont Pg R Try.f48) (fun e => F48_j1 R (e 7)))) (fun e => k1 (e 1) (e 2) (e 3) (e 7)))) (fun e => F48_j4 R k1 (e 2) (e 3) (e 7) (e 8)))) (fun e => k2 (e 1) (e 2) (e 3) (e 7) (e 8) (e 9))) (fun e => F48_j7 R k1 k2 (e 1) (e 2) (e 3) (e 7) (e 8) (e 9)) _ (by kernel_rfl) (fun e => F48_j7_ok R k1 k2 e) (by kernel_rfl))
noncomputable def F48_l1 (R : ER) (k1 : V4) (n : Nat) : V6 := Nat.rec (motive := fun _ => V6) (fun _ _ _ _ _ _ => fun _ => False) (fun _ ih => fun x1 x2 x3 x7 x8 x9 => F48_b2 R k1 ih x1 x2 x3 x7 x8 x9) n
theorem F48_l1_succ (R : ER) (k1 : V4) (n : Nat) (x1 x2 x3 x7 x8 x9 : Value) : F48_l1 R k1 (n + 1) x1 x2 x3 x7 x8 x9 = F48_b2 R k1 (F48_l1 R k1 n) x1 x2 x3 x7 x8 x9 := rfl
theorem F48_l1_ok (R : ER) (k1 : V4) : ∀ (n : Nat) (e : Env), iterL (den Pg R (cd Try.f48 [1,1,0,0,0,1,0,1,0,1,0,0])) n e (inB 2 (setN (inB 1 (setN (inB 0 (setN (kont Pg R Try.f48) (fun e => F48_j1 R (e 7)))) (fun e => k1 (e 1) (e 2) (e 3) (e 7)))) (fun e => F48_j4 R k1 (e 2) (e 3) (e 7) (e 8)))) = F48_l1 R k1 n (e 1) (e 2) (e 3) (e 7) (e 8) (e 9) :=
  iterL_join (den Pg R (cd Try.f48 [1,1,0,0,0,1,0,1,0,1,0,0])) (inB 2 (setN (inB 1 (setN (inB 0 (setN (kont Pg R Try.f48) (fun e => F48_j1 R (e 7)))) (fun e => k1 (e 1) (e 2) (e 3) (e 7)))) (fun e => F48_j4 R k1 (e 2) (e 3) (e 7) (e 8)))) (fun n e => F48_l1 R k1 n (e 1) (e 2) (e 3) (e 7) (e 8) (e 9)) (fun _ => rfl) (fun n e => (F48_b2_ok R k1 (F48_l1 R k1 n) e).trans (F48_l1_succ R k1 n (e 1) (e 2) (e 3) (e 7) (e 8) (e 9)).symm)
def F48_j6 (R : ER) (k1 : V4) (x1 x2 x3 x7 x8 x9 : Value) : WP :=
  exN fun n => F48_l1 R k1 n x1 x2 x3 x7 x8 x9
theorem F48_j6_ok (R : ER) (k1 : V4) (e : Env) : den Pg R (cd Try.f48 [1,1,0,0,0,1,0,1,0,1]) e (setN (inB 1 (setN (inB 0 (setN (kont Pg R Try.f48) (fun e => F48_j1 R (e 7)))) (fun e => k1 (e 1) (e 2) (e 3) (e 7)))) (fun e => F48_j4 R k1 (e 2) (e 3) (e 7) (e 8))) = (F48_j6 R k1 (e 1) (e 2) (e 3) (e 7) (e 8) (e 9)) := (den_block Pg R (cd Try.f48 [1,1,0,0,0,1,0,1,0,1]) 2 (cd Try.f48 [1,1,0,0,0,1,0,1,0,1,0]) e (setN (inB 1 (setN (inB 0 (setN (kont Pg R Try.f48) (fun e => F48_j1 R (e 7)))) (fun e => k1 (e 1) (e 2) (e 3) (e 7)))) (fun e => F48_j4 R k1 (e 2) (e 3) (e 7) (e 8))) _ (by kernel_rfl) (den_loop Pg R (cd Try.f48 [1,1,0,0,0,1,0,1,0,1,0]) (cd Try.f48 [1,1,0,0,0,1,0,1,0,1,0,0]) e (inB 2 (setN (inB 1 (setN (inB 0 (setN (kont Pg R Try.f48) (fun e => F48_j1 R (e 7)))) (fun e => k1 (e 1) (e 2) (e 3) (e 7)))) (fun e => F48_j4 R k1 (e 2) (e 3) (e 7) (e 8)))) (fun n e => F48_l1 R k1 n (e 1) (e 2) (e 3) (e 7) (e 8) (e 9)) _ (by kernel_rfl) (F48_l1_ok R k1) (by kernel_rfl)))
def F48_j5 (R : ER) (k1 : V4) (x1 x2 x3 x7 x8 : Value) : WP :=
  F48_j6 R k1 x1 x2 x3 x7 x8 (.int .i64 0)
theorem F48_j5_ok (R : ER) (k1 : V4) (e : Env) : den Pg R (cd Try.f48 [1,1,0,0,0,1,0,1,0]) e (setN (inB 1 (setN (inB 0 (setN (kont Pg R Try.f48) (fun e => F48_j1 R (e 7)))) (fun e => k1 (e 1) (e 2) (e 3) (e 7)))) (fun e => F48_j4 R k1 (e 2) (e 3) (e 7) (e 8))) = (F48_j5 R k1 (e 1) (e 2) (e 3) (e 7) (e 8)) := (den_join Pg R 0 (cd Try.f48 [1,1,0,0,0,1,0,1,0]) (cd Try.f48 [1,1,0,0,0,1,0,1,0,1]) e (setN (inB 1 (setN (inB 0 (setN (kont Pg R Try.f48) (fun e => F48_j1 R (e 7)))) (fun e => k1 (e 1) (e 2) (e 3) (e 7)))) (fun e => F48_j4 R k1 (e 2) (e 3) (e 7) (e 8))) (fun e => F48_j6 R k1 (e 1) (e 2) (e 3) (e 7) (e 8) (e 9)) _ (by kernel_rfl) (fun e => F48_j6_ok R k1 e) (by kernel_rfl))
def F48_j3 (R : ER) (k1 : V4) (x1 x2 x3 x7 : Value) : WP :=
  F48_j5 R k1 x1 x2 x3 x7 (.int .i64 (-1))
theorem F48_j3_ok (R : ER) (k1 : V4) (e : Env) : den Pg R (cd Try.f48 [1,1,0,0,0,1]) e (setN (inB 0 (setN (kont Pg R Try.f48) (fun e => F48_j1 R (e 7)))) (fun e => k1 (e 1) (e 2) (e 3) (e 7))) = (F48_j3 R k1 (e 1) (e 2) (e 3) (e 7)) := (den_block Pg R (cd Try.f48 [1,1,0,0,0,1]) 1 (cd Try.f48 [1,1,0,0,0,1,0]) e (setN (inB 0 (setN (kont Pg R Try.f48) (fun e => F48_j1 R (e 7)))) (fun e => k1 (e 1) (e 2) (e 3) (e 7))) _ (by kernel_rfl) (den_join Pg R 1 (cd Try.f48 [1,1,0,0,0,1,0]) (cd Try.f48 [1,1,0,0,0,1,0,1,1]) e (inB 1 (setN (inB 0 (setN (kont Pg R Try.f48) (fun e => F48_j1 R (e 7)))) (fun e => k1 (e 1) (e 2) (e 3) (e 7)))) (fun e => F48_j4 R k1 (e 2) (e 3) (e 7) (e 8)) _ (by kernel_rfl) (fun e => F48_j4_ok R k1 e) (den_join Pg R 0 (pre 1 (cd Try.f48 [1,1,0,0,0,1,0])) (cd Try.f48 [1,1,0,0,0,1,0,1,0]) e (setN (inB 1 (setN (inB 0 (setN (kont Pg R Try.f48) (fun e => F48_j1 R (e 7)))) (fun e => k1 (e 1) (e 2) (e 3) (e 7)))) (fun e => F48_j4 R k1 (e 2) (e 3) (e 7) (e 8))) (fun e => F48_j5 R k1 (e 1) (e 2) (e 3) (e 7) (e 8)) _ (by kernel_rfl) (fun e => F48_j5_ok R k1 e) (by kernel_rfl))))
def F48_b1 (R : ER) (k1 : V4) (x1 x2 x3 x7 : Value) : WP :=
  pv (ixS 1 x2 x1) fun v25 =>
  ld1 v25 fun v26 =>
  pv (bin .gtr v26 (.int .i64 1)) fun v27 =>
  cnd v27 (
   F48_j3 R k1 x1 x2 x3 x7) (
   F48_j1 R x7)
theorem F48_b1_ok (R : ER) (k1 : V4) (e : Env) : den Pg R (cd Try.f48 [1,1,0,0,0]) e (setN (inB 0 (setN (kont Pg R Try.f48) (fun e => F48_j1 R (e 7)))) (fun e => k1 (e 1) (e 2) (e 3) (e 7))) = (F48_b1 R k1 (e 1) (e 2) (e 3) (e 7)) := (den_join Pg R 0 (cd Try.f48 [1,1,0,0,0]) (cd Try.f48 [1,1,0,0,0,1]) e (setN (inB 0 (setN (kont Pg R Try.f48) (fun e => F48_j1 R (e 7)))) (fun e => k1 (e 1) (e 2) (e 3) (e 7))) (fun e => F48_j3 R k1 (e 1) (e 2) (e 3) (e 7)) _ (by kernel_rfl) (fun e => F48_j3_ok R k1 e) (by kernel_rfl))
noncomputable def F48_l2 (R : ER) (n : Nat) : V4 := Nat.rec (motive := fun _ => V4) (fun _ _ _ _ => fun _ => False) (fun _ ih => fun x1 x2 x3 x7 => F48_b1 R ih x1 x2 x3 x7) n
theorem F48_l2_succ (R : ER) (n : Nat) (x1 x2 x3 x7 : Value) : F48_l2 R (n + 1) x1 x2 x3 x7 = F48_b1 R (F48_l2 R n) x1 x2 x3 x7 := rfl
theorem F48_l2_ok (R : ER) : ∀ (n : Nat) (e : Env), iterL (den Pg R (cd Try.f48 [1,1,0,0,0])) n e (inB 0 (setN (kont Pg R Try.f48) (fun e => F48_j1 R (e 7)))) = F48_l2 R n (e 1) (e 2) (e 3) (e 7) :=
  iterL_join (den Pg R (cd Try.f48 [1,1,0,0,0])) (inB 0 (setN (kont Pg R Try.f48) (fun e => F48_j1 R (e 7)))) (fun n e => F48_l2 R n (e 1) (e 2) (e 3) (e 7)) (fun _ => rfl) (fun n e => (F48_b1_ok R (F48_l2 R n) e).trans (F48_l2_succ R n (e 1) (e 2) (e 3) (e 7)).symm)
def F48_j2 (R : ER) (x1 x2 x3 x7 : Value) : WP :=
  exN fun n => F48_l2 R n x1 x2 x3 x7
theorem F48_j2_ok (R : ER) (e : Env) : den Pg R (cd Try.f48 [1,1,0]) e (setN (kont Pg R Try.f48) (fun e => F48_j1 R (e 7))) = (F48_j2 R (e 1) (e 2) (e 3) (e 7)) := (den_block Pg R (cd Try.f48 [1,1,0]) 0 (cd Try.f48 [1,1,0,0]) e (setN (kont Pg R Try.f48) (fun e => F48_j1 R (e 7))) _ (by kernel_rfl) (den_loop Pg R (cd Try.f48 [1,1,0,0]) (cd Try.f48 [1,1,0,0,0]) e (inB 0 (setN (kont Pg R Try.f48) (fun e => F48_j1 R (e 7)))) (fun n e => F48_l2 R n (e 1) (e 2) (e 3) (e 7)) _ (by kernel_rfl) (F48_l2_ok R) (by kernel_rfl)))
def F48 (R : ER) (x0 x1 x2 : Value) : WP :=
  bx 32 x0 fun v28 =>
  valV Pg R (Instr.buildSlice 22 1 ⟨[(0, x1)]⟩) fun v29 =>
  F48_j2 R x1 x2 v28 v29
theorem F48_den (R : ER) (x0 x1 x2 : Value) : den Pg R (cd Try.f48 []) (argsEnv [x0, x1, x2]) (kont Pg R Try.f48) = F48 R x0 x1 x2 :=
  have h : ∀ e, den Pg R (cd Try.f48 []) e (kont Pg R Try.f48) = F48 R (e 0) (e 1) (e 2) := fun e => (den_join Pg R 2 (cd Try.f48 []) (cd Try.f48 [1,1,1]) e (kont Pg R Try.f48) (fun e => F48_j1 R (e 7)) _ (by kernel_rfl) (fun e => F48_j1_ok R e) (den_join Pg R 1 (pre 2 (cd Try.f48 [])) (cd Try.f48 [1,1,0]) e (setN (kont Pg R Try.f48) (fun e => F48_j1 R (e 7))) (fun e => F48_j2 R (e 1) (e 2) (e 3) (e 7)) _ (by kernel_rfl) (fun e => F48_j2_ok R e) (by kernel_rfl)))
  h _
theorem F48_calls {R : ER} {x0 x1 x2 : Value} {w : World} (h : F48 R x0 x1 x2 w) : Calls Pg 48 ⟨[x0, x1, x2]⟩ w R :=
  calls_of_den Try.func48 (by kernel_rfl) (by kernel_rfl) (F48_den R x0 x1 x2) h
/-! ### 49: inherit_Tracker_graph -/
def F49_j1 (R : ER) (x2 x3 : Value) : WP :=
  pv (faO 1 x3) fun v1 =>
  ld1 v1 fun v2 =>
  cal Pg R 65 ⟨[v2, (.func (.func 64) ⟨[]⟩ ⟨[]⟩)]⟩ fun v3 =>
  ldN 2 x3 fun v4 =>
  stN 2 x2 v4 fun _ =>
  ldN 2 x2 fun v5 => R (.returned v5)
theorem F49_j1_ok (R : ER) (e : Env) : den Pg R (cd Try.f49 [1,1,1]) e (kont Pg R Try.f49) = (F49_j1 R (e 2) (e 3)) := by kernel_rfl
def F49_j4 (R : ER) (k1 : V3) (x2 x3 x14 : Value) : WP :=
  valV Pg R (Instr.entry x14) fun v6 =>
  pv (extO 0 v6) fun v7 =>
  al Pg 39 fun v8 =>
  stN 2 v8 v7 fun _ =>
  pv (faO 1 x3) fun v9 =>
  ld1 v9 fun v10 =>
  ldN 2 v8 fun v11 =>
  valV Pg R (Instr.buildSlice 23 1 ⟨[(0, v11)]⟩) fun v12 =>
  blt Pg R .append ⟨[23,23]⟩ 23 ⟨[false, false]⟩ ⟨[v10, v12]⟩ fun v13 =>
  pv (faO 1 x3) fun v14 =>
  st1 v14 v13 fun _ =>
  k1 x2 x3 x14
theorem F49_j4_ok (R : ER) (k1 : V3) (e : Env) : den Pg R (cd Try.f49 [1,1,0,1,0,0,1,1]) e (setN (inB 0 (setN (kont Pg R Try.f49) (fun e => F49_j1 R (e 2) (e 3)))) (fun e => k1 (e 2) (e 3) (e 14))) = (F49_j4 R k1 (e 2) (e 3) (e 14)) := by kernel_rfl
def F49_b1 (R : ER) (k1 : V3) (x2 x3 x14 : Value) : WP :=
  valV Pg R (Instr.next x14 false 0) fun v15 =>
  pv (extO 0 v15) fun v16 =>
  cnd v16 (
   F49_j4 R k1 x2 x3 x14) (
   F49_j1 R x2 x3)
theorem F49_b1_ok (R : ER) (k1 : V3) (e : Env) : den Pg R (cd Try.f49 [1,1,0,1,0,0]) e (setN (inB 0 (setN (kont Pg R Try.f49) (fun e => F49_j1 R (e 2) (e 3)))) (fun e => k1 (e 2) (e 3) (e 14))) = (F49_b1 R k1 (e 2) (e 3) (e 14)) := (den_join Pg R 1 (cd Try.f49 [1,1,0,1,0,0]) (cd Try.f49 [1,1,0,1,0,0,1,1]) e (setN (inB 0 (setN (kont Pg R Try.f49) (fun e => F49_j1 R (e 2) (e 3)))) (fun e => k1 (e 2) (e 3) (e 14))) (fun e => F49_j4 R k1 (e 2) (e 3) (e 14)) _ (by kernel_rfl) (fun e => F49_j4_ok R k1 e) (by kernel_rfl))
noncomputable def F49_l1 (R : ER) (n : Nat) : V3 := Nat.rec (motive := fun _ => V3) (fun _ _ _ => fun _ => False) (fun _ ih => fun x2 x3 x14 => F49_b1 R ih x2 x3 x14) n
theorem F49_l1_succ (R : ER) (n : Nat) (x2 x3 x14 : Value) : F49_l1 R (n + 1) x2 x3 x14 = F49_b1 R (F49_l1 R n) x2 x3 x14 := rfl
theorem F49_l1_ok (R : ER) : ∀ (n : Nat) (e : Env), iterL (den Pg R (cd Try.f49 [1,1,0,1,0,0])) n e (inB 0 (setN (kont Pg R Try.f49) (fun e => F49_j1 R (e 2) (e 3)))) = F49_l1 R n (e 2) (e 3) (e 14) :=
  iterL_join (den Pg R (cd Try.f49 [1,1,0,1,0,0])) (inB 0 (setN (kont Pg R Try.f49) (fun e => F49_j1 R (e 2) (e 3)))) (fun n e => F49_l1 R n (e 2) (e 3) (e 14)) (fun _ => rfl) (fun n e => (F49_b1_ok R (F49_l1 R n) e).trans (F49_l1_succ R n (e 2) (e 3) (e 14)).symm)
def F49_j3 (R : ER) (x2 x3 x14 : Value) : WP :=
  exN fun n => F49_l1 R n x2 x3 x14
theorem F49_j3_ok (R : ER) (e : Env) : den Pg R (cd Try.f49 [1,1,0,1]) e (setN (kont Pg R Try.f49) (fun e => F49_j1 R (e 2) (e 3))) = (F49_j3 R (e 2) (e 3) (e 14)) := (den_block Pg R (cd Try.f49 [1,1,0,1]) 0 (cd Try.f49 [1,1,0,1,0]) e (setN (kont Pg R Try.f49) (fun e => F49_j1 R (e 2) (e 3))) _ (by kernel_rfl) (den_loop Pg R (cd Try.f49 [1,1,0,1,0]) (cd Try.f49 [1,1,0,1,0,0]) e (inB 0 (setN (kont Pg R Try.f49) (fun e => F49_j1 R (e 2) (e 3)))) (fun n e => F49_l1 R n (e 2) (e 3) (e 14)) _ (by kernel_rfl) (F49_l1_ok R) (by kernel_rfl)))
def F49_j2 (R : ER) (x0 x2 x3 : Value) : WP :=
  pv (nilO x0) fun v17 =>
  pv (faO 1 v17) fun v18 =>
  ld1 v18 fun v19 =>
  valV Pg R (Instr.range 72 v19) fun v20 =>
  F49_j3 R x2 x3 v20
theorem F49_j2_ok (R : ER) (e : Env) : den Pg R (cd Try.f49 [1,1,0]) e (setN (kont Pg R Try.f49) (fun e => F49_j1 R (e 2) (e 3))) = (F49_j2 R (e 0) (e 2) (e 3)) := (den_join Pg R 0 (cd Try.f49 [1,1,0]) (cd Try.f49 [1,1,0,1]) e (setN (kont Pg R Try.f49) (fun e => F49_j1 R (e 2) (e 3))) (fun e => F49_j3 R (e 2) (e 3) (e 14)) _ (by kernel_rfl) (fun e => F49_j3_ok R e) (by kernel_rfl))
def F49 (R : ER) (x0 : Value) : WP :=
  al Pg 25 fun v21 =>
  pv (nilO x0) fun v22 =>
  pv (faO 0 v22) fun v23 =>
  ld1 v23 fun v24 =>
  pv (bldO [.slice none 0 0, .slice none 0 0] [(0,1, v24)]) fun v25 =>
  al Pg 25 fun v26 =>
  stN 2 v26 v25 fun _ =>
  F49_j2 R x0 v21 v26
theorem F49_den (R : ER) (x0 : Value) : den Pg R (cd Try.f49 []) (argsEnv [x0]) (kont Pg R Try.f49) = F49 R x0 :=
  have h : ∀ e, den Pg R (cd Try.f49 []) e (kont Pg R Try.f49) = F49 R (e 0) := fun e => (den_join Pg R 2 (cd Try.f49 []) (cd Try.f49 [1,1,1]) e (kont Pg R Try.f49) (fun e => F49_j1 R (e 2) (e 3)) _ (by kernel_rfl) (fun e => F49_j1_ok R e) (den_join Pg R 1 (pre 2 (cd Try.f49 [])) (cd Try.f49 [1,1,0]) e (setN (kont Pg R Try.f49) (fun e => F49_j1 R (e 2) (e 3))) (fun e => F49_j2 R (e 0) (e 2) (e 3)) _ (by kernel_rfl) (fun e => F49_j2_ok R e) (by kernel_rfl)))
  h _
theorem F49_calls {R : ER} {x0 : Value} {w : World} (h : F49 R x0 w) : Calls Pg 49 ⟨[x0]⟩ w R :=
  calls_of_den Try.func49 (by kernel_rfl) (by kernel_rfl) (F49_den R x0) h
/-! ### 50: slices_Clone -/
def F50 (R : ER) (x0 : Value) : WP :=
  pv (eqNilS x0) fun v1 =>
  cnd v1 (
   R (.returned (.slice none 0 0))) (
   valV Pg R (Instr.buildSlice 22 0 ⟨[]⟩) fun v2 =>
  blt Pg R .append ⟨[22,22]⟩ 22 ⟨[false, false]⟩ ⟨[v2, x0]⟩ fun v3 =>
  R (.returned v3))
theorem F50_den (R : ER) (x0 : Value) : den Pg R (cd Try.f50 []) (argsEnv [x0]) (kont Pg R Try.f50) = F50 R x0 :=
  have h : ∀ e, den Pg R (cd Try.f50 []) e (kont Pg R Try.f50) = F50 R (e 0) := fun e => by kernel_rfl
  h _
theorem F50_calls {R : ER} {x0 : Value} {w : World} (h : F50 R x0 w) : Calls Pg 50 ⟨[x0]⟩ w R :=
  calls_of_den Try.func50 (by kernel_rfl) (by kernel_rfl) (F50_den R x0) h
/-! ### 51: orpimentref05_Tracker_Remove -/
def F51_j4 (R : ER) (x0 x6 : Value) : WP :=
  pv (nilO x0) fun v1 =>
  pv (faO 0 v1) fun v2 =>
  pv (faO 0 v2) fun v3 =>
  ld1 v3 fun v4 =>
  pv (bldO [.slice none 0 0, .slice none 0 0] [(0,1, v4), (1,1, x6)]) fun v5 =>
  cal Pg R 66 ⟨[x0, v5]⟩ fun v6 =>
  R (.returned (.tuple ⟨[v6, (.int .i64 0)]⟩))
theorem F51_j4_ok (R : ER) (e : Env) : den Pg R (cd Try.f51 [1,1,1,1,1,1]) e (kont Pg R Try.f51) = (F51_j4 R (e 0) (e 6)) := by kernel_rfl
def F51_j8 (R : ER) (k1 : V4) (x0 x3 x6 x7 : Value) : WP :=
  pv (bin .add x7 (.int .i64 1)) fun v7 =>
  k1 x0 x3 x6 v7
theorem F51_j8_ok (R : ER) (k1 : V4) (e : Env) : den Pg R (cd Try.f51 [1,1,1,1,1,0,1,0,0,1,1]) e (setN (inB 0 (setN (kont Pg R Try.f51) (fun e => F51_j4 R (e 0) (e 6)))) (fun e => k1 (e 0) (e 3) (e 6) (e 7))) = (F51_j8 R k1 (e 0) (e 3) (e 6) (e 7)) := by kernel_rfl
def F51_j9 (R : ER) (k1 : V4) (x0 x3 x6 x7 : Value) : WP :=
  drewV (
  pv (nilO x0) fun v8 =>
  pv (faO 0 v8) fun v9 =>
  pv (faO 1 v9) fun v10 =>
  ld1 v10 fun v11 =>
  pv (ixS 2 v11 x7) fun v12 =>
  ldN 2 v12 fun v13 =>
  ldN 2 x3 fun v14 =>
  pv (neAgg [0,0] v13 v14) fun v15 =>
  cnd v15 (
   pv (nilO x0) fun v16 =>
   pv (faO 0 v16) fun v17 =>
   pv (faO 1 v17) fun v18 =>
   ld1 v18 fun v19 =>
   pv (ixS 2 v19 x7) fun v20 =>
   ldN 2 v20 fun v21 =>
   valV Pg R (Instr.buildSlice 23 1 ⟨[(0, v21)]⟩) fun v22 =>
   blt Pg R .append ⟨[23,23]⟩ 23 ⟨[false, false]⟩ ⟨[x6, v22]⟩ fun v23 =>
   F51_j8 R k1 x0 x3 v23 x7) (
   F51_j8 R k1 x0 x3 x6 x7))
theorem F51_j9_ok (R : ER) (k1 : V4) (e : Env) : den Pg R (cd Try.f51 [1,1,1,1,1,0,1,0,0,1,0]) e (setN (setN (inB 0 (setN (kont Pg R Try.f51) (fun e => F51_j4 R (e 0) (e 6)))) (fun e => k1 (e 0) (e 3) (e 6) (e 7))) (fun e => F51_j8 R k1 (e 0) (e 3) (e 6) (e 7))) = (F51_j9 R k1 (e 0) (e 3) (e 6) (e 7)) := (den_block Pg R (cd Try.f51 [1,1,1,1,1,0,1,0,0,1,0]) 1 (cd Try.f51 [1,1,1,1,1,0,1,0,0,1,0,0]) e (setN (setN (inB 0 (setN (kont Pg R Try.f51) (fun e => F51_j4 R (e 0) (e 6)))) (fun e => k1 (e 0) (e 3) (e 6) (e 7))) (fun e => F51_j8 R k1 (e 0) (e 3) (e 6) (e 7))) _ (by kernel_rfl) (by kernel_rfl))
def F51_j7 (R : ER) (k1 : V4) (x0 x3 x6 x7 : Value) : WP :=
  F51_j9 R k1 x0 x3 x6 x7
theorem F51_j7_ok (R : ER) (k1 : V4) (e : Env) : den Pg R (cd Try.f51 [1,1,1,1,1,0,1,0,0,1]) e (setN (inB 0 (setN (kont Pg R Try.f51) (fun e => F51_j4 R (e 0) (e 6)))) (fun e => k1 (e 0) (e 3) (e 6) (e 7))) = (F51_j7 R k1 (e 0) (e 3) (e 6) (e 7)) := (den_join Pg R 0 (cd Try.f51 [1,1,1,1,1,0,1,0,0,1]) (cd Try.f51 [1,1,1,1,1,0,1,0,0,1,1]) e (setN (inB 0 (setN (kont Pg R Try.f51) (fun e => F51_j4 R (e 0) (e 6)))) (fun e => k1 (e 0) (e 3) (e 6) (e 7))) (fun e => F51_j8 R k1 (e 0) (e 3) (e 6) (e 7)) _ (by kernel_rfl) (fun e => F51_j8_ok R k1 e) (den_conv Pg R (pre 0 (cd Try.f51 [1,1,1,1,1,0,1,0,0,1])) (cd Try.f51 [1,1,1,1,1,0,1,0,0,1,0]) e (setN (setN (inB 0 (setN (kont Pg R Try.f51) (fun e => F51_j4 R (e 0) (e 6)))) (fun e => k1 (e 0) (e 3) (e 6) (e 7))) (fun e => F51_j8 R k1 (e 0) (e 3) (e 6) (e 7))) _ (by kernel_rfl) (F51_j9_ok R k1 e)))
def F51_b1 (R : ER) (k1 : V4) (x0 x3 x6 x7 : Value) : WP :=
  pv (nilO x0) fun v24 =>
  pv (faO 0 v24) fun v25 =>
  pv (faO 1 v25) fun v26 =>
  ld1 v26 fun v27 =>
  pv (lenS v27) fun v28 =>
  pv (bin .lss x7 v28) fun v29 =>
  cnd v29 (
   F51_j7 R k1 x0 x3 x6 x7) (
   F51_j4 R x0 x6)
theorem F51_b1_ok (R : ER) (k1 : V4) (e : Env) : den Pg R (cd Try.f51 [1,1,1,1,1,0,1,0,0]) e (setN (inB 0 (setN (kont Pg R Try.f51) (fun e => F51_j4 R (e 0) (e 6)))) (fun e => k1 (e 0) (e 3) (e 6) (e 7))) = (F51_b1 R k1 (e 0) (e 3) (e 6) (e 7)) := (den_join Pg R 0 (cd Try.f51 [1,1,1,1,1,0,1,0,0]) (cd Try.f51 [1,1,1,1,1,0,1,0,0,1]) e (setN (inB 0 (setN (kont Pg R Try.f51) (fun e => F51_j4 R (e 0) (e 6)))) (fun e => k1 (e 0) (e 3) (e 6) (e 7))) (fun e => F51_j7 R k1 (e 0) (e 3) (e 6) (e 7)) _ (by kernel_rfl) (fun e => F51_j7_ok R k1 e) (by kernel_rfl))
noncomputable def F51_l1 (R : ER) (n : Nat) : V4 := Nat.rec (motive := fun _ => V4) (fun _ _ _ _ => fun _ => False) (fun _ ih => fun x0 x3 x6 x7 => F51_b1 R ih x0 x3 x6 x7) n
theorem F51_l1_succ (R : ER) (n : Nat) (x0 x3 x6 x7 : Value) : F51_l1 R (n + 1) x0 x3 x6 x7 = F51_b1 R (F51_l1 R n) x0 x3 x6 x7 := rfl
theorem F51_l1_ok (R : ER) : ∀ (n : Nat) (e : Env), iterL (den Pg R (cd Try.f51 [1,1,1,1,1,0,1,0,0])) n e (inB 0 (setN (kont Pg R Try.f51) (fun e => F51_j4 R (e 0) (e 6)))) = F51_l1 R n (e 0) (e 3) (e 6) (e 7) :=
  iterL_join (den Pg R (cd Try.f51 [1,1,1,1,1,0,1,0,0])) (inB 0 (setN (kont Pg R Try.f51) (fun e => F51_j4 R (e 0) (e 6)))) (fun n e => F51_l1 R n (e 0) (e 3) (e 6) (e 7)) (fun _ => rfl) (fun n e => (F51_b1_ok R (F51_l1 R n) e).trans (F51_l1_succ R n (e 0) (e 3) (e 6) (e 7)).symm)
def F51_j6 (R : ER) (x0 x3 x6 x7 : Value) : WP :=
  exN fun n => F51_l1 R n x0 x3 x6 x7
theorem F51_j6_ok (R : ER) (e : Env) : den Pg R (cd Try.f51 [1,1,1,1,1,0,1]) e (setN (kont Pg R Try.f51) (fun e => F51_j4 R (e 0) (e 6))) = (F51_j6 R (e 0) (e 3) (e 6) (e 7)) := (den_block Pg R (cd Try.f51 [1,1,1,1,1,0,1]) 0 (cd Try.f51 [1,1,1,1,1,0,1,0]) e (setN (kont Pg R Try.f51) (fun e => F51_j4 R (e 0) (e 6))) _ (by kernel_rfl) (den_loop Pg R (cd Try.f51 [1,1,1,1,1,0,1,0]) (cd Try.f51 [1,1,1,1,1,0,1,0,0]) e (inB 0 (setN (kont Pg R Try.f51) (fun e => F51_j4 R (e 0) (e 6)))) (fun n e => F51_l1 R n (e 0) (e 3) (e 6) (e 7)) _ (by kernel_rfl) (F51_l1_ok R) (by kernel_rfl)))
def F51_j5 (R : ER) (x0 x3 x6 : Value) : WP :=
  F51_j6 R x0 x3 x6 (.int .i64 0)
theorem F51_j5_ok (R : ER) (e : Env) : den Pg R (cd Try.f51 [1,1,1,1,1,0]) e (setN (kont Pg R Try.f51) (fun e => F51_j4 R (e 0) (e 6))) = (F51_j5 R (e 0) (e 3) (e 6)) := (den_join Pg R 0 (cd Try.f51 [1,1,1,1,1,0]) (cd Try.f51 [1,1,1,1,1,0,1]) e (setN (kont Pg R Try.f51) (fun e => F51_j4 R (e 0) (e 6))) (fun e => F51_j6 R (e 0) (e 3) (e 6) (e 7)) _ (by kernel_rfl) (fun e => F51_j6_ok R e) (by kernel_rfl))
def F51_j3 (R : ER) (x0 x3 : Value) : WP :=
  F51_j5 R x0 x3 (.slice none 0 0)
theorem F51_j3_ok (R : ER) (e : Env) : den Pg R (cd Try.f51 [1,1,1,1]) e (kont Pg R Try.f51) = (F51_j3 R (e 0) (e 3)) := (den_join Pg R 1 (cd Try.f51 [1,1,1,1]) (cd Try.f51 [1,1,1,1,1,1]) e (kont Pg R Try.f51) (fun e => F51_j4 R (e 0) (e 6)) _ (by kernel_rfl) (fun e => F51_j4_ok R e) (den_join Pg R 0 (pre 1 (cd Try.f51 [1,1,1,1])) (cd Try.f51 [1,1,1,1,1,0]) e (setN (kont Pg R Try.f51) (fun e => F51_j4 R (e 0) (e 6))) (fun e => F51_j5 R (e 0) (e 3) (e 6)) _ (by kernel_rfl) (fun e => F51_j5_ok R e) (by kernel_rfl)))
def F51_j2 (R : ER) (x0 x3 : Value) : WP :=
  drewV (
  pv (nilO x0) fun v30 =>
  pv (faO 0 v30) fun v31 =>
  pv (faO 1 v31) fun v32 =>
  ld1 v32 fun v33 =>
  ldN 2 x3 fun v34 =>
  mem fun w36 => cal Pg noR 42 ⟨[v33, v34]⟩ fun v35 =>
  pv (unO .not v35) fun v37 =>
  cnd v37 (
   R (.returned (.tuple ⟨[(.slice none 0 0), (.int .i64 22)]⟩))) (
   F51_j3 R x0 x3))
theorem F51_j2_ok (R : ER) (e : Env) : den Pg R (cd Try.f51 [1,1,1]) e (kont Pg R Try.f51) = (F51_j2 R (e 0) (e 3)) := (den_join Pg R 0 (cd Try.f51 [1,1,1]) (cd Try.f51 [1,1,1,1]) e (kont Pg R Try.f51) (fun e => F51_j3 R (e 0) (e 3)) _ (by kernel_rfl) (fun e => F51_j3_ok R e) (by kernel_rfl))
def F51_j10 (R : ER) (x0 x3 : Value) : WP :=
  drewV (
  pv (nilO x0) fun v38 =>
  pv (faO 0 v38) fun v39 =>
  ldN 2 v39 fun v40 =>
  pv (faO 0 x3) fun v41 =>
  ld1 v41 fun v42 =>
  mem fun w44 => cal Pg noR 41 ⟨[v40, v42]⟩ fun v43 =>
  pv (unO .not v43) fun v45 =>
  gd v45 false (pv (some x0)) fun v46 =>
  gd v45 false (pv (nilO v46)) fun v47 =>
  gd v45 false (pv (faO 0 v47)) fun v48 =>
  gd v45 false (ldN 2 v48) fun v49 =>
  gd v45 false (pv (faO 1 x3)) fun v50 =>
  gd v45 false (ld1 v50) fun v51 =>
  mem fun w53 => gd v45 false (cal Pg noR 41 ⟨[v49, v51]⟩) fun v52 =>
  gd v45 false (pv (unO .not v52)) fun v54 =>
  pv (pickO v45 (.bool true) v54) fun v55 =>
  cnd v55 (
   R (.returned (.tuple ⟨[(.slice none 0 0), (.int .i64 34)]⟩))) (
   F51_j2 R x0 x3))
theorem F51_j10_ok (R : ER) (e : Env) : den Pg R (cd Try.f51 [1,1,0]) e (setN (kont Pg R Try.f51) (fun e => F51_j2 R (e 0) (e 3))) = (F51_j10 R (e 0) (e 3)) := (by kernel_rfl)
def F51_j1 (R : ER) (x0 x3 : Value) : WP :=
  F51_j10 R x0 x3
theorem F51_j1_ok (R : ER) (e : Env) : den Pg R (cd Try.f51 [1,1]) e (kont Pg R Try.f51) = (F51_j1 R (e 0) (e 3)) := (den_join Pg R 0 (cd Try.f51 [1,1]) (cd Try.f51 [1,1,1]) e (kont Pg R Try.f51) (fun e => F51_j2 R (e 0) (e 3)) _ (by kernel_rfl) (fun e => F51_j2_ok R e) (den_conv Pg R (pre 0 (cd Try.f51 [1,1])) (cd Try.f51 [1,1,0]) e (setN (kont Pg R Try.f51) (fun e => F51_j2 R (e 0) (e 3))) _ (by kernel_rfl) (F51_j10_ok R e)))
def F51 (R : ER) (x0 x1 : Value) : WP :=
  bx 39 x1 fun v56 =>
  pv (eqNilP x0) fun v57 =>
  cnd v57 (
   R (.returned (.tuple ⟨[(.slice none 0 0), (.int .i64 35)]⟩))) (
   F51_j1 R x0 v56)
theorem F51_den (R : ER) (x0 x1 : Value) : den Pg R (cd Try.f51 []) (argsEnv [x0, x1]) (kont Pg R Try.f51) = F51 R x0 x1 :=
  have h : ∀ e, den Pg R (cd Try.f51 []) e (kont Pg R Try.f51) = F51 R (e 0) (e 1) := fun e => (den_join Pg R 1 (cd Try.f51 []) (cd Try.f51 [1,1]) e (kont Pg R Try.f51) (fun e => F51_j1 R (e 0) (e 3)) _ (by kernel_rfl) (fun e => F51_j1_ok R e) (by kernel_rfl))
  h _
theorem F51_calls {R : ER} {x0 x1 : Value} {w : World} (h : F51 R x0 x1 w) : Calls Pg 51 ⟨[x0, x1]⟩ w R :=
  calls_of_den Try.func51 (by kernel_rfl) (by kernel_rfl) (F51_den R x0 x1) h
/-! ### 52: orpimentlaw05_changes -/
def F52_j2 (R : ER) : WP :=
  R (.returned (.bool true))
theorem F52_j2_ok (R : ER) (e : Env) : den Pg R (cd Try.f52 [1,1,1]) e (kont Pg R Try.f52) = (F52_j2 R) := by kernel_rfl
def F52_j5 (R : ER) (k1 : V3) (x0 x1 x5 : Value) : WP :=
  drewV (
  pv (ixS 2 x0 x5) fun v1 =>
  pv (faO 0 v1) fun v2 =>
  ld1 v2 fun v3 =>
  pv (ixS 2 x1 x5) fun v4 =>
  pv (faO 0 v4) fun v5 =>
  ld1 v5 fun v6 =>
  pv (bin .neq v3 v6) fun v7 =>
  gd v7 false (pv (some x0)) fun v8 =>
  gd v7 false (pv (some x5)) fun v9 =>
  gd v7 false (pv (ixS 2 v8 v9)) fun v10 =>
  gd v7 false (pv (faO 1 v10)) fun v11 =>
  gd v7 false (ld1 v11) fun v12 =>
  gd v7 false (pv (some x1)) fun v13 =>
  gd v7 false (pv (some x5)) fun v14 =>
  gd v7 false (pv (ixS 2 v13 v14)) fun v15 =>
  gd v7 false (pv (faO 1 v15)) fun v16 =>
  gd v7 false (ld1 v16) fun v17 =>
  gd v7 false (pv (bin .neq v12 v17)) fun v18 =>
  pv (pickO v7 (.bool true) v18) fun v19 =>
  cnd v19 (
   R (.returned (.bool false))) (
   pv (bin .add x5 (.int .i64 1)) fun v20 =>
  k1 x0 x1 v20))
theorem F52_j5_ok (R : ER) (k1 : V3) (e : Env) : den Pg R (cd Try.f52 [1,1,0,1,0,0,1]) e (setN (inB 0 (setN (kont Pg R Try.f52) (fun e => F52_j2 R))) (fun e => k1 (e 0) (e 1) (e 5))) = (F52_j5 R k1 (e 0) (e 1) (e 5)) := (by kernel_rfl)
def F52_b1 (R : ER) (k1 : V3) (x0 x1 x5 : Value) : WP :=
  pv (lenS x0) fun v21 =>
  pv (bin .lss x5 v21) fun v22 =>
  cnd v22 (
   F52_j5 R k1 x0 x1 x5) (
   F52_j2 R)
theorem F52_b1_ok (R : ER) (k1 : V3) (e : Env) : den Pg R (cd Try.f52 [1,1,0,1,0,0]) e (setN (inB 0 (setN (kont Pg R Try.f52) (fun e => F52_j2 R))) (fun e => k1 (e 0) (e 1) (e 5))) = (F52_b1 R k1 (e 0) (e 1) (e 5)) := (den_join Pg R 0 (cd Try.f52 [1,1,0,1,0,0]) (cd Try.f52 [1,1,0,1,0,0,1]) e (setN (inB 0 (setN (kont Pg R Try.f52) (fun e => F52_j2 R))) (fun e => k1 (e 0) (e 1) (e 5))) (fun e => F52_j5 R k1 (e 0) (e 1) (e 5)) _ (by kernel_rfl) (fun e => F52_j5_ok R k1 e) (by kernel_rfl))
noncomputable def F52_l1 (R : ER) (n : Nat) : V3 := Nat.rec (motive := fun _ => V3) (fun _ _ _ => fun _ => False) (fun _ ih => fun x0 x1 x5 => F52_b1 R ih x0 x1 x5) n
theorem F52_l1_succ (R : ER) (n : Nat) (x0 x1 x5 : Value) : F52_l1 R (n + 1) x0 x1 x5 = F52_b1 R (F52_l1 R n) x0 x1 x5 := rfl
theorem F52_l1_ok (R : ER) : ∀ (n : Nat) (e : Env), iterL (den Pg R (cd Try.f52 [1,1,0,1,0,0])) n e (inB 0 (setN (kont Pg R Try.f52) (fun e => F52_j2 R))) = F52_l1 R n (e 0) (e 1) (e 5) :=
  iterL_join (den Pg R (cd Try.f52 [1,1,0,1,0,0])) (inB 0 (setN (kont Pg R Try.f52) (fun e => F52_j2 R))) (fun n e => F52_l1 R n (e 0) (e 1) (e 5)) (fun _ => rfl) (fun n e => (F52_b1_ok R (F52_l1 R n) e).trans (F52_l1_succ R n (e 0) (e 1) (e 5)).symm)
def F52_j4 (R : ER) (x0 x1 x5 : Value) : WP :=
  exN fun n => F52_l1 R n x0 x1 x5
theorem F52_j4_ok (R : ER) (e : Env) : den Pg R (cd Try.f52 [1,1,0,1]) e (setN (kont Pg R Try.f52) (fun e => F52_j2 R)) = (F52_j4 R (e 0) (e 1) (e 5)) := (den_block Pg R (cd Try.f52 [1,1,0,1]) 0 (cd Try.f52 [1,1,0,1,0]) e (setN (kont Pg R Try.f52) (fun e => F52_j2 R)) _ (by kernel_rfl) (den_loop Pg R (cd Try.f52 [1,1,0,1,0]) (cd Try.f52 [1,1,0,1,0,0]) e (inB 0 (setN (kont Pg R Try.f52) (fun e => F52_j2 R))) (fun n e => F52_l1 R n (e 0) (e 1) (e 5)) _ (by kernel_rfl) (F52_l1_ok R) (by kernel_rfl)))
def F52_j3 (R : ER) (x0 x1 : Value) : WP :=
  F52_j4 R x0 x1 (.int .i64 0)
theorem F52_j3_ok (R : ER) (e : Env) : den Pg R (cd Try.f52 [1,1,0]) e (setN (kont Pg R Try.f52) (fun e => F52_j2 R)) = (F52_j3 R (e 0) (e 1)) := (den_join Pg R 0 (cd Try.f52 [1,1,0]) (cd Try.f52 [1,1,0,1]) e (setN (kont Pg R Try.f52) (fun e => F52_j2 R)) (fun e => F52_j4 R (e 0) (e 1) (e 5)) _ (by kernel_rfl) (fun e => F52_j4_ok R e) (by kernel_rfl))
def F52_j1 (R : ER) (x0 x1 : Value) : WP :=
  F52_j3 R x0 x1
theorem F52_j1_ok (R : ER) (e : Env) : den Pg R (cd Try.f52 [1,1]) e (kont Pg R Try.f52) = (F52_j1 R (e 0) (e 1)) := (den_join Pg R 0 (cd Try.f52 [1,1]) (cd Try.f52 [1,1,1]) e (kont Pg R Try.f52) (fun e => F52_j2 R) _ (by kernel_rfl) (fun e => F52_j2_ok R e) (den_conv Pg R (pre 0 (cd Try.f52 [1,1])) (cd Try.f52 [1,1,0]) e (setN (kont Pg R Try.f52) (fun e => F52_j2 R)) _ (by kernel_rfl) (F52_j3_ok R e)))
def F52 (R : ER) (x0 x1 : Value) : WP :=
  pv (lenS x0) fun v23 =>
  pv (lenS x1) fun v24 =>
  pv (bin .neq v23 v24) fun v25 =>
  cnd v25 (
   R (.returned (.bool false))) (
   F52_j1 R x0 x1)
theorem F52_den (R : ER) (x0 x1 : Value) : den Pg R (cd Try.f52 []) (argsEnv [x0, x1]) (kont Pg R Try.f52) = F52 R x0 x1 :=
  have h : ∀ e, den Pg R (cd Try.f52 []) e (kont Pg R Try.f52) = F52 R (e 0) (e 1) := fun e => (den_join Pg R 1 (cd Try.f52 []) (cd Try.f52 [1,1]) e (kont Pg R Try.f52) (fun e => F52_j1 R (e 0) (e 1)) _ (by kernel_rfl) (fun e => F52_j1_ok R e) (by kernel_rfl))
  h _
theorem F52_calls {R : ER} {x0 x1 : Value} {w : World} (h : F52 R x0 x1 w) : Calls Pg 52 ⟨[x0, x1]⟩ w R :=
  calls_of_den Try.func52 (by kernel_rfl) (by kernel_rfl) (F52_den R x0 x1) h
/-! ### 53: orpimentref05_Tracker_SetBase -/
def F53_j2 (R : ER) (x0 x1 x2 : Value) : WP :=
  valV Pg R (Instr.buildSlice 22 0 ⟨[]⟩) fun v1 =>
  pv (nilO x0) fun v2 =>
  pv (faO 0 v2) fun v3 =>
  pv (faO 0 v3) fun v4 =>
  ld1 v4 fun v5 =>
  blt Pg R .append ⟨[22,22]⟩ 22 ⟨[false, false]⟩ ⟨[v1, v5]⟩ fun v6 =>
  pv (ixS 1 v6 x1) fun v7 =>
  st1 v7 x2 fun _ =>
  pv (nilO x0) fun v8 =>
  pv (faO 0 v8) fun v9 =>
  pv (faO 1 v9) fun v10 =>
  ld1 v10 fun v11 =>
  pv (bldO [.slice none 0 0, .slice none 0 0] [(0,1, v6), (1,1, v11)]) fun v12 =>
  cal Pg R 66 ⟨[x0, v12]⟩ fun v13 =>
  R (.returned (.tuple ⟨[v13, (.int .i64 0)]⟩))
theorem F53_j2_ok (R : ER) (e : Env) : den Pg R (cd Try.f53 [1,1,1]) e (kont Pg R Try.f53) = (F53_j2 R (e 0) (e 1) (e 2)) := by kernel_rfl
def F53_j3 (R : ER) (x0 x1 x2 : Value) : WP :=
  pv (nilO x0) fun v14 =>
  pv (faO 0 v14) fun v15 =>
  ldN 2 v15 fun v16 =>
  cal Pg R 41 ⟨[v16, x1]⟩ fun v17 =>
  pv (unO .not v17) fun v18 =>
  gd v18 false (pv (some x2)) fun v19 =>
  gd v18 false (pv (bin .lss v19 (.int .i64 0))) fun v20 =>
  pv (pickO v18 (.bool true) v20) fun v21 =>
  gd v21 false (pv (some x2)) fun v22 =>
  gd v21 false (pv (bin .gtr v22 (.int .i64 255))) fun v23 =>
  pv (pickO v21 (.bool true) v23) fun v24 =>
  cnd v24 (
   R (.returned (.tuple ⟨[(.slice none 0 0), (.int .i64 34)]⟩))) (
   F53_j2 R x0 x1 x2)
theorem F53_j3_ok (R : ER) (e : Env) : den Pg R (cd Try.f53 [1,1,0]) e (setN (kont Pg R Try.f53) (fun e => F53_j2 R (e 0) (e 1) (e 2))) = (F53_j3 R (e 0) (e 1) (e 2)) := (by kernel_rfl)
def F53_j1 (R : ER) (x0 x1 x2 : Value) : WP :=
  F53_j3 R x0 x1 x2
theorem F53_j1_ok (R : ER) (e : Env) : den Pg R (cd Try.f53 [1,1]) e (kont Pg R Try.f53) = (F53_j1 R (e 0) (e 1) (e 2)) := (den_join Pg R 0 (cd Try.f53 [1,1]) (cd Try.f53 [1,1,1]) e (kont Pg R Try.f53) (fun e => F53_j2 R (e 0) (e 1) (e 2)) _ (by kernel_rfl) (fun e => F53_j2_ok R e) (den_conv Pg R (pre 0 (cd Try.f53 [1,1])) (cd Try.f53 [1,1,0]) e (setN (kont Pg R Try.f53) (fun e => F53_j2 R (e 0) (e 1) (e 2))) _ (by kernel_rfl) (F53_j3_ok R e)))
def F53 (R : ER) (x0 x1 x2 : Value) : WP :=
  pv (eqNilP x0) fun v25 =>
  cnd v25 (
   R (.returned (.tuple ⟨[(.slice none 0 0), (.int .i64 35)]⟩))) (
   F53_j1 R x0 x1 x2)
theorem F53_den (R : ER) (x0 x1 x2 : Value) : den Pg R (cd Try.f53 []) (argsEnv [x0, x1, x2]) (kont Pg R Try.f53) = F53 R x0 x1 x2 :=
  have h : ∀ e, den Pg R (cd Try.f53 []) e (kont Pg R Try.f53) = F53 R (e 0) (e 1) (e 2) := fun e => (den_join Pg R 1 (cd Try.f53 []) (cd Try.f53 [1,1]) e (kont Pg R Try.f53) (fun e => F53_j1 R (e 0) (e 1) (e 2)) _ (by kernel_rfl) (fun e => F53_j1_ok R e) (by kernel_rfl))
  h _
theorem F53_calls {R : ER} {x0 x1 x2 : Value} {w : World} (h : F53 R x0 x1 x2 w) : Calls Pg 53 ⟨[x0, x1, x2]⟩ w R :=
  calls_of_den Try.func53 (by kernel_rfl) (by kernel_rfl) (F53_den R x0 x1 x2) h
/-! ### 54: orpimentref05_Tracker_Replace -/
def F54_j2 (R : ER) (x0 x6 : Value) : WP :=
  ldN 2 x6 fun v1 =>
  cal Pg R 17 ⟨[v1]⟩ fun v2 =>
  pv (bin .neq v2 (.int .i64 0)) fun v3 =>
  cnd v3 (
   R (.returned (.tuple ⟨[(.slice none 0 0), v2]⟩))) (
   ldN 2 x6 fun v4 =>
  cal Pg R 66 ⟨[x0, v4]⟩ fun v5 =>
  R (.returned (.tuple ⟨[v5, (.int .i64 0)]⟩)))
theorem F54_j2_ok (R : ER) (e : Env) : den Pg R (cd Try.f54 [1,1,1]) e (kont Pg R Try.f54) = (F54_j2 R (e 0) (e 6)) := (by kernel_rfl)
def F54_j1 (R : ER) (x0 x1 : Value) : WP :=
  drewV (
  pv (nilO x0) fun v6 =>
  pv (faO 0 v6) fun v7 =>
  pv (faO 0 v7) fun v8 =>
  ld1 v8 fun v9 =>
  allW [
  (mem fun w11 => valV Pg noR (Instr.buildSlice 23 0 ⟨[]⟩) fun v10 =>
   rd1 v8 v9 <|
   allW [
   (mem fun w13 => blt Pg noR .append ⟨[23,23]⟩ 23 ⟨[false, false]⟩ ⟨[v10, x1]⟩ fun v12 =>
    rd1 v8 v9 <|
    pv (bldO [.slice none 0 0, .slice none 0 0] [(0,1, v9), (1,1, v12)]) fun v14 =>
    mem fun w16 => al Pg 32 fun v15 =>
    rd1 v8 v9 <|
    mem fun w18 => stN 2 v15 v14 fun v17 =>
    F54_j2 R x0 v15),
   (mem fun w20 => al Pg 32 fun v19 =>
    rd1 v8 v9 <|
    mem fun w22 => blt Pg noR .append ⟨[23,23]⟩ 23 ⟨[false, false]⟩ ⟨[v10, x1]⟩ fun v21 =>
    rd1 v8 v9 <|
    pv (bldO [.slice none 0 0, .slice none 0 0] [(0,1, v9), (1,1, v21)]) fun v23 =>
    mem fun w25 => stN 2 v19 v23 fun v24 =>
    F54_j2 R x0 v19)]),
  (mem fun w27 => al Pg 32 fun v26 =>
   rd1 v8 v9 <|
   mem fun w29 => valV Pg noR (Instr.buildSlice 23 0 ⟨[]⟩) fun v28 =>
   rd1 v8 v9 <|
   mem fun w31 => blt Pg noR .append ⟨[23,23]⟩ 23 ⟨[false, false]⟩ ⟨[v28, x1]⟩ fun v30 =>
   rd1 v8 v9 <|
   pv (bldO [.slice none 0 0, .slice none 0 0] [(0,1, v9), (1,1, v30)]) fun v32 =>
   mem fun w34 => stN 2 v26 v32 fun v33 =>
   F54_j2 R x0 v26)])
theorem F54_j1_ok (R : ER) (e : Env) : den Pg R (cd Try.f54 [1,1]) e (kont Pg R Try.f54) = (F54_j1 R (e 0) (e 1)) := (den_join Pg R 0 (cd Try.f54 [1,1]) (cd Try.f54 [1,1,1]) e (kont Pg R Try.f54) (fun e => F54_j2 R (e 0) (e 6)) _ (by kernel_rfl) (fun e => F54_j2_ok R e) (by kernel_rfl))
def F54 (R : ER) (x0 x1 : Value) : WP :=
  pv (eqNilP x0) fun v35 =>
  cnd v35 (
   R (.returned (.tuple ⟨[(.slice none 0 0), (.int .i64 35)]⟩))) (
   F54_j1 R x0 x1)
theorem F54_den (R : ER) (x0 x1 : Value) : den Pg R (cd Try.f54 []) (argsEnv [x0, x1]) (kont Pg R Try.f54) = F54 R x0 x1 :=
  have h : ∀ e, den Pg R (cd Try.f54 []) e (kont Pg R Try.f54) = F54 R (e 0) (e 1) := fun e => (den_join Pg R 1 (cd Try.f54 []) (cd Try.f54 [1,1]) e (kont Pg R Try.f54) (fun e => F54_j1 R (e 0) (e 1)) _ (by kernel_rfl) (fun e => F54_j1_ok R e) (by kernel_rfl))
  h _
theorem F54_calls {R : ER} {x0 x1 : Value} {w : World} (h : F54 R x0 x1 w) : Calls Pg 54 ⟨[x0, x1]⟩ w R :=
  calls_of_den Try.func54 (by kernel_rfl) (by kernel_rfl) (F54_den R x0 x1) h
/-! ### 55: orpimentref05_Tracker_Effective -/
def F55_j2 (R : ER) (x0 x1 : Value) : WP :=
  pv (nilO x0) fun v1 =>
  pv (faO 0 v1) fun v2 =>
  ldN 2 v2 fun v3 =>
  cal Pg R 34 ⟨[v3]⟩ fun v4 =>
  pv (ixS 1 v4 x1) fun v5 =>
  ld1 v5 fun v6 =>
  R (.returned (.tuple ⟨[v6, (.int .i64 0)]⟩))
theorem F55_j2_ok (R : ER) (e : Env) : den Pg R (cd Try.f55 [1,1,1]) e (kont Pg R Try.f55) = (F55_j2 R (e 0) (e 1)) := by kernel_rfl
def F55_j1 (R : ER) (x0 x1 : Value) : WP :=
  pv (nilO x0) fun v7 =>
  pv (faO 0 v7) fun v8 =>
  ldN 2 v8 fun v9 =>
  cal Pg R 41 ⟨[v9, x1]⟩ fun v10 =>
  pv (unO .not v10) fun v11 =>
  cnd v11 (
   R (.returned (.tuple ⟨[(.int .i64 0), (.int .i64 34)]⟩))) (
   F55_j2 R x0 x1)
theorem F55_j1_ok (R : ER) (e : Env) : den Pg R (cd Try.f55 [1,1]) e (kont Pg R Try.f55) = (F55_j1 R (e 0) (e 1)) := (den_join Pg R 0 (cd Try.f55 [1,1]) (cd Try.f55 [1,1,1]) e (kont Pg R Try.f55) (fun e => F55_j2 R (e 0) (e 1)) _ (by kernel_rfl) (fun e => F55_j2_ok R e) (by kernel_rfl))
def F55 (R : ER) (x0 x1 : Value) : WP :=
  pv (eqNilP x0) fun v12 =>
  cnd v12 (
   R (.returned (.tuple ⟨[(.int .i64 0), (.int .i64 35)]⟩))) (
   F55_j1 R x0 x1)
theorem F55_den (R : ER) (x0 x1 : Value) : den Pg R (cd Try.f55 []) (argsEnv [x0, x1]) (kont Pg R Try.f55) = F55 R x0 x1 :=
  have h : ∀ e, den Pg R (cd Try.f55 []) e (kont Pg R Try.f55) = F55 R (e 0) (e 1) := fun e => (den_join Pg R 1 (cd Try.f55 []) (cd Try.f55 [1,1]) e (kont Pg R Try.f55) (fun e => F55_j1 R (e 0) (e 1)) _ (by kernel_rfl) (fun e => F55_j1_ok R e) (by kernel_rfl))
  h _
theorem F55_calls {R : ER} {x0 x1 : Value} {w : World} (h : F55 R x0 x1 w) : Calls Pg 55 ⟨[x0, x1]⟩ w R :=
  calls_of_den Try.func55 (by kernel_rfl) (by kernel_rfl) (F55_den R x0 x1) h
/-! ### 56: orpimentref05_Tracker_Add -/
def F56_j4 (R : ER) (x0 x3 : Value) : WP :=
  drewV (
  pv (nilO x0) fun v1 =>
  pv (faO 0 v1) fun v2 =>
  pv (faO 0 v2) fun v3 =>
  ld1 v3 fun v4 =>
  pv (nilO x0) fun v5 =>
  pv (faO 0 v5) fun v6 =>
  pv (faO 1 v6) fun v7 =>
  ld1 v7 fun v8 =>
  ldN 2 x3 fun v9 =>
  allW [
  (mem fun w11 => valV Pg noR (Instr.buildSlice 23 0 ⟨[]⟩) fun v10 =>
   rdN 2 x3 v9 <|
   rd1 v7 v8 <|
   rd1 v3 v4 <|
   allW [
   (mem fun w13 => blt Pg noR .append ⟨[23,23]⟩ 23 ⟨[false, false]⟩ ⟨[v10, v8]⟩ fun v12 =>
    rdN 2 x3 v9 <|
    rd1 v3 v4 <|
    mem fun w15 => valV Pg noR (Instr.buildSlice 23 1 ⟨[(0, v9)]⟩) fun v14 =>
    rd1 v7 v8 <|
    rd1 v3 v4 <|
    mem fun w17 => blt Pg noR .append ⟨[23,23]⟩ 23 ⟨[false, false]⟩ ⟨[v12, v14]⟩ fun v16 =>
    rd1 v3 v4 <|
    pv (bldO [.slice none 0 0, .slice none 0 0] [(0,1, v4), (1,1, v16)]) fun v18 =>
    mem fun w20 => cal Pg noR 66 ⟨[x0, v18]⟩ fun v19 =>
    R (.returned (.tuple ⟨[v19, (.int .i64 0)]⟩))),
   (mem fun w22 => valV Pg noR (Instr.buildSlice 23 1 ⟨[(0, v9)]⟩) fun v21 =>
    rd1 v7 v8 <|
    rd1 v3 v4 <|
    mem fun w24 => blt Pg noR .append ⟨[23,23]⟩ 23 ⟨[false, false]⟩ ⟨[v10, v8]⟩ fun v23 =>
    rdN 2 x3 v9 <|
    rd1 v3 v4 <|
    mem fun w26 => blt Pg noR .append ⟨[23,23]⟩ 23 ⟨[false, false]⟩ ⟨[v23, v21]⟩ fun v25 =>
    rd1 v3 v4 <|
    pv (bldO [.slice none 0 0, .slice none 0 0] [(0,1, v4), (1,1, v25)]) fun v27 =>
    mem fun w29 => cal Pg noR 66 ⟨[x0, v27]⟩ fun v28 =>
    R (.returned (.tuple ⟨[v28, (.int .i64 0)]⟩)))]),
  (mem fun w31 => valV Pg noR (Instr.buildSlice 23 1 ⟨[(0, v9)]⟩) fun v30 =>
   rd1 v7 v8 <|
   rd1 v3 v4 <|
   mem fun w33 => valV Pg noR (Instr.buildSlice 23 0 ⟨[]⟩) fun v32 =>
   rdN 2 x3 v9 <|
   rd1 v7 v8 <|
   rd1 v3 v4 <|
   mem fun w35 => blt Pg noR .append ⟨[23,23]⟩ 23 ⟨[false, false]⟩ ⟨[v32, v8]⟩ fun v34 =>
   rdN 2 x3 v9 <|
   rd1 v3 v4 <|
   mem fun w37 => blt Pg noR .append ⟨[23,23]⟩ 23 ⟨[false, false]⟩ ⟨[v34, v30]⟩ fun v36 =>
   rd1 v3 v4 <|
   pv (bldO [.slice none 0 0, .slice none 0 0] [(0,1, v4), (1,1, v36)]) fun v38 =>
   mem fun w40 => cal Pg noR 66 ⟨[x0, v38]⟩ fun v39 =>
   R (.returned (.tuple ⟨[v39, (.int .i64 0)]⟩)))])
theorem F56_j4_ok (R : ER) (e : Env) : den Pg R (cd Try.f56 [1,1,1,1,1]) e (kont Pg R Try.f56) = (F56_j4 R (e 0) (e 3)) := by kernel_rfl
def F56_j3 (R : ER) (x0 x3 : Value) : WP :=
  pv (nilO x0) fun v41 =>
  pv (faO 0 v41) fun v42 =>
  pv (faO 1 v42) fun v43 =>
  ld1 v43 fun v44 =>
  pv (lenS v44) fun v45 =>
  pv (bin .geq v45 (.int .i64 2000)) fun v46 =>
  cnd v46 (
   R (.returned (.tuple ⟨[(.slice none 0 0), (.int .i64 18)]⟩))) (
   F56_j4 R x0 x3)
theorem F56_j3_ok (R : ER) (e : Env) : den Pg R (cd Try.f56 [1,1,1,1]) e (kont Pg R Try.f56) = (F56_j3 R (e 0) (e 3)) := (den_join Pg R 0 (cd Try.f56 [1,1,1,1]) (cd Try.f56 [1,1,1,1,1]) e (kont Pg R Try.f56) (fun e => F56_j4 R (e 0) (e 3)) _ (by kernel_rfl) (fun e => F56_j4_ok R e) (by kernel_rfl))
def F56_j2 (R : ER) (x0 x3 : Value) : WP :=
  drewV (
  pv (nilO x0) fun v47 =>
  pv (faO 0 v47) fun v48 =>
  pv (faO 1 v48) fun v49 =>
  ld1 v49 fun v50 =>
  ldN 2 x3 fun v51 =>
  mem fun w53 => cal Pg noR 42 ⟨[v50, v51]⟩ fun v52 =>
  cnd v52 (
   R (.returned (.tuple ⟨[(.slice none 0 0), (.int .i64 10)]⟩))) (
   F56_j3 R x0 x3))
theorem F56_j2_ok (R : ER) (e : Env) : den Pg R (cd Try.f56 [1,1,1]) e (kont Pg R Try.f56) = (F56_j2 R (e 0) (e 3)) := (den_join Pg R 0 (cd Try.f56 [1,1,1]) (cd Try.f56 [1,1,1,1]) e (kont Pg R Try.f56) (fun e => F56_j3 R (e 0) (e 3)) _ (by kernel_rfl) (fun e => F56_j3_ok R e) (by kernel_rfl))
def F56_j5 (R : ER) (x0 x3 : Value) : WP :=
  drewV (
  pv (nilO x0) fun v54 =>
  pv (faO 0 v54) fun v55 =>
  ldN 2 v55 fun v56 =>
  pv (faO 0 x3) fun v57 =>
  ld1 v57 fun v58 =>
  mem fun w60 => cal Pg noR 41 ⟨[v56, v58]⟩ fun v59 =>
  pv (unO .not v59) fun v61 =>
  gd v61 false (pv (some x0)) fun v62 =>
  gd v61 false (pv (nilO v62)) fun v63 =>
  gd v61 false (pv (faO 0 v63)) fun v64 =>
  gd v61 false (ldN 2 v64) fun v65 =>
  gd v61 false (pv (faO 1 x3)) fun v66 =>
  gd v61 false (ld1 v66) fun v67 =>
  mem fun w69 => gd v61 false (cal Pg noR 41 ⟨[v65, v67]⟩) fun v68 =>
  gd v61 false (pv (unO .not v68)) fun v70 =>
  pv (pickO v61 (.bool true) v70) fun v71 =>
  cnd v71 (
   R (.returned (.tuple ⟨[(.slice none 0 0), (.int .i64 34)]⟩))) (
   F56_j2 R x0 x3))
theorem F56_j5_ok (R : ER) (e : Env) : den Pg R (cd Try.f56 [1,1,0]) e (setN (kont Pg R Try.f56) (fun e => F56_j2 R (e 0) (e 3))) = (F56_j5 R (e 0) (e 3)) := (by kernel_rfl)
def F56_j1 (R : ER) (x0 x3 : Value) : WP :=
  F56_j5 R x0 x3
theorem F56_j1_ok (R : ER) (e : Env) : den Pg R (cd Try.f56 [1,1]) e (kont Pg R Try.f56) = (F56_j1 R (e 0) (e 3)) := (den_join Pg R 0 (cd Try.f56 [1,1]) (cd Try.f56 [1,1,1]) e (kont Pg R Try.f56) (fun e => F56_j2 R (e 0) (e 3)) _ (by kernel_rfl) (fun e => F56_j2_ok R e) (den_conv Pg R (pre 0 (cd Try.f56 [1,1])) (cd Try.f56 [1,1,0]) e (setN (kont Pg R Try.f56) (fun e => F56_j2 R (e 0) (e 3))) _ (by kernel_rfl) (F56_j5_ok R e)))
def F56 (R : ER) (x0 x1 : Value) : WP :=
  bx 39 x1 fun v72 =>
  pv (eqNilP x0) fun v73 =>
  cnd v73 (
   R (.returned (.tuple ⟨[(.slice none 0 0), (.int .i64 35)]⟩))) (
   F56_j1 R x0 v72)
theorem F56_den (R : ER) (x0 x1 : Value) : den Pg R (cd Try.f56 []) (argsEnv [x0, x1]) (kont Pg R Try.f56) = F56 R x0 x1 :=
  have h : ∀ e, den Pg R (cd Try.f56 []) e (kont Pg R Try.f56) = F56 R (e 0) (e 1) := fun e => (den_join Pg R 1 (cd Try.f56 []) (cd Try.f56 [1,1]) e (kont Pg R Try.f56) (fun e => F56_j1 R (e 0) (e 3)) _ (by kernel_rfl) (fun e => F56_j1_ok R e) (by kernel_rfl))
  h _
theorem F56_calls {R : ER} {x0 x1 : Value} {w : World} (h : F56 R x0 x1 w) : Calls Pg 56 ⟨[x0, x1]⟩ w R :=
  calls_of_den Try.func56 (by kernel_rfl) (by kernel_rfl) (F56_den R x0 x1) h
/-! ### 57: inherit_Tracker_has -/
def F57 (R : ER) (x0 x1 : Value) : WP :=
  pv (bin .geq x1 (.int .i64 0)) fun v1 =>
  gd v1 true (pv (some x1)) fun v2 =>
  gd v1 true (pv (some x0)) fun v3 =>
  gd v1 true (pv (nilO v3)) fun v4 =>
  gd v1 true (pv (faO 0 v4)) fun v5 =>
  gd v1 true (ld1 v5) fun v6 =>
  gd v1 true (pv (lenS v6)) fun v7 =>
  gd v1 true (pv (bin .lss v2 v7)) fun v8 =>
  pv (pickO v1 v8 (.bool false)) fun v9 =>
  R (.returned v9)
theorem F57_den (R : ER) (x0 x1 : Value) : den Pg R (cd Try.f57 []) (argsEnv [x0, x1]) (kont Pg R Try.f57) = F57 R x0 x1 :=
  have h : ∀ e, den Pg R (cd Try.f57 []) e (kont Pg R Try.f57) = F57 R (e 0) (e 1) := fun e => by kernel_rfl
  h _
theorem F57_calls {R : ER} {x0 x1 : Value} {w : World} (h : F57 R x0 x1 w) : Calls Pg 57 ⟨[x0, x1]⟩ w R :=
  calls_of_den Try.func57 (by kernel_rfl) (by kernel_rfl) (F57_den R x0 x1) h
/-! ### 58: inherit_Tracker_update -/
def F58_j1 (R : ER) (x0 x3 x4 : Value) : WP :=
  pv (nilO x0) fun v1 =>
  pv (faO 2 v1) fun v2 =>
  st1 v2 x4 fun _ =>
  R (.returned x3)
theorem F58_j1_ok (R : ER) (e : Env) : den Pg R (cd Try.f58 [1,1,1,1]) e (kont Pg R Try.f58) = (F58_j1 R (e 0) (e 3) (e 4)) := by kernel_rfl
def F58_j5 (R : ER) (k1 : V6) (x0 x3 x4 x10 x11 x12 : Value) : WP :=
  pv (bin .add x12 (.int .i64 1)) fun v3 =>
  k1 x0 x3 x4 x10 x11 v3
theorem F58_j5_ok (R : ER) (k1 : V6) (e : Env) : den Pg R (cd Try.f58 [1,1,1,0,1,0,0,1,1,1]) e (setN (inB 0 (setN (kont Pg R Try.f58) (fun e => F58_j1 R (e 0) (e 3) (e 4)))) (fun e => k1 (e 0) (e 3) (e 4) (e 10) (e 11) (e 12))) = (F58_j5 R k1 (e 0) (e 3) (e 4) (e 10) (e 11) (e 12)) := by kernel_rfl
def F58_j6 (R : ER) (k1 : V6) (x0 x3 x4 x10 x11 x12 : Value) : WP :=
  pv (ixS 1 x10 x12) fun v4 =>
  ld1 v4 fun v5 =>
  pv (nilO x0) fun v6 =>
  pv (faO 2 v6) fun v7 =>
  ld1 v7 fun v8 =>
  pv (ixS 1 v8 x12) fun v9 =>
  ld1 v9 fun v10 =>
  pv (bin .neq v5 v10) fun v11 =>
  cnd v11 (
   pv (bldO [.int .i64 0, .int .i64 0] [(0,1, x12), (1,1, v5)]) fun v12 =>
   valV Pg R (Instr.buildSlice 59 1 ⟨[(0, v12)]⟩) fun v13 =>
   blt Pg R .append ⟨[59,59]⟩ 59 ⟨[false, false]⟩ ⟨[x3, v13]⟩ fun v14 =>
   F58_j5 R k1 x0 v14 x4 x10 x11 x12) (
   F58_j5 R k1 x0 x3 x4 x10 x11 x12)
theorem F58_j6_ok (R : ER) (k1 : V6) (e : Env) : den Pg R (cd Try.f58 [1,1,1,0,1,0,0,1,1,0]) e (setN (setN (inB 0 (setN (kont Pg R Try.f58) (fun e => F58_j1 R (e 0) (e 3) (e 4)))) (fun e => k1 (e 0) (e 3) (e 4) (e 10) (e 11) (e 12))) (fun e => F58_j5 R k1 (e 0) (e 3) (e 4) (e 10) (e 11) (e 12))) = (F58_j6 R k1 (e 0) (e 3) (e 4) (e 10) (e 11) (e 12)) := (den_block Pg R (cd Try.f58 [1,1,1,0,1,0,0,1,1,0]) 1 (cd Try.f58 [1,1,1,0,1,0,0,1,1,0,0]) e (setN (setN (inB 0 (setN (kont Pg R Try.f58) (fun e => F58_j1 R (e 0) (e 3) (e 4)))) (fun e => k1 (e 0) (e 3) (e 4) (e 10) (e 11) (e 12))) (fun e => F58_j5 R k1 (e 0) (e 3) (e 4) (e 10) (e 11) (e 12))) _ (by kernel_rfl) (by kernel_rfl))
def F58_j4 (R : ER) (k1 : V6) (x0 x3 x4 x10 x11 x12 : Value) : WP :=
  F58_j6 R k1 x0 x3 x4 x10 x11 x12
theorem F58_j4_ok (R : ER) (k1 : V6) (e : Env) : den Pg R (cd Try.f58 [1,1,1,0,1,0,0,1,1]) e (setN (inB 0 (setN (kont Pg R Try.f58) (fun e => F58_j1 R (e 0) (e 3) (e 4)))) (fun e => k1 (e 0) (e 3) (e 4) (e 10) (e 11) (e 12))) = (F58_j4 R k1 (e 0) (e 3) (e 4) (e 10) (e 11) (e 12)) := (den_join Pg R 0 (cd Try.f58 [1,1,1,0,1,0,0,1,1]) (cd Try.f58 [1,1,1,0,1,0,0,1,1,1]) e (setN (inB 0 (setN (kont Pg R Try.f58) (fun e => F58_j1 R (e 0) (e 3) (e 4)))) (fun e => k1 (e 0) (e 3) (e 4) (e 10) (e 11) (e 12))) (fun e => F58_j5 R k1 (e 0) (e 3) (e 4) (e 10) (e 11) (e 12)) _ (by kernel_rfl) (fun e => F58_j5_ok R k1 e) (den_conv Pg R (pre 0 (cd Try.f58 [1,1,1,0,1,0,0,1,1])) (cd Try.f58 [1,1,1,0,1,0,0,1,1,0]) e (setN (setN (inB 0 (setN (kont Pg R Try.f58) (fun e => F58_j1 R (e 0) (e 3) (e 4)))) (fun e => k1 (e 0) (e 3) (e 4) (e 10) (e 11) (e 12))) (fun e => F58_j5 R k1 (e 0) (e 3) (e 4) (e 10) (e 11) (e 12))) _ (by kernel_rfl) (F58_j6_ok R k1 e)))
def F58_b1 (R : ER) (k1 : V6) (x0 x3 x4 x10 x11 x12 : Value) : WP :=
  pv (bin .lss x12 x11) fun v15 =>
  cnd v15 (
   F58_j4 R k1 x0 x3 x4 x10 x11 x12) (
   F58_j1 R x0 x3 x4)
theorem F58_b1_ok (R : ER) (k1 : V6) (e : Env) : den Pg R (cd Try.f58 [1,1,1,0,1,0,0]) e (setN (inB 0 (setN (kont Pg R Try.f58) (fun e => F58_j1 R (e 0) (e 3) (e 4)))) (fun e => k1 (e 0) (e 3) (e 4) (e 10) (e 11) (e 12))) = (F58_b1 R k1 (e 0) (e 3) (e 4) (e 10) (e 11) (e 12)) := (den_join Pg R 1 (cd Try.f58 [1,1,1,0,1,0,0]) (cd Try.f58 [1,1,1,0,1,0,0,1,1]) e (setN (inB 0 (setN (kont Pg R Try.f58) (fun e => F58_j1 R (e 0) (e 3) (e 4)))) (fun e => k1 (e 0) (e 3) (e 4) (e 10) (e 11) (e 12))) (fun e => F58_j4 R k1 (e 0) (e 3) (e 4) (e 10) (e 11) (e 12)) _ (by kernel_rfl) (fun e => F58_j4_ok R k1 e) (by kernel_rfl))
noncomputable def F58_l1 (R : ER) (n : Nat) : V6 := Nat.rec (motive := fun _ => V6) (fun _ _ _ _ _ _ => fun _ => False) (fun _ ih => fun x0 x3 x4 x10 x11 x12 => F58_b1 R ih x0 x3 x4 x10 x11 x12) n
theorem F58_l1_succ (R : ER) (n : Nat) (x0 x3 x4 x10 x11 x12 : Value) : F58_l1 R (n + 1) x0 x3 x4 x10 x11 x12 = F58_b1 R (F58_l1 R n) x0 x3 x4 x10 x11 x12 := rfl
theorem F58_l1_ok (R : ER) : ∀ (n : Nat) (e : Env), iterL (den Pg R (cd Try.f58 [1,1,1,0,1,0,0])) n e (inB 0 (setN (kont Pg R Try.f58) (fun e => F58_j1 R (e 0) (e 3) (e 4)))) = F58_l1 R n (e 0) (e 3) (e 4) (e 10) (e 11) (e 12) :=
  iterL_join (den Pg R (cd Try.f58 [1,1,1,0,1,0,0])) (inB 0 (setN (kont Pg R Try.f58) (fun e => F58_j1 R (e 0) (e 3) (e 4)))) (fun n e => F58_l1 R n (e 0) (e 3) (e 4) (e 10) (e 11) (e 12)) (fun _ => rfl) (fun n e => (F58_b1_ok R (F58_l1 R n) e).trans (F58_l1_succ R n (e 0) (e 3) (e 4) (e 10) (e 11) (e 12)).symm)
def F58_j3 (R : ER) (x0 x3 x4 x10 x11 x12 : Value) : WP :=
  exN fun n => F58_l1 R n x0 x3 x4 x10 x11 x12
theorem F58_j3_ok (R : ER) (e : Env) : den Pg R (cd Try.f58 [1,1,1,0,1]) e (setN (kont Pg R Try.f58) (fun e => F58_j1 R (e 0) (e 3) (e 4))) = (F58_j3 R (e 0) (e 3) (e 4) (e 10) (e 11) (e 12)) := (den_block Pg R (cd Try.f58 [1,1,1,0,1]) 0 (cd Try.f58 [1,1,1,0,1,0]) e (setN (kont Pg R Try.f58) (fun e => F58_j1 R (e 0) (e 3) (e 4))) _ (by kernel_rfl) (den_loop Pg R (cd Try.f58 [1,1,1,0,1,0]) (cd Try.f58 [1,1,1,0,1,0,0]) e (inB 0 (setN (kont Pg R Try.f58) (fun e => F58_j1 R (e 0) (e 3) (e 4)))) (fun n e => F58_l1 R n (e 0) (e 3) (e 4) (e 10) (e 11) (e 12)) _ (by kernel_rfl) (F58_l1_ok R) (by kernel_rfl)))
def F58_j2 (R : ER) (x0 x3 x4 : Value) : WP :=
  pv (lenS x4) fun v16 =>
  F58_j3 R x0 x3 x4 x4 v16 (.int .i64 0)
theorem F58_j2_ok (R : ER) (e : Env) : den Pg R (cd Try.f58 [1,1,1,0]) e (setN (kont Pg R Try.f58) (fun e => F58_j1 R (e 0) (e 3) (e 4))) = (F58_j2 R (e 0) (e 3) (e 4)) := (den_join Pg R 0 (cd Try.f58 [1,1,1,0]) (cd Try.f58 [1,1,1,0,1]) e (setN (kont Pg R Try.f58) (fun e => F58_j1 R (e 0) (e 3) (e 4))) (fun e => F58_j3 R (e 0) (e 3) (e 4) (e 10) (e 11) (e 12)) _ (by kernel_rfl) (fun e => F58_j3_ok R e) (by kernel_rfl))
def F58 (R : ER) (x0 : Value) : WP :=
  cal Pg R 49 ⟨[x0]⟩ fun v17 =>
  cal Pg R 33 ⟨[v17]⟩ fun v18 =>
  F58_j2 R x0 (.slice none 0 0) v18
theorem F58_den (R : ER) (x0 : Value) : den Pg R (cd Try.f58 []) (argsEnv [x0]) (kont Pg R Try.f58) = F58 R x0 :=
  have h : ∀ e, den Pg R (cd Try.f58 []) e (kont Pg R Try.f58) = F58 R (e 0) := fun e => (den_join Pg R 3 (cd Try.f58 []) (cd Try.f58 [1,1,1,1]) e (kont Pg R Try.f58) (fun e => F58_j1 R (e 0) (e 3) (e 4)) _ (by kernel_rfl) (fun e => F58_j1_ok R e) (den_join Pg R 2 (pre 3 (cd Try.f58 [])) (cd Try.f58 [1,1,1,0]) e (setN (kont Pg R Try.f58) (fun e => F58_j1 R (e 0) (e 3) (e 4))) (fun e => F58_j2 R (e 0) (e 3) (e 4)) _ (by kernel_rfl) (fun e => F58_j2_ok R e) (by kernel_rfl)))
  h _
theorem F58_calls {R : ER} {x0 : Value} {w : World} (h : F58 R x0 w) : Calls Pg 58 ⟨[x0]⟩ w R :=
  calls_of_den Try.func58 (by kernel_rfl) (by kernel_rfl) (F58_den R x0) h
/-! ### 59: inherit_Graph_effective_1 -/
def F59 (R : ER) (x0 x1 x2 x3 : Value) : WP :=
  ld1 x2 fun v1 =>
  pv (ixS 1 v1 x0) fun v2 =>
  ld1 v2 fun v3 =>
  pv (bin .lss v3 x1) fun v4 =>
  cnd v4 (
   ld1 x2 fun v5 =>
   pv (ixS 1 v5 x0) fun v6 =>
   st1 v6 x1 fun _ =>
   ld1 x3 fun v7 =>
   valV Pg R (Instr.buildSlice 22 1 ⟨[(0, x0)]⟩) fun v8 =>
   blt Pg R .append ⟨[22,22]⟩ 22 ⟨[false, false]⟩ ⟨[v7, v8]⟩ fun v9 =>
   st1 x3 v9 fun _ =>
   R (.returned (.tuple ⟨[]⟩))) (
   R (.returned (.tuple ⟨[]⟩)))
theorem F59_den (R : ER) (x0 x1 x2 x3 : Value) : den Pg R (cd Try.f59 []) (argsEnv [x0, x1, x2, x3]) (kont Pg R Try.f59) = F59 R x0 x1 x2 x3 :=
  have h : ∀ e, den Pg R (cd Try.f59 []) e (kont Pg R Try.f59) = F59 R (e 0) (e 1) (e 2) (e 3) := fun e => (by kernel_rfl)
  h _
theorem F59_calls {R : ER} {x0 x1 x2 x3 : Value} {w : World} (h : F59 R x0 x1 x2 x3 w) : Calls Pg 59 ⟨[x0, x1, x2, x3]⟩ w R :=
  calls_of_den Try.func59 (by kernel_rfl) (by kernel_rfl) (F59_den R x0 x1 x2 x3) h
/-! ### 60: slices_IndexFunc -/
def F60_j1 (R : ER) : WP :=
  R (.returned (.int .i64 (-1)))
theorem F60_j1_ok (R : ER) (e : Env) : den Pg R (cd Try.f60 [1,1]) e (kont Pg R Try.f60) = (F60_j1 R) := by kernel_rfl
def F60_j4 (R : ER) (k1 : V4) (x0 x1 x7 x8 : Value) : WP :=
  pv (ixS 1 x0 x8) fun v1 =>
  ld1 v1 fun v2 =>
  calD Pg R x1 ⟨[v2]⟩ fun v3 =>
  cnd v3 (
   R (.returned x8)) (
   pv (bin .add x8 (.int .i64 1)) fun v4 =>
  k1 x0 x1 x7 v4)
theorem F60_j4_ok (R : ER) (k1 : V4) (e : Env) : den Pg R (cd Try.f60 [1,0,1,0,0,1,1]) e (setN (inB 0 (setN (kont Pg R Try.f60) (fun e => F60_j1 R))) (fun e => k1 (e 0) (e 1) (e 7) (e 8))) = (F60_j4 R k1 (e 0) (e 1) (e 7) (e 8)) := by kernel_rfl
def F60_b1 (R : ER) (k1 : V4) (x0 x1 x7 x8 : Value) : WP :=
  pv (bin .lss x8 x7) fun v5 =>
  cnd v5 (
   F60_j4 R k1 x0 x1 x7 x8) (
   F60_j1 R)
theorem F60_b1_ok (R : ER) (k1 : V4) (e : Env) : den Pg R (cd Try.f60 [1,0,1,0,0]) e (setN (inB 0 (setN (kont Pg R Try.f60) (fun e => F60_j1 R))) (fun e => k1 (e 0) (e 1) (e 7) (e 8))) = (F60_b1 R k1 (e 0) (e 1) (e 7) (e 8)) := (den_join Pg R 1 (cd Try.f60 [1,0,1,0,0]) (cd Try.f60 [1,0,1,0,0,1,1]) e (setN (inB 0 (setN (kont Pg R Try.f60) (fun e => F60_j1 R))) (fun e => k1 (e 0) (e 1) (e 7) (e 8))) (fun e => F60_j4 R k1 (e 0) (e 1) (e 7) (e 8)) _ (by kernel_rfl) (fun e => F60_j4_ok R k1 e) (by kernel_rfl))
noncomputable def F60_l1 (R : ER) (n : Nat) : V4 := Nat.rec (motive := fun _ => V4) (fun _ _ _ _ => fun _ => False) (fun _ ih => fun x0 x1 x7 x8 => F60_b1 R ih x0 x1 x7 x8) n
theorem F60_l1_succ (R : ER) (n : Nat) (x0 x1 x7 x8 : Value) : F60_l1 R (n + 1) x0 x1 x7 x8 = F60_b1 R (F60_l1 R n) x0 x1 x7 x8 := rfl
theorem F60_l1_ok (R : ER) : ∀ (n : Nat) (e : Env), iterL (den Pg R (cd Try.f60 [1,0,1,0,0])) n e (inB 0 (setN (kont Pg R Try.f60) (fun e => F60_j1 R))) = F60_l1 R n (e 0) (e 1) (e 7) (e 8) :=
  iterL_join (den Pg R (cd Try.f60 [1,0,1,0,0])) (inB 0 (setN (kont Pg R Try.f60) (fun e => F60_j1 R))) (fun n e => F60_l1 R n (e 0) (e 1) (e 7) (e 8)) (fun _ => rfl) (fun n e => (F60_b1_ok R (F60_l1 R n) e).trans (F60_l1_succ R n (e 0) (e 1) (e 7) (e 8)).symm)
def F60_j3 (R : ER) (x0 x1 x7 x8 : Value) : WP :=
  exN fun n => F60_l1 R n x0 x1 x7 x8
theorem F60_j3_ok (R : ER) (e : Env) : den Pg R (cd Try.f60 [1,0,1]) e (setN (kont Pg R Try.f60) (fun e => F60_j1 R)) = (F60_j3 R (e 0) (e 1) (e 7) (e 8)) := (den_block Pg R (cd Try.f60 [1,0,1]) 0 (cd Try.f60 [1,0,1,0]) e (setN (kont Pg R Try.f60) (fun e => F60_j1 R)) _ (by kernel_rfl) (den_loop Pg R (cd Try.f60 [1,0,1,0]) (cd Try.f60 [1,0,1,0,0]) e (inB 0 (setN (kont Pg R Try.f60) (fun e => F60_j1 R))) (fun n e => F60_l1 R n (e 0) (e 1) (e 7) (e 8)) _ (by kernel_rfl) (F60_l1_ok R) (by kernel_rfl)))
def F60_j2 (R : ER) (x0 x1 : Value) : WP :=
  pv (lenS x0) fun v6 =>
  F60_j3 R x0 x1 v6 (.int .i64 0)
theorem F60_j2_ok (R : ER) (e : Env) : den Pg R (cd Try.f60 [1,0]) e (setN (kont Pg R Try.f60) (fun e => F60_j1 R)) = (F60_j2 R (e 0) (e 1)) := (den_join Pg R 0 (cd Try.f60 [1,0]) (cd Try.f60 [1,0,1]) e (setN (kont Pg R Try.f60) (fun e => F60_j1 R)) (fun e => F60_j3 R (e 0) (e 1) (e 7) (e 8)) _ (by kernel_rfl) (fun e => F60_j3_ok R e) (by kernel_rfl))
def F60 (R : ER) (x0 x1 : Value) : WP :=
  F60_j2 R x0 x1
theorem F60_den (R : ER) (x0 x1 : Value) : den Pg R (cd Try.f60 []) (argsEnv [x0, x1]) (kont Pg R Try.f60) = F60 R x0 x1 :=
  have h : ∀ e, den Pg R (cd Try.f60 []) e (kont Pg R Try.f60) = F60 R (e 0) (e 1) := fun e => (den_join Pg R 1 (cd Try.f60 []) (cd Try.f60 [1,1]) e (kont Pg R Try.f60) (fun e => F60_j1 R) _ (by kernel_rfl) (fun e => F60_j1_ok R e) (den_join Pg R 0 (pre 1 (cd Try.f60 [])) (cd Try.f60 [1,0]) e (setN (kont Pg R Try.f60) (fun e => F60_j1 R)) (fun e => F60_j2 R (e 0) (e 1)) _ (by kernel_rfl) (fun e => F60_j2_ok R e) (by kernel_rfl)))
  h _
theorem F60_calls {R : ER} {x0 x1 : Value} {w : World} (h : F60 R x0 x1 w) : Calls Pg 60 ⟨[x0, x1]⟩ w R :=
  calls_of_den Try.func60 (by kernel_rfl) (by kernel_rfl) (F60_den R x0 x1) h
/-! ### 61: slices_IndexFunc_61 -/
def F61_j1 (R : ER) : WP :=
  R (.returned (.int .i64 (-1)))
theorem F61_j1_ok (R : ER) (e : Env) : den Pg R (cd Try.f61 [1,1]) e (kont Pg R Try.f61) = (F61_j1 R) := by kernel_rfl
def F61_j4 (R : ER) (k1 : V4) (x0 x1 x7 x8 : Value) : WP :=
  pv (ixS 2 x0 x8) fun v1 =>
  ldN 2 v1 fun v2 =>
  calD Pg R x1 ⟨[v2]⟩ fun v3 =>
  cnd v3 (
   R (.returned x8)) (
   pv (bin .add x8 (.int .i64 1)) fun v4 =>
  k1 x0 x1 x7 v4)
theorem F61_j4_ok (R : ER) (k1 : V4) (e : Env) : den Pg R (cd Try.f61 [1,0,1,0,0,1,1]) e (setN (inB 0 (setN (kont Pg R Try.f61) (fun e => F61_j1 R))) (fun e => k1 (e 0) (e 1) (e 7) (e 8))) = (F61_j4 R k1 (e 0) (e 1) (e 7) (e 8)) := by kernel_rfl
def F61_b1 (R : ER) (k1 : V4) (x0 x1 x7 x8 : Value) : WP :=
  pv (bin .lss x8 x7) fun v5 =>
  cnd v5 (
   F61_j4 R k1 x0 x1 x7 x8) (
   F61_j1 R)
theorem F61_b1_ok (R : ER) (k1 : V4) (e : Env) : den Pg R (cd Try.f61 [1,0,1,0,0]) e (setN (inB 0 (setN (kont Pg R Try.f61) (fun e => F61_j1 R))) (fun e => k1 (e 0) (e 1) (e 7) (e 8))) = (F61_b1 R k1 (e 0) (e 1) (e 7) (e 8)) := (den_join Pg R 1 (cd Try.f61 [1,0,1,0,0]) (cd Try.f61 [1,0,1,0,0,1,1]) e (setN (inB 0 (setN (kont Pg R Try.f61) (fun e => F61_j1 R))) (fun e => k1 (e 0) (e 1) (e 7) (e 8))) (fun e => F61_j4 R k1 (e 0) (e 1) (e 7) (e 8)) _ (by kernel_rfl) (fun e => F61_j4_ok R k1 e) (by kernel_rfl))
noncomputable def F61_l1 (R : ER) (n : Nat) : V4 := Nat.rec (motive := fun _ => V4) (fun _ _ _ _ => fun _ => False) (fun _ ih => fun x0 x1 x7 x8 => F61_b1 R ih x0 x1 x7 x8) n
theorem F61_l1_succ (R : ER) (n : Nat) (x0 x1 x7 x8 : Value) : F61_l1 R (n + 1) x0 x1 x7 x8 = F61_b1 R (F61_l1 R n) x0 x1 x7 x8 := rfl
theorem F61_l1_ok (R : ER) : ∀ (n : Nat) (e : Env), iterL (den Pg R (cd Try.f61 [1,0,1,0,0])) n e (inB 0 (setN (kont Pg R Try.f61) (fun e => F61_j1 R))) = F61_l1 R n (e 0) (e 1) (e 7) (e 8) :=
  iterL_join (den Pg R (cd Try.f61 [1,0,1,0,0])) (inB 0 (setN (kont Pg R Try.f61) (fun e => F61_j1 R))) (fun n e => F61_l1 R n (e 0) (e 1) (e 7) (e 8)) (fun _ => rfl) (fun n e => (F61_b1_ok R (F61_l1 R n) e).trans (F61_l1_succ R n (e 0) (e 1) (e 7) (e 8)).symm)
def F61_j3 (R : ER) (x0 x1 x7 x8 : Value) : WP :=
  exN fun n => F61_l1 R n x0 x1 x7 x8
theorem F61_j3_ok (R : ER) (e : Env) : den Pg R (cd Try.f61 [1,0,1]) e (setN (kont Pg R Try.f61) (fun e => F61_j1 R)) = (F61_j3 R (e 0) (e 1) (e 7) (e 8)) := (den_block Pg R (cd Try.f61 [1,0,1]) 0 (cd Try.f61 [1,0,1,0]) e (setN (kont Pg R Try.f61) (fun e => F61_j1 R)) _ (by kernel_rfl) (den_loop Pg R (cd Try.f61 [1,0,1,0]) (cd Try.f61 [1,0,1,0,0]) e (inB 0 (setN (kont Pg R Try.f61) (fun e => F61_j1 R))) (fun n e => F61_l1 R n (e 0) (e 1) (e 7) (e 8)) _ (by kernel_rfl) (F61_l1_ok R) (by kernel_rfl)))
def F61_j2 (R : ER) (x0 x1 : Value) : WP :=
  pv (lenS x0) fun v6 =>
  F61_j3 R x0 x1 v6 (.int .i64 0)
theorem F61_j2_ok (R : ER) (e : Env) : den Pg R (cd Try.f61 [1,0]) e (setN (kont Pg R Try.f61) (fun e => F61_j1 R)) = (F61_j2 R (e 0) (e 1)) := (den_join Pg R 0 (cd Try.f61 [1,0]) (cd Try.f61 [1,0,1]) e (setN (kont Pg R Try.f61) (fun e => F61_j1 R)) (fun e => F61_j3 R (e 0) (e 1) (e 7) (e 8)) _ (by kernel_rfl) (fun e => F61_j3_ok R e) (by kernel_rfl))
def F61 (R : ER) (x0 x1 : Value) : WP :=
  F61_j2 R x0 x1
theorem F61_den (R : ER) (x0 x1 : Value) : den Pg R (cd Try.f61 []) (argsEnv [x0, x1]) (kont Pg R Try.f61) = F61 R x0 x1 :=
  have h : ∀ e, den Pg R (cd Try.f61 []) e (kont Pg R Try.f61) = F61 R (e 0) (e 1) := fun e => (den_join Pg R 1 (cd Try.f61 []) (cd Try.f61 [1,1]) e (kont Pg R Try.f61) (fun e => F61_j1 R) _ (by kernel_rfl) (fun e => F61_j1_ok R e) (den_join Pg R 0 (pre 1 (cd Try.f61 [])) (cd Try.f61 [1,0]) e (setN (kont Pg R Try.f61) (fun e => F61_j1 R)) (fun e => F61_j2 R (e 0) (e 1)) _ (by kernel_rfl) (fun e => F61_j2_ok R e) (by kernel_rfl)))
  h _
theorem F61_calls {R : ER} {x0 x1 : Value} {w : World} (h : F61 R x0 x1 w) : Calls Pg 61 ⟨[x0, x1]⟩ w R :=
  calls_of_den Try.func61 (by kernel_rfl) (by kernel_rfl) (F61_den R x0 x1) h
/-! ### 62: slices_SortedFunc -/
def F62 (R : ER) (x0 x1 : Value) : WP :=
  cal Pg R 67 ⟨[x0]⟩ fun v1 =>
  cal Pg R 65 ⟨[v1, x1]⟩ fun v2 =>
  R (.returned v1)
theorem F62_den (R : ER) (x0 x1 : Value) : den Pg R (cd Try.f62 []) (argsEnv [x0, x1]) (kont Pg R Try.f62) = F62 R x0 x1 :=
  have h : ∀ e, den Pg R (cd Try.f62 []) e (kont Pg R Try.f62) = F62 R (e 0) (e 1) := fun e => by kernel_rfl
  h _
theorem F62_calls {R : ER} {x0 x1 : Value} {w : World} (h : F62 R x0 x1 w) : Calls Pg 62 ⟨[x0, x1]⟩ w R :=
  calls_of_den Try.func62 (by kernel_rfl) (by kernel_rfl) (F62_den R x0 x1) h
/-! ### 63: slices_Values -/
def F63 (R : ER) (x0 : Value) : WP :=
  bx 23 x0 fun v1 =>
  R (.returned (.func (.func 68) ⟨[]⟩ ⟨[v1]⟩))
theorem F63_den (R : ER) (x0 : Value) : den Pg R (cd Try.f63 []) (argsEnv [x0]) (kont Pg R Try.f63) = F63 R x0 :=
  have h : ∀ e, den Pg R (cd Try.f63 []) e (kont Pg R Try.f63) = F63 R (e 0) := fun e => by kernel_rfl
  h _
theorem F63_calls {R : ER} {x0 : Value} {w : World} (h : F63 R x0 w) : Calls Pg 63 ⟨[x0]⟩ w R :=
  calls_of_den Try.func63 (by kernel_rfl) (by kernel_rfl) (F63_den R x0) h
/-! ### 64: inherit_order -/
def F64_j1 (R : ER) (x2 x3 : Value) : WP :=
  drewV (
  pv (faO 0 x2) fun v1 =>
  ld1 v1 fun v2 =>
  pv (faO 0 x3) fun v3 =>
  ld1 v3 fun v4 =>
  mem fun w6 => cal Pg noR 70 ⟨[v2, v4]⟩ fun v5 =>
  pv (faO 1 x2) fun v7 =>
  ld1S [w6] v7 fun v8 =>
  pv (faO 1 x3) fun v9 =>
  ld1S [w6] v9 fun v10 =>
  mem fun w12 => cal Pg noR 70 ⟨[v8, v10]⟩ fun v11 =>
  mem fun w14 => valV Pg noR (Instr.buildSlice 22 2 ⟨[(0, v5), (1, v11)]⟩) fun v13 =>
  mem fun w16 => cal Pg noR 69 ⟨[v13]⟩ fun v15 =>
  R (.returned v15))
theorem F64_j1_ok (R : ER) (e : Env) : den Pg R (cd Try.f64 [1,1]) e (kont Pg R Try.f64) = (F64_j1 R (e 2) (e 3)) := by kernel_rfl
def F64 (R : ER) (x0 x1 : Value) : WP :=
  bx 39 x0 fun v17 =>
  bx 39 x1 fun v18 =>
  ldN 2 v17 fun v19 =>
  ldN 2 v18 fun v20 =>
  pv (eqAgg [0,0] v19 v20) fun v21 =>
  cnd v21 (
   R (.returned (.int .i64 0))) (
   F64_j1 R v17 v18)
theorem F64_den (R : ER) (x0 x1 : Value) : den Pg R (cd Try.f64 []) (argsEnv [x0, x1]) (kont Pg R Try.f64) = F64 R x0 x1 :=
  have h : ∀ e, den Pg R (cd Try.f64 []) e (kont Pg R Try.f64) = F64 R (e 0) (e 1) := fun e => (den_join Pg R 1 (cd Try.f64 []) (cd Try.f64 [1,1]) e (kont Pg R Try.f64) (fun e => F64_j1 R (e 2) (e 3)) _ (by kernel_rfl) (fun e => F64_j1_ok R e) (by kernel_rfl))
  h _
theorem F64_calls {R : ER} {x0 x1 : Value} {w : World} (h : F64 R x0 x1 w) : Calls Pg 64 ⟨[x0, x1]⟩ w R :=
  calls_of_den Try.func64 (by kernel_rfl) (by kernel_rfl) (F64_den R x0 x1) h
/-! ### 65: slices_SortFunc -/
def F65 (R : ER) (x0 x1 : Value) : WP :=
  pv (lenS x0) fun v1 =>
  pv (cvI .u64 v1) fun v2 =>
  cal Pg R 72 ⟨[v2]⟩ fun v3 =>
  cal Pg R 71 ⟨[x0, (.int .i64 0), v1, v3, x1]⟩ fun v4 =>
  R (.returned (.tuple ⟨[]⟩))
theorem F65_den (R : ER) (x0 x1 : Value) : den Pg R (cd Try.f65 []) (argsEnv [x0, x1]) (kont Pg R Try.f65) = F65 R x0 x1 :=
  have h : ∀ e, den Pg R (cd Try.f65 []) e (kont Pg R Try.f65) = F65 R (e 0) (e 1) := fun e => by kernel_rfl
  h _
theorem F65_calls {R : ER} {x0 x1 : Value} {w : World} (h : F65 R x0 x1 w) : Calls Pg 65 ⟨[x0, x1]⟩ w R :=
  calls_of_den Try.func65 (by kernel_rfl) (by kernel_rfl) (F65_den R x0 x1) h
/-! ### 66: orpimentref05_Tracker_put -/
def F66_j1 (R : ER) (x0 x3 x7 : Value) : WP :=
  ldN 2 x3 fun v1 =>
  pv (nilO x0) fun v2 =>
  pv (faO 0 v2) fun v3 =>
  stN 2 v3 v1 fun _ =>
  R (.returned x7)
theorem F66_j1_ok (R : ER) (e : Env) : den Pg R (cd Try.f66 [1,1,1,1]) e (kont Pg R Try.f66) = (F66_j1 R (e 0) (e 3) (e 7)) := by kernel_rfl
def F66_j5 (R : ER) (k1 : V6) (x0 x3 x5 x6 x7 x8 : Value) : WP :=
  pv (bin .add x8 (.int .i64 1)) fun v4 =>
  k1 x0 x3 x5 x6 x7 v4
theorem F66_j5_ok (R : ER) (k1 : V6) (e : Env) : den Pg R (cd Try.f66 [1,1,1,0,1,0,0,1,1]) e (setN (inB 0 (setN (kont Pg R Try.f66) (fun e => F66_j1 R (e 0) (e 3) (e 7)))) (fun e => k1 (e 0) (e 3) (e 5) (e 6) (e 7) (e 8))) = (F66_j5 R k1 (e 0) (e 3) (e 5) (e 6) (e 7) (e 8)) := by kernel_rfl
def F66_j6 (R : ER) (k1 : V6) (x0 x3 x5 x6 x7 x8 : Value) : WP :=
  drewV (
  pv (ixS 1 x6 x8) fun v5 =>
  ld1 v5 fun v6 =>
  pv (ixS 1 x5 x8) fun v7 =>
  ld1 v7 fun v8 =>
  pv (bin .neq v6 v8) fun v9 =>
  cnd v9 (
   pv (ixS 1 x6 x8) fun v10 =>
   ld1 v10 fun v11 =>
   pv (bldO [.int .i64 0, .int .i64 0] [(0,1, x8), (1,1, v11)]) fun v12 =>
   valV Pg R (Instr.buildSlice 81 1 ⟨[(0, v12)]⟩) fun v13 =>
   blt Pg R .append ⟨[81,81]⟩ 81 ⟨[false, false]⟩ ⟨[x7, v13]⟩ fun v14 =>
   F66_j5 R k1 x0 x3 x5 x6 v14 x8) (
   F66_j5 R k1 x0 x3 x5 x6 x7 x8))
theorem F66_j6_ok (R : ER) (k1 : V6) (e : Env) : den Pg R (cd Try.f66 [1,1,1,0,1,0,0,1,0]) e (setN (setN (inB 0 (setN (kont Pg R Try.f66) (fun e => F66_j1 R (e 0) (e 3) (e 7)))) (fun e => k1 (e 0) (e 3) (e 5) (e 6) (e 7) (e 8))) (fun e => F66_j5 R k1 (e 0) (e 3) (e 5) (e 6) (e 7) (e 8))) = (F66_j6 R k1 (e 0) (e 3) (e 5) (e 6) (e 7) (e 8)) := (den_block Pg R (cd Try.f66 [1,1,1,0,1,0,0,1,0]) 1 (cd Try.f66 [1,1,1,0,1,0,0,1,0,0]) e (setN (setN (inB 0 (setN (kont Pg R Try.f66) (fun e => F66_j1 R (e 0) (e 3) (e 7)))) (fun e => k1 (e 0) (e 3) (e 5) (e 6) (e 7) (e 8))) (fun e => F66_j5 R k1 (e 0) (e 3) (e 5) (e 6) (e 7) (e 8))) _ (by kernel_rfl) (by kernel_rfl))
def F66_j4 (R : ER) (k1 : V6) (x0 x3 x5 x6 x7 x8 : Value) : WP :=
  F66_j6 R k1 x0 x3 x5 x6 x7 x8
theorem F66_j4_ok (R : ER) (k1 : V6) (e : Env) : den Pg R (cd Try.f66 [1,1,1,0,1,0,0,1]) e (setN (inB 0 (setN (kont Pg R Try.f66) (fun e => F66_j1 R (e 0) (e 3) (e 7)))) (fun e => k1 (e 0) (e 3) (e 5) (e 6) (e 7) (e 8))) = (F66_j4 R k1 (e 0) (e 3) (e 5) (e 6) (e 7) (e 8)) := (den_join Pg R 0 (cd Try.f66 [1,1,1,0,1,0,0,1]) (cd Try.f66 [1,1,1,0,1,0,0,1,1]) e (setN (inB 0 (setN (kont Pg R Try.f66) (fun e => F66_j1 R (e 0) (e 3) (e 7)))) (fun e => k1 (e 0) (e 3) (e 5) (e 6) (e 7) (e 8))) (fun e => F66_j5 R k1 (e 0) (e 3) (e 5) (e 6) (e 7) (e 8)) _ (by kernel_rfl) (fun e => F66_j5_ok R k1 e) (den_conv Pg R (pre 0 (cd Try.f66 [1,1,1,0,1,0,0,1])) (cd Try.f66 [1,1,1,0,1,0,0,1,0]) e (setN (setN (inB 0 (setN (kont Pg R Try.f66) (fun e => F66_j1 R (e 0) (e 3) (e 7)))) (fun e => k1 (e 0) (e 3) (e 5) (e 6) (e 7) (e 8))) (fun e => F66_j5 R k1 (e 0) (e 3) (e 5) (e 6) (e 7) (e 8))) _ (by kernel_rfl) (F66_j6_ok R k1 e)))
def F66_b1 (R : ER) (k1 : V6) (x0 x3 x5 x6 x7 x8 : Value) : WP :=
  pv (lenS x6) fun v15 =>
  pv (bin .lss x8 v15) fun v16 =>
  cnd v16 (
   F66_j4 R k1 x0 x3 x5 x6 x7 x8) (
   F66_j1 R x0 x3 x7)
theorem F66_b1_ok (R : ER) (k1 : V6) (e : Env) : den Pg R (cd Try.f66 [1,1,1,0,1,0,0]) e (setN (inB 0 (setN (kont Pg R Try.f66) (fun e => F66_j1 R (e 0) (e 3) (e 7)))) (fun e => k1 (e 0) (e 3) (e 5) (e 6) (e 7) (e 8))) = (F66_b1 R k1 (e 0) (e 3) (e 5) (e 6) (e 7) (e 8)) := (den_join Pg R 0 (cd Try.f66 [1,1,1,0,1,0,0]) (cd Try.f66 [1,1,1,0,1,0,0,1]) e (setN (inB 0 (setN (kont Pg R Try.f66) (fun e => F66_j1 R (e 0) (e 3) (e 7)))) (fun e => k1 (e 0) (e 3) (e 5) (e 6) (e 7) (e 8))) (fun e => F66_j4 R k1 (e 0) (e 3) (e 5) (e 6) (e 7) (e 8)) _ (by kernel_rfl) (fun e => F66_j4_ok R k1 e) (by kernel_rfl))
noncomputable def F66_l1 (R : ER) (n : Nat) : V6 := Nat.rec (motive := fun _ => V6) (fun _ _ _ _ _ _ => fun _ => False) (fun _ ih => fun x0 x3 x5 x6 x7 x8 => F66_b1 R ih x0 x3 x5 x6 x7 x8) n
theorem F66_l1_succ (R : ER) (n : Nat) (x0 x3 x5 x6 x7 x8 : Value) : F66_l1 R (n + 1) x0 x3 x5 x6 x7 x8 = F66_b1 R (F66_l1 R n) x0 x3 x5 x6 x7 x8 := rfl
theorem F66_l1_ok (R : ER) : ∀ (n : Nat) (e : Env), iterL (den Pg R (cd Try.f66 [1,1,1,0,1,0,0])) n e (inB 0 (setN (kont Pg R Try.f66) (fun e => F66_j1 R (e 0) (e 3) (e 7)))) = F66_l1 R n (e 0) (e 3) (e 5) (e 6) (e 7) (e 8) :=
  iterL_join (den Pg R (cd Try.f66 [1,1,1,0,1,0,0])) (inB 0 (setN (kont Pg R Try.f66) (fun e => F66_j1 R (e 0) (e 3) (e 7)))) (fun n e => F66_l1 R n (e 0) (e 3) (e 5) (e 6) (e 7) (e 8)) (fun _ => rfl) (fun n e => (F66_b1_ok R (F66_l1 R n) e).trans (F66_l1_succ R n (e 0) (e 3) (e 5) (e 6) (e 7) (e 8)).symm)
def F66_j3 (R : ER) (x0 x3 x5 x6 x7 x8 : Value) : WP :=
  exN fun n => F66_l1 R n x0 x3 x5 x6 x7 x8
theorem F66_j3_ok (R : ER) (e : Env) : den Pg R (cd Try.f66 [1,1,1,0,1]) e (setN (kont Pg R Try.f66) (fun e => F66_j1 R (e 0) (e 3) (e 7))) = (F66_j3 R (e 0) (e 3) (e 5) (e 6) (e 7) (e 8)) := (den_block Pg R (cd Try.f66 [1,1,1,0,1]) 0 (cd Try.f66 [1,1,1,0,1,0]) e (setN (kont Pg R Try.f66) (fun e => F66_j1 R (e 0) (e 3) (e 7))) _ (by kernel_rfl) (den_loop Pg R (cd Try.f66 [1,1,1,0,1,0]) (cd Try.f66 [1,1,1,0,1,0,0]) e (inB 0 (setN (kont Pg R Try.f66) (fun e => F66_j1 R (e 0) (e 3) (e 7)))) (fun n e => F66_l1 R n (e 0) (e 3) (e 5) (e 6) (e 7) (e 8)) _ (by kernel_rfl) (F66_l1_ok R) (by kernel_rfl)))
def F66_j2 (R : ER) (x0 x3 x5 x6 x7 : Value) : WP :=
  F66_j3 R x0 x3 x5 x6 x7 (.int .i64 0)
theorem F66_j2_ok (R : ER) (e : Env) : den Pg R (cd Try.f66 [1,1,1,0]) e (setN (kont Pg R Try.f66) (fun e => F66_j1 R (e 0) (e 3) (e 7))) = (F66_j2 R (e 0) (e 3) (e 5) (e 6) (e 7)) := (den_join Pg R 0 (cd Try.f66 [1,1,1,0]) (cd Try.f66 [1,1,1,0,1]) e (setN (kont Pg R Try.f66) (fun e => F66_j1 R (e 0) (e 3) (e 7))) (fun e => F66_j3 R (e 0) (e 3) (e 5) (e 6) (e 7) (e 8)) _ (by kernel_rfl) (fun e => F66_j3_ok R e) (by kernel_rfl))
def F66 (R : ER) (x0 x1 : Value) : WP :=
  bx 32 x1 fun v17 =>
  drewV (
  pv (nilO x0) fun v18 =>
  pv (faO 0 v18) fun v19 =>
  ldN 2 v19 fun v20 =>
  mem fun w22 => cal Pg noR 34 ⟨[v20]⟩ fun v21 =>
  ldNS [w22] 2 v17 fun v23 =>
  mem fun w25 => cal Pg noR 34 ⟨[v23]⟩ fun v24 =>
  F66_j2 R x0 v17 v21 v24 (.slice none 0 0))
theorem F66_den (R : ER) (x0 x1 : Value) : den Pg R (cd Try.f66 []) (argsEnv [x0, x1]) (kont Pg R Try.f66) = F66 R x0 x1 :=
  have h : ∀ e, den Pg R (cd Try.f66 []) e (kont Pg R Try.f66) = F66 R (e 0) (e 1) := fun e => (den_join Pg R 3 (cd Try.f66 []) (cd Try.f66 [1,1,1,1]) e (kont Pg R Try.f66) (fun e => F66_j1 R (e 0) (e 3) (e 7)) _ (by kernel_rfl) (fun e => F66_j1_ok R e) (den_join Pg R 2 (pre 3 (cd Try.f66 [])) (cd Try.f66 [1,1,1,0]) e (setN (kont Pg R Try.f66) (fun e => F66_j1 R (e 0) (e 3) (e 7))) (fun e => F66_j2 R (e 0) (e 3) (e 5) (e 6) (e 7)) _ (by kernel_rfl) (fun e => F66_j2_ok R e) (by kernel_rfl)))
  h _
theorem F66_calls {R : ER} {x0 x1 : Value} {w : World} (h : F66 R x0 x1 w) : Calls Pg 66 ⟨[x0, x1]⟩ w R :=
  calls_of_den Try.func66 (by kernel_rfl) (by kernel_rfl) (F66_den R x0 x1) h
/-! ### 67: slices_Collect -/
def F67 (R : ER) (x0 : Value) : WP :=
  cal Pg R 73 ⟨[(.slice none 0 0), x0]⟩ fun v1 =>
  R (.returned v1)
theorem F67_den (R : ER) (x0 : Value) : den Pg R (cd Try.f67 []) (argsEnv [x0]) (kont Pg R Try.f67) = F67 R x0 :=
  have h : ∀ e, den Pg R (cd Try.f67 []) e (kont Pg R Try.f67) = F67 R (e 0) := fun e => by kernel_rfl
  h _
theorem F67_calls {R : ER} {x0 : Value} {w : World} (h : F67 R x0 w) : Calls Pg 67 ⟨[x0]⟩ w R :=
  calls_of_den Try.func67 (by kernel_rfl) (by kernel_rfl) (F67_den R x0) h
/-! ### 68: slices_Values_68 -/
def F68_b1 (R : ER) (k1 : V4) (x0 x5 x6 x7 : Value) : WP :=
  pv (bin .lss x7 x6) fun v1 =>
  cnd v1 (
   pv (ixS 2 x5 x7) fun v2 =>
  ldN 2 v2 fun v3 =>
  al Pg 39 fun v4 =>
  stN 2 v4 v3 fun _ =>
  ldN 2 v4 fun v5 =>
  calD Pg R x0 ⟨[v5]⟩ fun v6 =>
  pv (unO .not v6) fun v7 =>
  cnd v7 (
   R (.returned (.tuple ⟨[]⟩))) (
   pv (bin .add x7 (.int .i64 1)) fun v8 =>
  k1 x0 x5 x6 v8)) (
   R (.returned (.tuple ⟨[]⟩)))
theorem F68_b1_ok (R : ER) (k1 : V4) (e : Env) : den Pg R (cd Try.f68 [1,0,0]) e (setN (inB 0 (kont Pg R Try.f68)) (fun e => k1 (e 0) (e 5) (e 6) (e 7))) = (F68_b1 R k1 (e 0) (e 5) (e 6) (e 7)) := by kernel_rfl
noncomputable def F68_l1 (R : ER) (n : Nat) : V4 := Nat.rec (motive := fun _ => V4) (fun _ _ _ _ => fun _ => False) (fun _ ih => fun x0 x5 x6 x7 => F68_b1 R ih x0 x5 x6 x7) n
theorem F68_l1_succ (R : ER) (n : Nat) (x0 x5 x6 x7 : Value) : F68_l1 R (n + 1) x0 x5 x6 x7 = F68_b1 R (F68_l1 R n) x0 x5 x6 x7 := rfl
theorem F68_l1_ok (R : ER) : ∀ (n : Nat) (e : Env), iterL (den Pg R (cd Try.f68 [1,0,0])) n e (inB 0 (kont Pg R Try.f68)) = F68_l1 R n (e 0) (e 5) (e 6) (e 7) :=
  iterL_join (den Pg R (cd Try.f68 [1,0,0])) (inB 0 (kont Pg R Try.f68)) (fun n e => F68_l1 R n (e 0) (e 5) (e 6) (e 7)) (fun _ => rfl) (fun n e => (F68_b1_ok R (F68_l1 R n) e).trans (F68_l1_succ R n (e 0) (e 5) (e 6) (e 7)).symm)
def F68_j1 (R : ER) (x0 x5 x6 x7 : Value) : WP :=
  exN fun n => F68_l1 R n x0 x5 x6 x7
theorem F68_j1_ok (R : ER) (e : Env) : den Pg R (cd Try.f68 [1]) e (kont Pg R Try.f68) = (F68_j1 R (e 0) (e 5) (e 6) (e 7)) := (den_block Pg R (cd Try.f68 [1]) 0 (cd Try.f68 [1,0]) e (kont Pg R Try.f68) _ (by kernel_rfl) (den_loop Pg R (cd Try.f68 [1,0]) (cd Try.f68 [1,0,0]) e (inB 0 (kont Pg R Try.f68)) (fun n e => F68_l1 R n (e 0) (e 5) (e 6) (e 7)) _ (by kernel_rfl) (F68_l1_ok R) (by kernel_rfl)))
def F68 (R : ER) (x0 x1 : Value) : WP :=
  ld1 x1 fun v9 =>
  pv (lenS v9) fun v10 =>
  F68_j1 R x0 v9 v10 (.int .i64 0)
theorem F68_den (R : ER) (x0 x1 : Value) : den Pg R (cd Try.f68 []) (argsEnv [x0, x1]) (kont Pg R Try.f68) = F68 R x0 x1 :=
  have h : ∀ e, den Pg R (cd Try.f68 []) e (kont Pg R Try.f68) = F68 R (e 0) (e 1) := fun e => (den_join Pg R 0 (cd Try.f68 []) (cd Try.f68 [1]) e (kont Pg R Try.f68) (fun e => F68_j1 R (e 0) (e 5) (e 6) (e 7)) _ (by kernel_rfl) (fun e => F68_j1_ok R e) (by kernel_rfl))
  h _
theorem F68_calls {R : ER} {x0 x1 : Value} {w : World} (h : F68 R x0 x1 w) : Calls Pg 68 ⟨[x0, x1]⟩ w R :=
  calls_of_den Try.func68 (by kernel_rfl) (by kernel_rfl) (F68_den R x0 x1) h
/-! ### 69: cmp_Or -/
def F69_j1 (R : ER) (x3 : Value) : WP :=
  R (.returned x3)
theorem F69_j1_ok (R : ER) (e : Env) : den Pg R (cd Try.f69 [1,1,1]) e (kont Pg R Try.f69) = (F69_j1 R (e 3)) := by kernel_rfl
def F69_b1 (R : ER) (k1 : V4) (x3 x6 x7 x8 : Value) : WP :=
  pv (bin .lss x8 x7) fun v1 =>
  cnd v1 (
   pv (ixS 1 x6 x8) fun v2 =>
  ld1 v2 fun v3 =>
  pv (bin .neq v3 x3) fun v4 =>
  cnd v4 (
   R (.returned v3)) (
   pv (bin .add x8 (.int .i64 1)) fun v5 =>
  k1 x3 x6 x7 v5)) (
   F69_j1 R x3)
theorem F69_b1_ok (R : ER) (k1 : V4) (e : Env) : den Pg R (cd Try.f69 [1,1,0,1,0,0]) e (setN (inB 0 (setN (kont Pg R Try.f69) (fun e => F69_j1 R (e 3)))) (fun e => k1 (e 3) (e 6) (e 7) (e 8))) = (F69_b1 R k1 (e 3) (e 6) (e 7) (e 8)) := by kernel_rfl
noncomputable def F69_l1 (R : ER) (n : Nat) : V4 := Nat.rec (motive := fun _ => V4) (fun _ _ _ _ => fun _ => False) (fun _ ih => fun x3 x6 x7 x8 => F69_b1 R ih x3 x6 x7 x8) n
theorem F69_l1_succ (R : ER) (n : Nat) (x3 x6 x7 x8 : Value) : F69_l1 R (n + 1) x3 x6 x7 x8 = F69_b1 R (F69_l1 R n) x3 x6 x7 x8 := rfl
theorem F69_l1_ok (R : ER) : ∀ (n : Nat) (e : Env), iterL (den Pg R (cd Try.f69 [1,1,0,1,0,0])) n e (inB 0 (setN (kont Pg R Try.f69) (fun e => F69_j1 R (e 3)))) = F69_l1 R n (e 3) (e 6) (e 7) (e 8) :=
  iterL_join (den Pg R (cd Try.f69 [1,1,0,1,0,0])) (inB 0 (setN (kont Pg R Try.f69) (fun e => F69_j1 R (e 3)))) (fun n e => F69_l1 R n (e 3) (e 6) (e 7) (e 8)) (fun _ => rfl) (fun n e => (F69_b1_ok R (F69_l1 R n) e).trans (F69_l1_succ R n (e 3) (e 6) (e 7) (e 8)).symm)
def F69_j3 (R : ER) (x3 x6 x7 x8 : Value) : WP :=
  exN fun n => F69_l1 R n x3 x6 x7 x8
theorem F69_j3_ok (R : ER) (e : Env) : den Pg R (cd Try.f69 [1,1,0,1]) e (setN (kont Pg R Try.f69) (fun e => F69_j1 R (e 3))) = (F69_j3 R (e 3) (e 6) (e 7) (e 8)) := (den_block Pg R (cd Try.f69 [1,1,0,1]) 0 (cd Try.f69 [1,1,0,1,0]) e (setN (kont Pg R Try.f69) (fun e => F69_j1 R (e 3))) _ (by kernel_rfl) (den_loop Pg R (cd Try.f69 [1,1,0,1,0]) (cd Try.f69 [1,1,0,1,0,0]) e (inB 0 (setN (kont Pg R Try.f69) (fun e => F69_j1 R (e 3)))) (fun n e => F69_l1 R n (e 3) (e 6) (e 7) (e 8)) _ (by kernel_rfl) (F69_l1_ok R) (by kernel_rfl)))
def F69_j2 (R : ER) (x0 x3 : Value) : WP :=
  pv (lenS x0) fun v6 =>
  F69_j3 R x3 x0 v6 (.int .i64 0)
theorem F69_j2_ok (R : ER) (e : Env) : den Pg R (cd Try.f69 [1,1,0]) e (setN (kont Pg R Try.f69) (fun e => F69_j1 R (e 3))) = (F69_j2 R (e 0) (e 3)) := (den_join Pg R 0 (cd Try.f69 [1,1,0]) (cd Try.f69 [1,1,0,1]) e (setN (kont Pg R Try.f69) (fun e => F69_j1 R (e 3))) (fun e => F69_j3 R (e 3) (e 6) (e 7) (e 8)) _ (by kernel_rfl) (fun e => F69_j3_ok R e) (by kernel_rfl))
def F69 (R : ER) (x0 : Value) : WP :=
  F69_j2 R x0 (.int .i64 0)
theorem F69_den (R : ER) (x0 : Value) : den Pg R (cd Try.f69 []) (argsEnv [x0]) (kont Pg R Try.f69) = F69 R x0 :=
  have h : ∀ e, den Pg R (cd Try.f69 []) e (kont Pg R Try.f69) = F69 R (e 0) := fun e => (den_join Pg R 2 (cd Try.f69 []) (cd Try.f69 [1,1,1]) e (kont Pg R Try.f69) (fun e => F69_j1 R (e 3)) _ (by kernel_rfl) (fun e => F69_j1_ok R e) (den_join Pg R 1 (pre 2 (cd Try.f69 [])) (cd Try.f69 [1,1,0]) e (setN (kont Pg R Try.f69) (fun e => F69_j1 R (e 3))) (fun e => F69_j2 R (e 0) (e 3)) _ (by kernel_rfl) (fun e => F69_j2_ok R e) (by kernel_rfl)))
  h _
theorem F69_calls {R : ER} {x0 : Value} {w : World} (h : F69 R x0 w) : Calls Pg 69 ⟨[x0]⟩ w R :=
  calls_of_den Try.func69 (by kernel_rfl) (by kernel_rfl) (F69_den R x0) h
/-! ### 70: cmp_Compare -/
def F70_j1 (R : ER) (x0 x1 x6 : Value) : WP :=
  cnd x6 (
   R (.returned (.int .i64 1))) (
   pv (bin .lss x0 x1) fun v1 =>
  cnd v1 (
   R (.returned (.int .i64 (-1)))) (
   pv (bin .gtr x0 x1) fun v2 =>
  cnd v2 (
   R (.returned (.int .i64 1))) (
   R (.returned (.int .i64 0)))))
theorem F70_j1_ok (R : ER) (e : Env) : den Pg R (cd Try.f70 [1,1,1,1]) e (kont Pg R Try.f70) = (F70_j1 R (e 0) (e 1) (e 6)) := by kernel_rfl
def F70 (R : ER) (x0 x1 : Value) : WP :=
  cal Pg R 74 ⟨[x0]⟩ fun v3 =>
  cal Pg R 74 ⟨[x1]⟩ fun v4 =>
  cnd v3 (
   cnd v4 (
    R (.returned (.int .i64 0))) (
    R (.returned (.int .i64 (-1))))) (
   F70_j1 R x0 x1 v4)
theorem F70_den (R : ER) (x0 x1 : Value) : den Pg R (cd Try.f70 []) (argsEnv [x0, x1]) (kont Pg R Try.f70) = F70 R x0 x1 :=
  have h : ∀ e, den Pg R (cd Try.f70 []) e (kont Pg R Try.f70) = F70 R (e 0) (e 1) := fun e => (den_join Pg R 3 (cd Try.f70 []) (cd Try.f70 [1,1,1,1]) e (kont Pg R Try.f70) (fun e => F70_j1 R (e 0) (e 1) (e 6)) _ (by kernel_rfl) (fun e => F70_j1_ok R e) (by kernel_rfl))
  h _
theorem F70_calls {R : ER} {x0 x1 : Value} {w : World} (h : F70 R x0 x1 w) : Calls Pg 70 ⟨[x0, x1]⟩ w R :=
  calls_of_den Try.func70 (by kernel_rfl) (by kernel_rfl) (F70_den R x0 x1) h
/-! ### 73: slices_AppendSeq -/
def F73_b1 (R : ER) (N : WP) (Bk : WP) (Rt : WP) (x2 x5 : Value) : WP :=
  ld1 x2 fun v1 =>
  ldN 2 x5 fun v2 =>
  valV Pg R (Instr.buildSlice 23 1 ⟨[(0, v2)]⟩) fun v3 =>
  blt Pg R .append ⟨[23,23]⟩ 23 ⟨[false, false]⟩ ⟨[v1, v3]⟩ fun v4 =>
  st1 x2 v4 fun _ =>
  N
theorem F73_b1_ok (R : ER) (N : WP) (Bk : WP) (Rt : WP) (e : Env) : den Pg R (cd Try.f73 [1,0,1,0,1]) e (kontN 0 N Bk Rt) = (F73_b1 R N Bk Rt (e 2) (e 5)) := by kernel_rfl
def F73_af (R : ER) (x2 x4 x6 : Value) : WP :=
  ld1 x2 fun v6 =>
  R (.returned v6)
def F73_rt (R : ER) (x2 x4 x6 : Value) : WP :=
  R (.returned x4)
def F73_rb (x2 x4 x6 : Value) (B : WP → WP) (N Bk Rt : WP) (p0 : Value) : WP :=
  al Pg 39 fun v5 =>
  stN 2 v5 p0 fun _ =>
  B (F73_b1 noR N Bk Rt x2 v5)
def F73_rf (R : ER) (x2 x4 x6 : Value) : WP :=
  rngP Pg R 0 x6 (fun B N Bk Rt ys => rbm1 (F73_rb x2 x4 x6 B N Bk Rt) ys) (fun R' => F73_af R' x2 x4 x6) (fun R' => F73_rt R' x2 x4 x6)
def F73 (R : ER) (x0 x1 : Value) : WP :=
  bx 23 x0 fun v7 =>
  F73_rf R v7 (.slice none 0 0) x1
theorem F73_calls {R : ER} {x0 x1 : Value} {w : World} (h : F73 R x0 x1 w) : Calls Pg 73 ⟨[x0, x1]⟩ w R :=
  calls_of_rf (p := [1,0,1]) (bi := 0) (g := rfOp (cd Try.f73 [1,0,1,0])) (ps := [7]) (assign := cd Try.f73 [1,0,1,0,0]) (body := cd Try.f73 [1,0,1,0,1]) (RF := fun e => F73_rf R (e 2) (e 4) (e 6)) Try.func73 (by kernel_rfl) (by kernel_rfl) (by kernel_rfl)
    (fun e => rngP_congr (fun B N Bk Rt ys => denR_1 (f := F73_rb (e 2) (e 4) (e 6) B N Bk Rt) (fun p0 => den_begin (fun e' => F73_b1 noR N Bk Rt (e' 2) (e' 5)) (fun e' => F73_b1_ok noR N Bk Rt e') (by kernel_rfl)) ys) (fun R' => by kernel_rfl) (fun R' => by kernel_rfl))
    (by have hh : ∀ e, den Pg R (preP [1,0,1] (cd Try.f73 [])) e { n := fun e => F73_rf R (e 2) (e 4) (e 6), x := fun _ _ _ => False, r := resV Pg R (Try.f73).results.toList } = F73 R (e 0) (e 1) := (fun e => by kernel_rfl)
        exact hh _) h
/-! ### 74: cmp_isNaN -/
def F74 (R : ER) (x0 : Value) : WP :=
  pv (bin .neq x0 x0) fun v1 =>
  R (.returned v1)
theorem F74_den (R : ER) (x0 : Value) : den Pg R (cd Try.f74 []) (argsEnv [x0]) (kont Pg R Try.f74) = F74 R x0 :=
  have h : ∀ e, den Pg R (cd Try.f74 []) e (kont Pg R Try.f74) = F74 R (e 0) := fun e => by kernel_rfl
  h _
theorem F74_calls {R : ER} {x0 : Value} {w : World} (h : F74 R x0 w) : Calls Pg 74 ⟨[x0]⟩ w R :=
  calls_of_den Try.func74 (by kernel_rfl) (by kernel_rfl) (F74_den R x0) h
end Go.Proofs.Ytagcifbfokneoaa.Den
end
