/- Printed by a program of this session: what the functions mean, and that the model means just that. Conditions: none. -/
import Derived.Test.YthcekppbbanfeaaGreatDenRange
set_option linter.unusedVariables false
set_option maxRecDepth 100000
namespace Go.Proofs.YthcekppbbanfeaaGreat.Den
open Go
/-! ### 77: mqueue_waiting_77 -/
def F77 (R : ER) (x0 : Value) : WP :=
  al Pg 115 fun v1 =>
  pv (nilO x0) fun v2 =>
  pv (faO 0 v2) fun v3 =>
  ld1 v3 fun v4 =>
  pv (ixS 2 v4 (.int .i64 0)) fun v5 =>
  ldN 2 v5 fun v6 =>
  al Pg 115 fun v7 =>
  stN 2 v7 v6 fun _ =>
  pv (nilO x0) fun v8 =>
  pv (faO 0 v8) fun v9 =>
  ld1 v9 fun v10 =>
  cal Pg R 101 ⟨[v10, (.int .i64 0), (.int .i64 1)]⟩ fun v11 =>
  pv (nilO x0) fun v12 =>
  pv (faO 0 v12) fun v13 =>
  st1 v13 v11 fun _ =>
  ldN 2 v7 fun v14 =>
  stN 2 v1 v14 fun _ =>
  ldN 2 v1 fun v15 => R (.returned v15)
theorem F77_den (R : ER) (x0 : Value) : den Pg R (cd Tryz.f77 []) (argsEnv [x0]) (kont Pg R Tryz.f77) = F77 R x0 :=
  have h : ∀ e, den Pg R (cd Tryz.f77 []) e (kont Pg R Tryz.f77) = F77 R (e 0) := fun e => by kernel_rfl
  h _
theorem F77_calls {R : ER} {x0 : Value} {w : World} (h : F77 R x0 w) : Calls Pg 77 ⟨[x0]⟩ w R :=
  calls_of_den Tryz.func77 (by kernel_rfl) (by kernel_rfl) (F77_den R x0) h
/-! ### 78: heap_Push -/
def F78 (R : ER) (x0 x1 : Value) : WP :=
  ivk Pg R x0 "Push" ⟨[x1]⟩ fun v1 =>
  ivk Pg R x0 "Len" ⟨[]⟩ fun v2 =>
  pv (bin .sub v2 (.int .i64 1)) fun v3 =>
  cal Pg R 102 ⟨[x0, v3]⟩ fun v4 =>
  R (.returned (.tuple ⟨[]⟩))
theorem F78_den (R : ER) (x0 x1 : Value) : den Pg R (cd Tryz.f78 []) (argsEnv [x0, x1]) (kont Pg R Tryz.f78) = F78 R x0 x1 :=
  have h : ∀ e, den Pg R (cd Tryz.f78 []) e (kont Pg R Tryz.f78) = F78 R (e 0) (e 1) := fun e => by kernel_rfl
  h _
theorem F78_calls {R : ER} {x0 x1 : Value} {w : World} (h : F78 R x0 x1 w) : Calls Pg 78 ⟨[x0, x1]⟩ w R :=
  calls_of_den Tryz.func78 (by kernel_rfl) (by kernel_rfl) (F78_den R x0 x1) h
/-! ### 79: heap_down -/
def F79_j1 (R : ER) (x1 x7 : Value) : WP :=
  pv (bin .gtr x7 x1) fun v1 =>
  R (.returned v1)
theorem F79_j1_ok (R : ER) (e : Env) : den Pg R (cd Tryz.f79 [1,1,1]) e (kont Pg R Tryz.f79) = (F79_j1 R (e 1) (e 7)) := by kernel_rfl
def F79_j4 (R : ER) (k1 : V4) (x0 x1 x2 x7 x9 : Value) : WP :=
  ivk Pg R x0 "Less" ⟨[x9, x7]⟩ fun v2 =>
  pv (unO .not v2) fun v3 =>
  cnd v3 (
   F79_j1 R x1 x7) (
   ivk Pg R x0 "Swap" ⟨[x7, x9]⟩ fun v4 =>
  k1 x0 x1 x2 x9)
theorem F79_j4_ok (R : ER) (k1 : V4) (e : Env) : den Pg R (cd Tryz.f79 [1,1,0,0,0,0,1,1,1,1]) e (inB 1 (setN (inB 0 (setN (kont Pg R Tryz.f79) (fun e => F79_j1 R (e 1) (e 7)))) (fun e => k1 (e 0) (e 1) (e 2) (e 7)))) = (F79_j4 R k1 (e 0) (e 1) (e 2) (e 7) (e 9)) := by kernel_rfl
def F79_j5 (R : ER) (k1 : V4) (x0 x1 x2 x7 x8 x9 : Value) : WP :=
  pv (bin .add x8 (.int .i64 1)) fun v5 =>
  pv (bin .lss v5 x2) fun v6 =>
  gd v6 true (pv (some x0)) fun v7 =>
  gd v6 true (pv (some v5)) fun v8 =>
  gd v6 true (pv (some x8)) fun v9 =>
  gd v6 true (ivk Pg R v7 "Less" ⟨[v8, v9]⟩) fun v10 =>
  pv (pickO v6 v10 (.bool false)) fun v11 =>
  cnd v11 (
   F79_j4 R k1 x0 x1 x2 x7 v5) (
   F79_j4 R k1 x0 x1 x2 x7 x9)
theorem F79_j5_ok (R : ER) (k1 : V4) (e : Env) : den Pg R (cd Tryz.f79 [1,1,0,0,0,0,1,1,1,0]) e (setN (inB 1 (setN (inB 0 (setN (kont Pg R Tryz.f79) (fun e => F79_j1 R (e 1) (e 7)))) (fun e => k1 (e 0) (e 1) (e 2) (e 7)))) (fun e => F79_j4 R k1 (e 0) (e 1) (e 2) (e 7) (e 9))) = (F79_j5 R k1 (e 0) (e 1) (e 2) (e 7) (e 8) (e 9)) := (by kernel_rfl)
def F79_j3 (R : ER) (k1 : V4) (x0 x1 x2 x7 x8 : Value) : WP :=
  F79_j5 R k1 x0 x1 x2 x7 x8 x8
theorem F79_j3_ok (R : ER) (k1 : V4) (e : Env) : den Pg R (cd Tryz.f79 [1,1,0,0,0,0,1,1]) e (inB 1 (setN (inB 0 (setN (kont Pg R Tryz.f79) (fun e => F79_j1 R (e 1) (e 7)))) (fun e => k1 (e 0) (e 1) (e 2) (e 7)))) = (F79_j3 R k1 (e 0) (e 1) (e 2) (e 7) (e 8)) := (den_join Pg R 1 (cd Tryz.f79 [1,1,0,0,0,0,1,1]) (cd Tryz.f79 [1,1,0,0,0,0,1,1,1,1]) e (inB 1 (setN (inB 0 (setN (kont Pg R Tryz.f79) (fun e => F79_j1 R (e 1) (e 7)))) (fun e => k1 (e 0) (e 1) (e 2) (e 7)))) (fun e => F79_j4 R k1 (e 0) (e 1) (e 2) (e 7) (e 9)) _ (by kernel_rfl) (fun e => F79_j4_ok R k1 e) (den_join Pg R 0 (pre 1 (cd Tryz.f79 [1,1,0,0,0,0,1,1])) (cd Tryz.f79 [1,1,0,0,0,0,1,1,1,0]) e (setN (inB 1 (setN (inB 0 (setN (kont Pg R Tryz.f79) (fun e => F79_j1 R (e 1) (e 7)))) (fun e => k1 (e 0) (e 1) (e 2) (e 7)))) (fun e => F79_j4 R k1 (e 0) (e 1) (e 2) (e 7) (e 9))) (fun e => F79_j5 R k1 (e 0) (e 1) (e 2) (e 7) (e 8) (e 9)) _ (by kernel_rfl) (fun e => F79_j5_ok R k1 e) (by kernel_rfl)))
def F79_b1 (R : ER) (k1 : V4) (x0 x1 x2 x7 : Value) : WP :=
  pv (bin .mul (.int .i64 2) x7) fun v12 =>
  pv (bin .add v12 (.int .i64 1)) fun v13 =>
  pv (bin .geq v13 x2) fun v14 =>
  gd v14 false (pv (some v13)) fun v15 =>
  gd v14 false (pv (bin .lss v15 (.int .i64 0))) fun v16 =>
  pv (pickO v14 (.bool true) v16) fun v17 =>
  cnd v17 (
   F79_j1 R x1 x7) (
   F79_j3 R k1 x0 x1 x2 x7 v13)
theorem F79_b1_ok (R : ER) (k1 : V4) (e : Env) : den Pg R (cd Tryz.f79 [1,1,0,0,0]) e (setN (inB 0 (setN (kont Pg R Tryz.f79) (fun e => F79_j1 R (e 1) (e 7)))) (fun e => k1 (e 0) (e 1) (e 2) (e 7))) = (F79_b1 R k1 (e 0) (e 1) (e 2) (e 7)) := (den_block Pg R (cd Tryz.f79 [1,1,0,0,0]) 1 (cd Tryz.f79 [1,1,0,0,0,0]) e (setN (inB 0 (setN (kont Pg R Tryz.f79) (fun e => F79_j1 R (e 1) (e 7)))) (fun e => k1 (e 0) (e 1) (e 2) (e 7))) _ (by kernel_rfl) (den_join Pg R 1 (cd Tryz.f79 [1,1,0,0,0,0]) (cd Tryz.f79 [1,1,0,0,0,0,1,1]) e (inB 1 (setN (inB 0 (setN (kont Pg R Tryz.f79) (fun e => F79_j1 R (e 1) (e 7)))) (fun e => k1 (e 0) (e 1) (e 2) (e 7)))) (fun e => F79_j3 R k1 (e 0) (e 1) (e 2) (e 7) (e 8)) _ (by kernel_rfl) (fun e => F79_j3_ok R k1 e) (by kernel_rfl)))
noncomputable def F79_l1 (R : ER) (n : Nat) : V4 := Nat.rec (motive := fun _ => V4) (fun _ _ _ _ => fun _ => False) (fun _ ih => fun x0 x1 x2 x7 => F79_b1 R ih x0 x1 x2 x7) n
theorem F79_l1_succ (R : ER) (n : Nat) (x0 x1 x2 x7 : Value) : F79_l1 R (n + 1) x0 x1 x2 x7 = F79_b1 R (F79_l1 R n) x0 x1 x2 x7 := rfl
theorem F79_l1_ok (R : ER) : ∀ (n : Nat) (e : Env), iterL (den Pg R (cd Tryz.f79 [1,1,0,0,0])) n e (inB 0 (setN (kont Pg R Tryz.f79) (fun e => F79_j1 R (e 1) (e 7)))) = F79_l1 R n (e 0) (e 1) (e 2) (e 7) :=
  iterL_join (den Pg R (cd Tryz.f79 [1,1,0,0,0])) (inB 0 (setN (kont Pg R Tryz.f79) (fun e => F79_j1 R (e 1) (e 7)))) (fun n e => F79_l1 R n (e 0) (e 1) (e 2) (e 7)) (fun _ => rfl) (fun n e => (F79_b1_ok R (F79_l1 R n) e).trans (F79_l1_succ R n (e 0) (e 1) (e 2) (e 7)).symm)
def F79_j2 (R : ER) (x0 x1 x2 x7 : Value) : WP :=
  exN fun n => F79_l1 R n x0 x1 x2 x7
theorem F79_j2_ok (R : ER) (e : Env) : den Pg R (cd Tryz.f79 [1,1,0]) e (setN (kont Pg R Tryz.f79) (fun e => F79_j1 R (e 1) (e 7))) = (F79_j2 R (e 0) (e 1) (e 2) (e 7)) := (den_block Pg R (cd Tryz.f79 [1,1,0]) 0 (cd Tryz.f79 [1,1,0,0]) e (setN (kont Pg R Tryz.f79) (fun e => F79_j1 R (e 1) (e 7))) _ (by kernel_rfl) (den_loop Pg R (cd Tryz.f79 [1,1,0,0]) (cd Tryz.f79 [1,1,0,0,0]) e (inB 0 (setN (kont Pg R Tryz.f79) (fun e => F79_j1 R (e 1) (e 7)))) (fun n e => F79_l1 R n (e 0) (e 1) (e 2) (e 7)) _ (by kernel_rfl) (F79_l1_ok R) (by kernel_rfl)))
def F79 (R : ER) (x0 x1 x2 : Value) : WP :=
  F79_j2 R x0 x1 x2 x1
theorem F79_den (R : ER) (x0 x1 x2 : Value) : den Pg R (cd Tryz.f79 []) (argsEnv [x0, x1, x2]) (kont Pg R Tryz.f79) = F79 R x0 x1 x2 :=
  have h : ∀ e, den Pg R (cd Tryz.f79 []) e (kont Pg R Tryz.f79) = F79 R (e 0) (e 1) (e 2) := fun e => (den_join Pg R 2 (cd Tryz.f79 []) (cd Tryz.f79 [1,1,1]) e (kont Pg R Tryz.f79) (fun e => F79_j1 R (e 1) (e 7)) _ (by kernel_rfl) (fun e => F79_j1_ok R e) (den_join Pg R 1 (pre 2 (cd Tryz.f79 [])) (cd Tryz.f79 [1,1,0]) e (setN (kont Pg R Tryz.f79) (fun e => F79_j1 R (e 1) (e 7))) (fun e => F79_j2 R (e 0) (e 1) (e 2) (e 7)) _ (by kernel_rfl) (fun e => F79_j2_ok R e) (by kernel_rfl)))
  h _
theorem F79_calls {R : ER} {x0 x1 x2 : Value} {w : World} (h : F79 R x0 x1 x2 w) : Calls Pg 79 ⟨[x0, x1, x2]⟩ w R :=
  calls_of_den Tryz.func79 (by kernel_rfl) (by kernel_rfl) (F79_den R x0 x1 x2) h
/-! ### 80: slices_Delete -/
def F80_j1 (R : ER) (x0 x1 x2 : Value) : WP :=
  pv (lenS x0) fun v1 =>
  drewV (
  pv (slS 4 x0 none (some x1)) fun v2 =>
  pv (slS 4 x0 (some x2) none) fun v3 =>
  mem fun w5 => blt Pg noR .append ⟨[57,57]⟩ 57 ⟨[false, false]⟩ ⟨[v2, v3]⟩ fun v4 =>
  pv (lenS v4) fun v6 =>
  pv (slS 4 v4 (some v6) (some v1)) fun v7 =>
  blt Pg R .clear ⟨[57]⟩ 0 ⟨[false]⟩ ⟨[v7]⟩ fun _ =>
  R (.returned v4))
theorem F80_j1_ok (R : ER) (e : Env) : den Pg R (cd Tryz.f80 [1,1,1]) e (kont Pg R Tryz.f80) = (F80_j1 R (e 0) (e 1) (e 2)) := by kernel_rfl
def F80 (R : ER) (x0 x1 x2 : Value) : WP :=
  pv (lenS x0) fun v8 =>
  valV Pg R (Instr.sliceAt 57 x0 (some x1) (some x2) (some v8)) fun v9 =>
  pv (bin .eql x1 x2) fun v10 =>
  cnd v10 (
   R (.returned x0)) (
   F80_j1 R x0 x1 x2)
theorem F80_den (R : ER) (x0 x1 x2 : Value) : den Pg R (cd Tryz.f80 []) (argsEnv [x0, x1, x2]) (kont Pg R Tryz.f80) = F80 R x0 x1 x2 :=
  have h : ∀ e, den Pg R (cd Tryz.f80 []) e (kont Pg R Tryz.f80) = F80 R (e 0) (e 1) (e 2) := fun e => (den_join Pg R 2 (cd Tryz.f80 []) (cd Tryz.f80 [1,1,1]) e (kont Pg R Tryz.f80) (fun e => F80_j1 R (e 0) (e 1) (e 2)) _ (by kernel_rfl) (fun e => F80_j1_ok R e) (by kernel_rfl))
  h _
theorem F80_calls {R : ER} {x0 x1 x2 : Value} {w : World} (h : F80 R x0 x1 x2 w) : Calls Pg 80 ⟨[x0, x1, x2]⟩ w R :=
  calls_of_den Tryz.func80 (by kernel_rfl) (by kernel_rfl) (F80_den R x0 x1 x2) h
/-! ### 81: slices_DeleteFunc -/
def F81_j2 (R : ER) (x0 x5 : Value) : WP :=
  pv (slS 4 x0 (some x5) none) fun v1 =>
  blt Pg R .clear ⟨[57]⟩ 0 ⟨[false]⟩ ⟨[v1]⟩ fun _ =>
  pv (slS 4 x0 none (some x5)) fun v2 =>
  R (.returned v2)
theorem F81_j2_ok (R : ER) (e : Env) : den Pg R (cd Tryz.f81 [1,1,1,1]) e (kont Pg R Tryz.f81) = (F81_j2 R (e 0) (e 5)) := by kernel_rfl
def F81_j6 (R : ER) (k1 : V4) (x0 x1 x5 x6 : Value) : WP :=
  pv (bin .add x6 (.int .i64 1)) fun v3 =>
  k1 x0 x1 x5 v3
theorem F81_j6_ok (R : ER) (k1 : V4) (e : Env) : den Pg R (cd Tryz.f81 [1,1,1,0,1,0,0,1,1]) e (setN (inB 0 (setN (kont Pg R Tryz.f81) (fun e => F81_j2 R (e 0) (e 5)))) (fun e => k1 (e 0) (e 1) (e 5) (e 6))) = (F81_j6 R k1 (e 0) (e 1) (e 5) (e 6)) := by kernel_rfl
def F81_j7 (R : ER) (k1 : V4) (x0 x1 x5 x6 : Value) : WP :=
  pv (ixS 4 x0 x6) fun v4 =>
  ldN 4 v4 fun v5 =>
  al Pg 113 fun v6 =>
  stN 4 v6 v5 fun _ =>
  ldN 4 v6 fun v7 =>
  calD Pg R x1 ⟨[v7]⟩ fun v8 =>
  pv (unO .not v8) fun v9 =>
  cnd v9 (
   ldN 4 v6 fun v10 =>
   pv (ixS 4 x0 x5) fun v11 =>
   stN 4 v11 v10 fun _ =>
   pv (bin .add x5 (.int .i64 1)) fun v12 =>
   F81_j6 R k1 x0 x1 v12 x6) (
   F81_j6 R k1 x0 x1 x5 x6)
theorem F81_j7_ok (R : ER) (k1 : V4) (e : Env) : den Pg R (cd Tryz.f81 [1,1,1,0,1,0,0,1,0]) e (setN (setN (inB 0 (setN (kont Pg R Tryz.f81) (fun e => F81_j2 R (e 0) (e 5)))) (fun e => k1 (e 0) (e 1) (e 5) (e 6))) (fun e => F81_j6 R k1 (e 0) (e 1) (e 5) (e 6))) = (F81_j7 R k1 (e 0) (e 1) (e 5) (e 6)) := (den_block Pg R (cd Tryz.f81 [1,1,1,0,1,0,0,1,0]) 1 (cd Tryz.f81 [1,1,1,0,1,0,0,1,0,0]) e (setN (setN (inB 0 (setN (kont Pg R Tryz.f81) (fun e => F81_j2 R (e 0) (e 5)))) (fun e => k1 (e 0) (e 1) (e 5) (e 6))) (fun e => F81_j6 R k1 (e 0) (e 1) (e 5) (e 6))) _ (by kernel_rfl) (by kernel_rfl))
def F81_j5 (R : ER) (k1 : V4) (x0 x1 x5 x6 : Value) : WP :=
  F81_j7 R k1 x0 x1 x5 x6
theorem F81_j5_ok (R : ER) (k1 : V4) (e : Env) : den Pg R (cd Tryz.f81 [1,1,1,0,1,0,0,1]) e (setN (inB 0 (setN (kont Pg R Tryz.f81) (fun e => F81_j2 R (e 0) (e 5)))) (fun e => k1 (e 0) (e 1) (e 5) (e 6))) = (F81_j5 R k1 (e 0) (e 1) (e 5) (e 6)) := (den_join Pg R 0 (cd Tryz.f81 [1,1,1,0,1,0,0,1]) (cd Tryz.f81 [1,1,1,0,1,0,0,1,1]) e (setN (inB 0 (setN (kont Pg R Tryz.f81) (fun e => F81_j2 R (e 0) (e 5)))) (fun e => k1 (e 0) (e 1) (e 5) (e 6))) (fun e => F81_j6 R k1 (e 0) (e 1) (e 5) (e 6)) _ (by kernel_rfl) (fun e => F81_j6_ok R k1 e) (den_conv Pg R (pre 0 (cd Tryz.f81 [1,1,1,0,1,0,0,1])) (cd Tryz.f81 [1,1,1,0,1,0,0,1,0]) e (setN (setN (inB 0 (setN (kont Pg R Tryz.f81) (fun e => F81_j2 R (e 0) (e 5)))) (fun e => k1 (e 0) (e 1) (e 5) (e 6))) (fun e => F81_j6 R k1 (e 0) (e 1) (e 5) (e 6))) _ (by kernel_rfl) (F81_j7_ok R k1 e)))
def F81_b1 (R : ER) (k1 : V4) (x0 x1 x5 x6 : Value) : WP :=
  pv (lenS x0) fun v13 =>
  pv (bin .lss x6 v13) fun v14 =>
  cnd v14 (
   F81_j5 R k1 x0 x1 x5 x6) (
   F81_j2 R x0 x5)
theorem F81_b1_ok (R : ER) (k1 : V4) (e : Env) : den Pg R (cd Tryz.f81 [1,1,1,0,1,0,0]) e (setN (inB 0 (setN (kont Pg R Tryz.f81) (fun e => F81_j2 R (e 0) (e 5)))) (fun e => k1 (e 0) (e 1) (e 5) (e 6))) = (F81_b1 R k1 (e 0) (e 1) (e 5) (e 6)) := (den_join Pg R 0 (cd Tryz.f81 [1,1,1,0,1,0,0]) (cd Tryz.f81 [1,1,1,0,1,0,0,1]) e (setN (inB 0 (setN (kont Pg R Tryz.f81) (fun e => F81_j2 R (e 0) (e 5)))) (fun e => k1 (e 0) (e 1) (e 5) (e 6))) (fun e => F81_j5 R k1 (e 0) (e 1) (e 5) (e 6)) _ (by kernel_rfl) (fun e => F81_j5_ok R k1 e) (by kernel_rfl))
noncomputable def F81_l1 (R : ER) (n : Nat) : V4 := Nat.rec (motive := fun _ => V4) (fun _ _ _ _ => fun _ => False) (fun _ ih => fun x0 x1 x5 x6 => F81_b1 R ih x0 x1 x5 x6) n
theorem F81_l1_succ (R : ER) (n : Nat) (x0 x1 x5 x6 : Value) : F81_l1 R (n + 1) x0 x1 x5 x6 = F81_b1 R (F81_l1 R n) x0 x1 x5 x6 := rfl
theorem F81_l1_ok (R : ER) : ∀ (n : Nat) (e : Env), iterL (den Pg R (cd Tryz.f81 [1,1,1,0,1,0,0])) n e (inB 0 (setN (kont Pg R Tryz.f81) (fun e => F81_j2 R (e 0) (e 5)))) = F81_l1 R n (e 0) (e 1) (e 5) (e 6) :=
  iterL_join (den Pg R (cd Tryz.f81 [1,1,1,0,1,0,0])) (inB 0 (setN (kont Pg R Tryz.f81) (fun e => F81_j2 R (e 0) (e 5)))) (fun n e => F81_l1 R n (e 0) (e 1) (e 5) (e 6)) (fun _ => rfl) (fun n e => (F81_b1_ok R (F81_l1 R n) e).trans (F81_l1_succ R n (e 0) (e 1) (e 5) (e 6)).symm)
def F81_j4 (R : ER) (x0 x1 x5 x6 : Value) : WP :=
  exN fun n => F81_l1 R n x0 x1 x5 x6
theorem F81_j4_ok (R : ER) (e : Env) : den Pg R (cd Tryz.f81 [1,1,1,0,1]) e (setN (kont Pg R Tryz.f81) (fun e => F81_j2 R (e 0) (e 5))) = (F81_j4 R (e 0) (e 1) (e 5) (e 6)) := (den_block Pg R (cd Tryz.f81 [1,1,1,0,1]) 0 (cd Tryz.f81 [1,1,1,0,1,0]) e (setN (kont Pg R Tryz.f81) (fun e => F81_j2 R (e 0) (e 5))) _ (by kernel_rfl) (den_loop Pg R (cd Tryz.f81 [1,1,1,0,1,0]) (cd Tryz.f81 [1,1,1,0,1,0,0]) e (inB 0 (setN (kont Pg R Tryz.f81) (fun e => F81_j2 R (e 0) (e 5)))) (fun n e => F81_l1 R n (e 0) (e 1) (e 5) (e 6)) _ (by kernel_rfl) (F81_l1_ok R) (by kernel_rfl)))
def F81_j3 (R : ER) (x0 x1 x5 : Value) : WP :=
  pv (bin .add x5 (.int .i64 1)) fun v15 =>
  F81_j4 R x0 x1 x5 v15
theorem F81_j3_ok (R : ER) (e : Env) : den Pg R (cd Tryz.f81 [1,1,1,0]) e (setN (kont Pg R Tryz.f81) (fun e => F81_j2 R (e 0) (e 5))) = (F81_j3 R (e 0) (e 1) (e 5)) := (den_join Pg R 0 (cd Tryz.f81 [1,1,1,0]) (cd Tryz.f81 [1,1,1,0,1]) e (setN (kont Pg R Tryz.f81) (fun e => F81_j2 R (e 0) (e 5))) (fun e => F81_j4 R (e 0) (e 1) (e 5) (e 6)) _ (by kernel_rfl) (fun e => F81_j4_ok R e) (by kernel_rfl))
def F81_j1 (R : ER) (x0 x1 x5 : Value) : WP :=
  F81_j3 R x0 x1 x5
theorem F81_j1_ok (R : ER) (e : Env) : den Pg R (cd Tryz.f81 [1,1,1]) e (kont Pg R Tryz.f81) = (F81_j1 R (e 0) (e 1) (e 5)) := (den_join Pg R 0 (cd Tryz.f81 [1,1,1]) (cd Tryz.f81 [1,1,1,1]) e (kont Pg R Tryz.f81) (fun e => F81_j2 R (e 0) (e 5)) _ (by kernel_rfl) (fun e => F81_j2_ok R e) (den_conv Pg R (pre 0 (cd Tryz.f81 [1,1,1])) (cd Tryz.f81 [1,1,1,0]) e (setN (kont Pg R Tryz.f81) (fun e => F81_j2 R (e 0) (e 5))) _ (by kernel_rfl) (F81_j3_ok R e)))
def F81 (R : ER) (x0 x1 : Value) : WP :=
  cal Pg R 103 ⟨[x0, x1]⟩ fun v16 =>
  pv (bin .eql v16 (.int .i64 (-1))) fun v17 =>
  cnd v17 (
   R (.returned x0)) (
   F81_j1 R x0 x1 v16)
theorem F81_den (R : ER) (x0 x1 : Value) : den Pg R (cd Tryz.f81 []) (argsEnv [x0, x1]) (kont Pg R Tryz.f81) = F81 R x0 x1 :=
  have h : ∀ e, den Pg R (cd Tryz.f81 []) e (kont Pg R Tryz.f81) = F81 R (e 0) (e 1) := fun e => (den_join Pg R 2 (cd Tryz.f81 []) (cd Tryz.f81 [1,1,1]) e (kont Pg R Tryz.f81) (fun e => F81_j1 R (e 0) (e 1) (e 5)) _ (by kernel_rfl) (fun e => F81_j1_ok R e) (by kernel_rfl))
  h _
theorem F81_calls {R : ER} {x0 x1 : Value} {w : World} (h : F81 R x0 x1 w) : Calls Pg 81 ⟨[x0, x1]⟩ w R :=
  calls_of_den Tryz.func81 (by kernel_rfl) (by kernel_rfl) (F81_den R x0 x1) h
/-! ### 82: mqueue_waiting_82 -/
def F82 (R : ER) (x0 x1 : Value) : WP :=
  bx 113 x0 fun v1 =>
  pv (faO 0 v1) fun v2 =>
  ld1 v2 fun v3 =>
  ld1 x1 fun v4 =>
  pv (bin .eql v3 v4) fun v5 =>
  R (.returned v5)
theorem F82_den (R : ER) (x0 x1 : Value) : den Pg R (cd Tryz.f82 []) (argsEnv [x0, x1]) (kont Pg R Tryz.f82) = F82 R x0 x1 :=
  have h : ∀ e, den Pg R (cd Tryz.f82 []) e (kont Pg R Tryz.f82) = F82 R (e 0) (e 1) := fun e => by kernel_rfl
  h _
theorem F82_calls {R : ER} {x0 x1 : Value} {w : World} (h : F82 R x0 x1 w) : Calls Pg 82 ⟨[x0, x1]⟩ w R :=
  calls_of_den Tryz.func82 (by kernel_rfl) (by kernel_rfl) (F82_den R x0 x1) h
/-! ### 83: slices_DeleteFunc_83 -/
def F83_j2 (R : ER) (x0 x5 : Value) : WP :=
  pv (slS 2 x0 (some x5) none) fun v1 =>
  blt Pg R .clear ⟨[54]⟩ 0 ⟨[false]⟩ ⟨[v1]⟩ fun _ =>
  pv (slS 2 x0 none (some x5)) fun v2 =>
  R (.returned v2)
theorem F83_j2_ok (R : ER) (e : Env) : den Pg R (cd Tryz.f83 [1,1,1,1]) e (kont Pg R Tryz.f83) = (F83_j2 R (e 0) (e 5)) := by kernel_rfl
def F83_j6 (R : ER) (k1 : V4) (x0 x1 x5 x6 : Value) : WP :=
  pv (bin .add x6 (.int .i64 1)) fun v3 =>
  k1 x0 x1 x5 v3
theorem F83_j6_ok (R : ER) (k1 : V4) (e : Env) : den Pg R (cd Tryz.f83 [1,1,1,0,1,0,0,1,1]) e (setN (inB 0 (setN (kont Pg R Tryz.f83) (fun e => F83_j2 R (e 0) (e 5)))) (fun e => k1 (e 0) (e 1) (e 5) (e 6))) = (F83_j6 R k1 (e 0) (e 1) (e 5) (e 6)) := by kernel_rfl
def F83_j7 (R : ER) (k1 : V4) (x0 x1 x5 x6 : Value) : WP :=
  pv (ixS 2 x0 x6) fun v4 =>
  ldN 2 v4 fun v5 =>
  al Pg 115 fun v6 =>
  stN 2 v6 v5 fun _ =>
  ldN 2 v6 fun v7 =>
  calD Pg R x1 ⟨[v7]⟩ fun v8 =>
  pv (unO .not v8) fun v9 =>
  cnd v9 (
   ldN 2 v6 fun v10 =>
   pv (ixS 2 x0 x5) fun v11 =>
   stN 2 v11 v10 fun _ =>
   pv (bin .add x5 (.int .i64 1)) fun v12 =>
   F83_j6 R k1 x0 x1 v12 x6) (
   F83_j6 R k1 x0 x1 x5 x6)
theorem F83_j7_ok (R : ER) (k1 : V4) (e : Env) : den Pg R (cd Tryz.f83 [1,1,1,0,1,0,0,1,0]) e (setN (setN (inB 0 (setN (kont Pg R Tryz.f83) (fun e => F83_j2 R (e 0) (e 5)))) (fun e => k1 (e 0) (e 1) (e 5) (e 6))) (fun e => F83_j6 R k1 (e 0) (e 1) (e 5) (e 6))) = (F83_j7 R k1 (e 0) (e 1) (e 5) (e 6)) := (den_block Pg R (cd Tryz.f83 [1,1,1,0,1,0,0,1,0]) 1 (cd Tryz.f83 [1,1,1,0,1,0,0,1,0,0]) e (setN (setN (inB 0 (setN (kont Pg R Tryz.f83) (fun e => F83_j2 R (e 0) (e 5)))) (fun e => k1 (e 0) (e 1) (e 5) (e 6))) (fun e => F83_j6 R k1 (e 0) (e 1) (e 5) (e 6))) _ (by kernel_rfl) (by kernel_rfl))
def F83_j5 (R : ER) (k1 : V4) (x0 x1 x5 x6 : Value) : WP :=
  F83_j7 R k1 x0 x1 x5 x6
theorem F83_j5_ok (R : ER) (k1 : V4) (e : Env) : den Pg R (cd Tryz.f83 [1,1,1,0,1,0,0,1]) e (setN (inB 0 (setN (kont Pg R Tryz.f83) (fun e => F83_j2 R (e 0) (e 5)))) (fun e => k1 (e 0) (e 1) (e 5) (e 6))) = (F83_j5 R k1 (e 0) (e 1) (e 5) (e 6)) := (den_join Pg R 0 (cd Tryz.f83 [1,1,1,0,1,0,0,1]) (cd Tryz.f83 [1,1,1,0,1,0,0,1,1]) e (setN (inB 0 (setN (kont Pg R Tryz.f83) (fun e => F83_j2 R (e 0) (e 5)))) (fun e => k1 (e 0) (e 1) (e 5) (e 6))) (fun e => F83_j6 R k1 (e 0) (e 1) (e 5) (e 6)) _ (by kernel_rfl) (fun e => F83_j6_ok R k1 e) (den_conv Pg R (pre 0 (cd Tryz.f83 [1,1,1,0,1,0,0,1])) (cd Tryz.f83 [1,1,1,0,1,0,0,1,0]) e (setN (setN (inB 0 (setN (kont Pg R Tryz.f83) (fun e => F83_j2 R (e 0) (e 5)))) (fun e => k1 (e 0) (e 1) (e 5) (e 6))) (fun e => F83_j6 R k1 (e 0) (e 1) (e 5) (e 6))) _ (by kernel_rfl) (F83_j7_ok R k1 e)))
def F83_b1 (R : ER) (k1 : V4) (x0 x1 x5 x6 : Value) : WP :=
  pv (lenS x0) fun v13 =>
  pv (bin .lss x6 v13) fun v14 =>
  cnd v14 (
   F83_j5 R k1 x0 x1 x5 x6) (
   F83_j2 R x0 x5)
theorem F83_b1_ok (R : ER) (k1 : V4) (e : Env) : den Pg R (cd Tryz.f83 [1,1,1,0,1,0,0]) e (setN (inB 0 (setN (kont Pg R Tryz.f83) (fun e => F83_j2 R (e 0) (e 5)))) (fun e => k1 (e 0) (e 1) (e 5) (e 6))) = (F83_b1 R k1 (e 0) (e 1) (e 5) (e 6)) := (den_join Pg R 0 (cd Tryz.f83 [1,1,1,0,1,0,0]) (cd Tryz.f83 [1,1,1,0,1,0,0,1]) e (setN (inB 0 (setN (kont Pg R Tryz.f83) (fun e => F83_j2 R (e 0) (e 5)))) (fun e => k1 (e 0) (e 1) (e 5) (e 6))) (fun e => F83_j5 R k1 (e 0) (e 1) (e 5) (e 6)) _ (by kernel_rfl) (fun e => F83_j5_ok R k1 e) (by kernel_rfl))
noncomputable def F83_l1 (R : ER) (n : Nat) : V4 := Nat.rec (motive := fun _ => V4) (fun _ _ _ _ => fun _ => False) (fun _ ih => fun x0 x1 x5 x6 => F83_b1 R ih x0 x1 x5 x6) n
theorem F83_l1_succ (R : ER) (n : Nat) (x0 x1 x5 x6 : Value) : F83_l1 R (n + 1) x0 x1 x5 x6 = F83_b1 R (F83_l1 R n) x0 x1 x5 x6 := rfl
theorem F83_l1_ok (R : ER) : ∀ (n : Nat) (e : Env), iterL (den Pg R (cd Tryz.f83 [1,1,1,0,1,0,0])) n e (inB 0 (setN (kont Pg R Tryz.f83) (fun e => F83_j2 R (e 0) (e 5)))) = F83_l1 R n (e 0) (e 1) (e 5) (e 6) :=
  iterL_join (den Pg R (cd Tryz.f83 [1,1,1,0,1,0,0])) (inB 0 (setN (kont Pg R Tryz.f83) (fun e => F83_j2 R (e 0) (e 5)))) (fun n e => F83_l1 R n (e 0) (e 1) (e 5) (e 6)) (fun _ => rfl) (fun n e => (F83_b1_ok R (F83_l1 R n) e).trans (F83_l1_succ R n (e 0) (e 1) (e 5) (e 6)).symm)
def F83_j4 (R : ER) (x0 x1 x5 x6 : Value) : WP :=
  exN fun n => F83_l1 R n x0 x1 x5 x6
theorem F83_j4_ok (R : ER) (e : Env) : den Pg R (cd Tryz.f83 [1,1,1,0,1]) e (setN (kont Pg R Tryz.f83) (fun e => F83_j2 R (e 0) (e 5))) = (F83_j4 R (e 0) (e 1) (e 5) (e 6)) := (den_block Pg R (cd Tryz.f83 [1,1,1,0,1]) 0 (cd Tryz.f83 [1,1,1,0,1,0]) e (setN (kont Pg R Tryz.f83) (fun e => F83_j2 R (e 0) (e 5))) _ (by kernel_rfl) (den_loop Pg R (cd Tryz.f83 [1,1,1,0,1,0]) (cd Tryz.f83 [1,1,1,0,1,0,0]) e (inB 0 (setN (kont Pg R Tryz.f83) (fun e => F83_j2 R (e 0) (e 5)))) (fun n e => F83_l1 R n (e 0) (e 1) (e 5) (e 6)) _ (by kernel_rfl) (F83_l1_ok R) (by kernel_rfl)))
def F83_j3 (R : ER) (x0 x1 x5 : Value) : WP :=
  pv (bin .add x5 (.int .i64 1)) fun v15 =>
  F83_j4 R x0 x1 x5 v15
theorem F83_j3_ok (R : ER) (e : Env) : den Pg R (cd Tryz.f83 [1,1,1,0]) e (setN (kont Pg R Tryz.f83) (fun e => F83_j2 R (e 0) (e 5))) = (F83_j3 R (e 0) (e 1) (e 5)) := (den_join Pg R 0 (cd Tryz.f83 [1,1,1,0]) (cd Tryz.f83 [1,1,1,0,1]) e (setN (kont Pg R Tryz.f83) (fun e => F83_j2 R (e 0) (e 5))) (fun e => F83_j4 R (e 0) (e 1) (e 5) (e 6)) _ (by kernel_rfl) (fun e => F83_j4_ok R e) (by kernel_rfl))
def F83_j1 (R : ER) (x0 x1 x5 : Value) : WP :=
  F83_j3 R x0 x1 x5
theorem F83_j1_ok (R : ER) (e : Env) : den Pg R (cd Tryz.f83 [1,1,1]) e (kont Pg R Tryz.f83) = (F83_j1 R (e 0) (e 1) (e 5)) := (den_join Pg R 0 (cd Tryz.f83 [1,1,1]) (cd Tryz.f83 [1,1,1,1]) e (kont Pg R Tryz.f83) (fun e => F83_j2 R (e 0) (e 5)) _ (by kernel_rfl) (fun e => F83_j2_ok R e) (den_conv Pg R (pre 0 (cd Tryz.f83 [1,1,1])) (cd Tryz.f83 [1,1,1,0]) e (setN (kont Pg R Tryz.f83) (fun e => F83_j2 R (e 0) (e 5))) _ (by kernel_rfl) (F83_j3_ok R e)))
def F83 (R : ER) (x0 x1 : Value) : WP :=
  cal Pg R 104 ⟨[x0, x1]⟩ fun v16 =>
  pv (bin .eql v16 (.int .i64 (-1))) fun v17 =>
  cnd v17 (
   R (.returned x0)) (
   F83_j1 R x0 x1 v16)
theorem F83_den (R : ER) (x0 x1 : Value) : den Pg R (cd Tryz.f83 []) (argsEnv [x0, x1]) (kont Pg R Tryz.f83) = F83 R x0 x1 :=
  have h : ∀ e, den Pg R (cd Tryz.f83 []) e (kont Pg R Tryz.f83) = F83 R (e 0) (e 1) := fun e => (den_join Pg R 2 (cd Tryz.f83 []) (cd Tryz.f83 [1,1,1]) e (kont Pg R Tryz.f83) (fun e => F83_j1 R (e 0) (e 1) (e 5)) _ (by kernel_rfl) (fun e => F83_j1_ok R e) (by kernel_rfl))
  h _
theorem F83_calls {R : ER} {x0 x1 : Value} {w : World} (h : F83 R x0 x1 w) : Calls Pg 83 ⟨[x0, x1]⟩ w R :=
  calls_of_den Tryz.func83 (by kernel_rfl) (by kernel_rfl) (F83_den R x0 x1) h
/-! ### 84: mqueue_waiting_84 -/
def F84 (R : ER) (x0 x1 : Value) : WP :=
  bx 115 x0 fun v1 =>
  pv (faO 0 v1) fun v2 =>
  ld1 v2 fun v3 =>
  ld1 x1 fun v4 =>
  pv (bin .eql v3 v4) fun v5 =>
  R (.returned v5)
theorem F84_den (R : ER) (x0 x1 : Value) : den Pg R (cd Tryz.f84 []) (argsEnv [x0, x1]) (kont Pg R Tryz.f84) = F84 R x0 x1 :=
  have h : ∀ e, den Pg R (cd Tryz.f84 []) e (kont Pg R Tryz.f84) = F84 R (e 0) (e 1) := fun e => by kernel_rfl
  h _
theorem F84_calls {R : ER} {x0 x1 : Value} {w : World} (h : F84 R x0 x1 w) : Calls Pg 84 ⟨[x0, x1]⟩ w R :=
  calls_of_den Tryz.func84 (by kernel_rfl) (by kernel_rfl) (F84_den R x0 x1) h
/-! ### 85: mqueue_waiting_85 -/
def F85_j1 (R : ER) (x5 : Value) : WP :=
  R (.returned x5)
theorem F85_j1_ok (R : ER) (e : Env) : den Pg R (cd Tryz.f85 [1,1,1]) e (kont Pg R Tryz.f85) = (F85_j1 R (e 5)) := by kernel_rfl
def F85 (R : ER) (x0 x1 x2 : Value) : WP :=
  bx 113 x0 fun v1 =>
  pv (faO 1 v1) fun v2 =>
  ld1 v2 fun v3 =>
  pv (bin .neq v3 (.int .i64 0)) fun v4 =>
  gd v4 true (pv (faO 1 v1)) fun v5 =>
  gd v4 true (ld1 v5) fun v6 =>
  gd v4 true (ld1 x1) fun v7 =>
  gd v4 true (pv (bin .leq v6 v7)) fun v8 =>
  pv (pickO v4 v8 (.bool false)) fun v9 =>
  cnd v9 (
   ld1 x2 fun v10 =>
   ldN 4 v1 fun v11 =>
   valV Pg R (Instr.buildSlice 57 1 ⟨[(0, v11)]⟩) fun v12 =>
   blt Pg R .append ⟨[57,57]⟩ 57 ⟨[false, false]⟩ ⟨[v10, v12]⟩ fun v13 =>
   st1 x2 v13 fun _ =>
   F85_j1 R v9) (
   F85_j1 R v9)
theorem F85_den (R : ER) (x0 x1 x2 : Value) : den Pg R (cd Tryz.f85 []) (argsEnv [x0, x1, x2]) (kont Pg R Tryz.f85) = F85 R x0 x1 x2 :=
  have h : ∀ e, den Pg R (cd Tryz.f85 []) e (kont Pg R Tryz.f85) = F85 R (e 0) (e 1) (e 2) := fun e => (den_join Pg R 2 (cd Tryz.f85 []) (cd Tryz.f85 [1,1,1]) e (kont Pg R Tryz.f85) (fun e => F85_j1 R (e 5)) _ (by kernel_rfl) (fun e => F85_j1_ok R e) (by kernel_rfl))
  h _
theorem F85_calls {R : ER} {x0 x1 x2 : Value} {w : World} (h : F85 R x0 x1 x2 w) : Calls Pg 85 ⟨[x0, x1, x2]⟩ w R :=
  calls_of_den Tryz.func85 (by kernel_rfl) (by kernel_rfl) (F85_den R x0 x1 x2) h
/-! ### 86: mqueue_waiting_86 -/
def F86_j1 (R : ER) (x5 : Value) : WP :=
  R (.returned x5)
theorem F86_j1_ok (R : ER) (e : Env) : den Pg R (cd Tryz.f86 [1,1,1]) e (kont Pg R Tryz.f86) = (F86_j1 R (e 5)) := by kernel_rfl
def F86 (R : ER) (x0 x1 x2 : Value) : WP :=
  bx 115 x0 fun v1 =>
  pv (faO 1 v1) fun v2 =>
  ld1 v2 fun v3 =>
  pv (bin .neq v3 (.int .i64 0)) fun v4 =>
  gd v4 true (pv (faO 1 v1)) fun v5 =>
  gd v4 true (ld1 v5) fun v6 =>
  gd v4 true (ld1 x1) fun v7 =>
  gd v4 true (pv (bin .leq v6 v7)) fun v8 =>
  pv (pickO v4 v8 (.bool false)) fun v9 =>
  cnd v9 (
   ld1 x2 fun v10 =>
   ldN 2 v1 fun v11 =>
   valV Pg R (Instr.buildSlice 54 1 ⟨[(0, v11)]⟩) fun v12 =>
   blt Pg R .append ⟨[54,54]⟩ 54 ⟨[false, false]⟩ ⟨[v10, v12]⟩ fun v13 =>
   st1 x2 v13 fun _ =>
   F86_j1 R v9) (
   F86_j1 R v9)
theorem F86_den (R : ER) (x0 x1 x2 : Value) : den Pg R (cd Tryz.f86 []) (argsEnv [x0, x1, x2]) (kont Pg R Tryz.f86) = F86 R x0 x1 x2 :=
  have h : ∀ e, den Pg R (cd Tryz.f86 []) e (kont Pg R Tryz.f86) = F86 R (e 0) (e 1) (e 2) := fun e => (den_join Pg R 2 (cd Tryz.f86 []) (cd Tryz.f86 [1,1,1]) e (kont Pg R Tryz.f86) (fun e => F86_j1 R (e 5)) _ (by kernel_rfl) (fun e => F86_j1_ok R e) (by kernel_rfl))
  h _
theorem F86_calls {R : ER} {x0 x1 x2 : Value} {w : World} (h : F86 R x0 x1 x2 w) : Calls Pg 86 ⟨[x0, x1, x2]⟩ w R :=
  calls_of_den Tryz.func86 (by kernel_rfl) (by kernel_rfl) (F86_den R x0 x1 x2) h
/-! ### 87: slices_stableCmpFunc -/
def F87_j5 (R : ER) (k1 : V4) (x0 x1 x2 x6 : Value) : WP :=
  pv (bin .mul x6 (.int .i64 2)) fun v1 =>
  k1 x0 x1 x2 v1
theorem F87_j5_ok (R : ER) (k1 : V4) (e : Env) : den Pg R (cd Tryz.f87 [1,1,1,1,0,0,1,0,1,1,1]) e (inB 3 (setN (inB 2 (kont Pg R Tryz.f87)) (fun e => k1 (e 0) (e 1) (e 2) (e 6)))) = (F87_j5 R k1 (e 0) (e 1) (e 2) (e 6)) := by kernel_rfl
def F87_j6 (R : ER) (k1 : V4) (x0 x1 x2 x6 x7 : Value) : WP :=
  pv (bin .add x7 x6) fun v2 =>
  pv (bin .lss v2 x1) fun v3 =>
  cnd v3 (
   cal Pg R 106 ⟨[x0, x7, v2, x1, x2]⟩ fun v4 =>
   F87_j5 R k1 x0 x1 x2 x6) (
   F87_j5 R k1 x0 x1 x2 x6)
theorem F87_j6_ok (R : ER) (k1 : V4) (e : Env) : den Pg R (cd Tryz.f87 [1,1,1,1,0,0,1,0,1,1,0]) e (setN (inB 3 (setN (inB 2 (kont Pg R Tryz.f87)) (fun e => k1 (e 0) (e 1) (e 2) (e 6)))) (fun e => F87_j5 R k1 (e 0) (e 1) (e 2) (e 6))) = (F87_j6 R k1 (e 0) (e 1) (e 2) (e 6) (e 7)) := (by kernel_rfl)
def F87_j4 (R : ER) (k1 : V4) (x0 x1 x2 x6 x7 : Value) : WP :=
  F87_j6 R k1 x0 x1 x2 x6 x7
theorem F87_j4_ok (R : ER) (k1 : V4) (e : Env) : den Pg R (cd Tryz.f87 [1,1,1,1,0,0,1,0,1,1]) e (inB 3 (setN (inB 2 (kont Pg R Tryz.f87)) (fun e => k1 (e 0) (e 1) (e 2) (e 6)))) = (F87_j4 R k1 (e 0) (e 1) (e 2) (e 6) (e 7)) := (den_join Pg R 0 (cd Tryz.f87 [1,1,1,1,0,0,1,0,1,1]) (cd Tryz.f87 [1,1,1,1,0,0,1,0,1,1,1]) e (inB 3 (setN (inB 2 (kont Pg R Tryz.f87)) (fun e => k1 (e 0) (e 1) (e 2) (e 6)))) (fun e => F87_j5 R k1 (e 0) (e 1) (e 2) (e 6)) _ (by kernel_rfl) (fun e => F87_j5_ok R k1 e) (den_conv Pg R (pre 0 (cd Tryz.f87 [1,1,1,1,0,0,1,0,1,1])) (cd Tryz.f87 [1,1,1,1,0,0,1,0,1,1,0]) e (setN (inB 3 (setN (inB 2 (kont Pg R Tryz.f87)) (fun e => k1 (e 0) (e 1) (e 2) (e 6)))) (fun e => F87_j5 R k1 (e 0) (e 1) (e 2) (e 6))) _ (by kernel_rfl) (F87_j6_ok R k1 e)))
def F87_j8 (R : ER) (k1 : V4) (k2 : V6) (x0 x1 x2 x6 x7 x8 : Value) : WP :=
  pv (bin .add x7 x6) fun v5 =>
  cal Pg R 106 ⟨[x0, x7, v5, x8, x2]⟩ fun v6 =>
  pv (bin .mul (.int .i64 2) x6) fun v7 =>
  pv (bin .add x8 v7) fun v8 =>
  k2 x0 x1 x2 x6 x8 v8
theorem F87_j8_ok (R : ER) (k1 : V4) (k2 : V6) (e : Env) : den Pg R (cd Tryz.f87 [1,1,1,1,0,0,1,0,1,0,0,0,1]) e (setN (inB 4 (setN (inB 3 (setN (inB 2 (kont Pg R Tryz.f87)) (fun e => k1 (e 0) (e 1) (e 2) (e 6)))) (fun e => F87_j4 R k1 (e 0) (e 1) (e 2) (e 6) (e 7)))) (fun e => k2 (e 0) (e 1) (e 2) (e 6) (e 7) (e 8))) = (F87_j8 R k1 k2 (e 0) (e 1) (e 2) (e 6) (e 7) (e 8)) := by kernel_rfl
def F87_b2 (R : ER) (k1 : V4) (k2 : V6) (x0 x1 x2 x6 x7 x8 : Value) : WP :=
  pv (bin .leq x8 x1) fun v9 =>
  cnd v9 (
   F87_j8 R k1 k2 x0 x1 x2 x6 x7 x8) (
   F87_j4 R k1 x0 x1 x2 x6 x7)
theorem F87_b2_ok (R : ER) (k1 : V4) (k2 : V6) (e : Env) : den Pg R (cd Tryz.f87 [1,1,1,1,0,0,1,0,1,0,0,0]) e (setN (inB 4 (setN (inB 3 (setN (inB 2 (kont Pg R Tryz.f87)) (fun e => k1 (e 0) (e 1) (e 2) (e 6)))) (fun e => F87_j4 R k1 (e 0) (e 1) (e 2) (e 6) (e 7)))) (fun e => k2 (e 0) (e 1) (e 2) (e 6) (e 7) (e 8))) = (F87_b2 R k1 k2 (e 0) (e 1) (e 2) (e 6) (e 7) (e 8)) := (den_join Pg R 0 (cd Tryz.f87 [1,1,1,1,0,0,1,0,1,0,0,0]) (cd Tryz.f87 [1,1,1,1,0,0,1,0,1,0,0,0,1]) e (setN (inB 4 (setN (inB 3 (setN (inB 2 (kont Pg R Tryz.f87)) (fun e => k1 (e 0) (e 1) (e 2) (e 6)))) (fun e => F87_j4 R k1 (e 0) (e 1) (e 2) (e 6) (e 7)))) (fun e => k2 (e 0) (e 1) (e 2) (e 6) (e 7) (e 8))) (fun e => F87_j8 R k1 k2 (e 0) (e 1) (e 2) (e 6) (e 7) (e 8)) _ (by kernel_rfl) (fun e => F87_j8_ok R k1 k2 e) (by kernel_rfl))
noncomputable def F87_l1 (R : ER) (k1 : V4) (n : Nat) : V6 := Nat.rec (motive := fun _ => V6) (fun _ _ _ _ _ _ => fun _ => False) (fun _ ih => fun x0 x1 x2 x6 x7 x8 => F87_b2 R k1 ih x0 x1 x2 x6 x7 x8) n
theorem F87_l1_succ (R : ER) (k1 : V4) (n : Nat) (x0 x1 x2 x6 x7 x8 : Value) : F87_l1 R k1 (n + 1) x0 x1 x2 x6 x7 x8 = F87_b2 R k1 (F87_l1 R k1 n) x0 x1 x2 x6 x7 x8 := rfl
theorem F87_l1_ok (R : ER) (k1 : V4) : ∀ (n : Nat) (e : Env), iterL (den Pg R (cd Tryz.f87 [1,1,1,1,0,0,1,0,1,0,0,0])) n e (inB 4 (setN (inB 3 (setN (inB 2 (kont Pg R Tryz.f87)) (fun e => k1 (e 0) (e 1) (e 2) (e 6)))) (fun e => F87_j4 R k1 (e 0) (e 1) (e 2) (e 6) (e 7)))) = F87_l1 R k1 n (e 0) (e 1) (e 2) (e 6) (e 7) (e 8) :=
  iterL_join (den Pg R (cd Tryz.f87 [1,1,1,1,0,0,1,0,1,0,0,0])) (inB 4 (setN (inB 3 (setN (inB 2 (kont Pg R Tryz.f87)) (fun e => k1 (e 0) (e 1) (e 2) (e 6)))) (fun e => F87_j4 R k1 (e 0) (e 1) (e 2) (e 6) (e 7)))) (fun n e => F87_l1 R k1 n (e 0) (e 1) (e 2) (e 6) (e 7) (e 8)) (fun _ => rfl) (fun n e => (F87_b2_ok R k1 (F87_l1 R k1 n) e).trans (F87_l1_succ R k1 n (e 0) (e 1) (e 2) (e 6) (e 7) (e 8)).symm)
def F87_j7 (R : ER) (k1 : V4) (x0 x1 x2 x6 x7 x8 : Value) : WP :=
  exN fun n => F87_l1 R k1 n x0 x1 x2 x6 x7 x8
theorem F87_j7_ok (R : ER) (k1 : V4) (e : Env) : den Pg R (cd Tryz.f87 [1,1,1,1,0,0,1,0,1,0]) e (setN (inB 3 (setN (inB 2 (kont Pg R Tryz.f87)) (fun e => k1 (e 0) (e 1) (e 2) (e 6)))) (fun e => F87_j4 R k1 (e 0) (e 1) (e 2) (e 6) (e 7))) = (F87_j7 R k1 (e 0) (e 1) (e 2) (e 6) (e 7) (e 8)) := (den_block Pg R (cd Tryz.f87 [1,1,1,1,0,0,1,0,1,0]) 4 (cd Tryz.f87 [1,1,1,1,0,0,1,0,1,0,0]) e (setN (inB 3 (setN (inB 2 (kont Pg R Tryz.f87)) (fun e => k1 (e 0) (e 1) (e 2) (e 6)))) (fun e => F87_j4 R k1 (e 0) (e 1) (e 2) (e 6) (e 7))) _ (by kernel_rfl) (den_loop Pg R (cd Tryz.f87 [1,1,1,1,0,0,1,0,1,0,0]) (cd Tryz.f87 [1,1,1,1,0,0,1,0,1,0,0,0]) e (inB 4 (setN (inB 3 (setN (inB 2 (kont Pg R Tryz.f87)) (fun e => k1 (e 0) (e 1) (e 2) (e 6)))) (fun e => F87_j4 R k1 (e 0) (e 1) (e 2) (e 6) (e 7)))) (fun n e => F87_l1 R k1 n (e 0) (e 1) (e 2) (e 6) (e 7) (e 8)) _ (by kernel_rfl) (F87_l1_ok R k1) (by kernel_rfl)))
def F87_j3 (R : ER) (k1 : V4) (x0 x1 x2 x6 : Value) : WP :=
  pv (bin .mul (.int .i64 2) x6) fun v10 =>
  F87_j7 R k1 x0 x1 x2 x6 (.int .i64 0) v10
theorem F87_j3_ok (R : ER) (k1 : V4) (e : Env) : den Pg R (cd Tryz.f87 [1,1,1,1,0,0,1]) e (setN (inB 2 (kont Pg R Tryz.f87)) (fun e => k1 (e 0) (e 1) (e 2) (e 6))) = (F87_j3 R k1 (e 0) (e 1) (e 2) (e 6)) := (den_block Pg R (cd Tryz.f87 [1,1,1,1,0,0,1]) 3 (cd Tryz.f87 [1,1,1,1,0,0,1,0]) e (setN (inB 2 (kont Pg R Tryz.f87)) (fun e => k1 (e 0) (e 1) (e 2) (e 6))) _ (by kernel_rfl) (den_join Pg R 1 (cd Tryz.f87 [1,1,1,1,0,0,1,0]) (cd Tryz.f87 [1,1,1,1,0,0,1,0,1,1]) e (inB 3 (setN (inB 2 (kont Pg R Tryz.f87)) (fun e => k1 (e 0) (e 1) (e 2) (e 6)))) (fun e => F87_j4 R k1 (e 0) (e 1) (e 2) (e 6) (e 7)) _ (by kernel_rfl) (fun e => F87_j4_ok R k1 e) (den_join Pg R 0 (pre 1 (cd Tryz.f87 [1,1,1,1,0,0,1,0])) (cd Tryz.f87 [1,1,1,1,0,0,1,0,1,0]) e (setN (inB 3 (setN (inB 2 (kont Pg R Tryz.f87)) (fun e => k1 (e 0) (e 1) (e 2) (e 6)))) (fun e => F87_j4 R k1 (e 0) (e 1) (e 2) (e 6) (e 7))) (fun e => F87_j7 R k1 (e 0) (e 1) (e 2) (e 6) (e 7) (e 8)) _ (by kernel_rfl) (fun e => F87_j7_ok R k1 e) (by kernel_rfl))))
def F87_b1 (R : ER) (k1 : V4) (x0 x1 x2 x6 : Value) : WP :=
  pv (bin .lss x6 x1) fun v11 =>
  cnd v11 (
   F87_j3 R k1 x0 x1 x2 x6) (
   R (.returned (.tuple ⟨[]⟩)))
theorem F87_b1_ok (R : ER) (k1 : V4) (e : Env) : den Pg R (cd Tryz.f87 [1,1,1,1,0,0]) e (setN (inB 2 (kont Pg R Tryz.f87)) (fun e => k1 (e 0) (e 1) (e 2) (e 6))) = (F87_b1 R k1 (e 0) (e 1) (e 2) (e 6)) := (den_join Pg R 0 (cd Tryz.f87 [1,1,1,1,0,0]) (cd Tryz.f87 [1,1,1,1,0,0,1]) e (setN (inB 2 (kont Pg R Tryz.f87)) (fun e => k1 (e 0) (e 1) (e 2) (e 6))) (fun e => F87_j3 R k1 (e 0) (e 1) (e 2) (e 6)) _ (by kernel_rfl) (fun e => F87_j3_ok R k1 e) (by kernel_rfl))
noncomputable def F87_l2 (R : ER) (n : Nat) : V4 := Nat.rec (motive := fun _ => V4) (fun _ _ _ _ => fun _ => False) (fun _ ih => fun x0 x1 x2 x6 => F87_b1 R ih x0 x1 x2 x6) n
theorem F87_l2_succ (R : ER) (n : Nat) (x0 x1 x2 x6 : Value) : F87_l2 R (n + 1) x0 x1 x2 x6 = F87_b1 R (F87_l2 R n) x0 x1 x2 x6 := rfl
theorem F87_l2_ok (R : ER) : ∀ (n : Nat) (e : Env), iterL (den Pg R (cd Tryz.f87 [1,1,1,1,0,0])) n e (inB 2 (kont Pg R Tryz.f87)) = F87_l2 R n (e 0) (e 1) (e 2) (e 6) :=
  iterL_join (den Pg R (cd Tryz.f87 [1,1,1,1,0,0])) (inB 2 (kont Pg R Tryz.f87)) (fun n e => F87_l2 R n (e 0) (e 1) (e 2) (e 6)) (fun _ => rfl) (fun n e => (F87_b1_ok R (F87_l2 R n) e).trans (F87_l2_succ R n (e 0) (e 1) (e 2) (e 6)).symm)
def F87_j2 (R : ER) (x0 x1 x2 x6 : Value) : WP :=
  exN fun n => F87_l2 R n x0 x1 x2 x6
theorem F87_j2_ok (R : ER) (e : Env) : den Pg R (cd Tryz.f87 [1,1,1,1]) e (kont Pg R Tryz.f87) = (F87_j2 R (e 0) (e 1) (e 2) (e 6)) := (den_block Pg R (cd Tryz.f87 [1,1,1,1]) 2 (cd Tryz.f87 [1,1,1,1,0]) e (kont Pg R Tryz.f87) _ (by kernel_rfl) (den_loop Pg R (cd Tryz.f87 [1,1,1,1,0]) (cd Tryz.f87 [1,1,1,1,0,0]) e (inB 2 (kont Pg R Tryz.f87)) (fun n e => F87_l2 R n (e 0) (e 1) (e 2) (e 6)) _ (by kernel_rfl) (F87_l2_ok R) (by kernel_rfl)))
def F87_j1 (R : ER) (x0 x1 x2 x6 x7 : Value) : WP :=
  cal Pg R 105 ⟨[x0, x7, x1, x2]⟩ fun v12 =>
  F87_j2 R x0 x1 x2 x6
theorem F87_j1_ok (R : ER) (e : Env) : den Pg R (cd Tryz.f87 [1,1,1]) e (kont Pg R Tryz.f87) = (F87_j1 R (e 0) (e 1) (e 2) (e 6) (e 7)) := (den_join Pg R 0 (cd Tryz.f87 [1,1,1]) (cd Tryz.f87 [1,1,1,1]) e (kont Pg R Tryz.f87) (fun e => F87_j2 R (e 0) (e 1) (e 2) (e 6)) _ (by kernel_rfl) (fun e => F87_j2_ok R e) (by kernel_rfl))
def F87_j10 (R : ER) (k1 : V6) (x0 x1 x2 x6 x7 x8 : Value) : WP :=
  cal Pg R 105 ⟨[x0, x7, x8, x2]⟩ fun v13 =>
  pv (bin .add x8 x6) fun v14 =>
  k1 x0 x1 x2 x6 x8 v14
theorem F87_j10_ok (R : ER) (k1 : V6) (e : Env) : den Pg R (cd Tryz.f87 [1,1,0,0,0,1]) e (setN (inB 0 (setN (kont Pg R Tryz.f87) (fun e => F87_j1 R (e 0) (e 1) (e 2) (e 6) (e 7)))) (fun e => k1 (e 0) (e 1) (e 2) (e 6) (e 7) (e 8))) = (F87_j10 R k1 (e 0) (e 1) (e 2) (e 6) (e 7) (e 8)) := by kernel_rfl
def F87_b3 (R : ER) (k1 : V6) (x0 x1 x2 x6 x7 x8 : Value) : WP :=
  pv (bin .leq x8 x1) fun v15 =>
  cnd v15 (
   F87_j10 R k1 x0 x1 x2 x6 x7 x8) (
   F87_j1 R x0 x1 x2 x6 x7)
theorem F87_b3_ok (R : ER) (k1 : V6) (e : Env) : den Pg R (cd Tryz.f87 [1,1,0,0,0]) e (setN (inB 0 (setN (kont Pg R Tryz.f87) (fun e => F87_j1 R (e 0) (e 1) (e 2) (e 6) (e 7)))) (fun e => k1 (e 0) (e 1) (e 2) (e 6) (e 7) (e 8))) = (F87_b3 R k1 (e 0) (e 1) (e 2) (e 6) (e 7) (e 8)) := (den_join Pg R 0 (cd Tryz.f87 [1,1,0,0,0]) (cd Tryz.f87 [1,1,0,0,0,1]) e (setN (inB 0 (setN (kont Pg R Tryz.f87) (fun e => F87_j1 R (e 0) (e 1) (e 2) (e 6) (e 7)))) (fun e => k1 (e 0) (e 1) (e 2) (e 6) (e 7) (e 8))) (fun e => F87_j10 R k1 (e 0) (e 1) (e 2) (e 6) (e 7) (e 8)) _ (by kernel_rfl) (fun e => F87_j10_ok R k1 e) (by kernel_rfl))
noncomputable def F87_l3 (R : ER) (n : Nat) : V6 := Nat.rec (motive := fun _ => V6) (fun _ _ _ _ _ _ => fun _ => False) (fun _ ih => fun x0 x1 x2 x6 x7 x8 => F87_b3 R ih x0 x1 x2 x6 x7 x8) n
theorem F87_l3_succ (R : ER) (n : Nat) (x0 x1 x2 x6 x7 x8 : Value) : F87_l3 R (n + 1) x0 x1 x2 x6 x7 x8 = F87_b3 R (F87_l3 R n) x0 x1 x2 x6 x7 x8 := rfl
theorem F87_l3_ok (R : ER) : ∀ (n : Nat) (e : Env), iterL (den Pg R (cd Tryz.f87 [1,1,0,0,0])) n e (inB 0 (setN (kont Pg R Tryz.f87) (fun e => F87_j1 R (e 0) (e 1) (e 2) (e 6) (e 7)))) = F87_l3 R n (e 0) (e 1) (e 2) (e 6) (e 7) (e 8) :=
  iterL_join (den Pg R (cd Tryz.f87 [1,1,0,0,0])) (inB 0 (setN (kont Pg R Tryz.f87) (fun e => F87_j1 R (e 0) (e 1) (e 2) (e 6) (e 7)))) (fun n e => F87_l3 R n (e 0) (e 1) (e 2) (e 6) (e 7) (e 8)) (fun _ => rfl) (fun n e => (F87_b3_ok R (F87_l3 R n) e).trans (F87_l3_succ R n (e 0) (e 1) (e 2) (e 6) (e 7) (e 8)).symm)
def F87_j9 (R : ER) (x0 x1 x2 x6 x7 x8 : Value) : WP :=
  exN fun n => F87_l3 R n x0 x1 x2 x6 x7 x8
theorem F87_j9_ok (R : ER) (e : Env) : den Pg R (cd Tryz.f87 [1,1,0]) e (setN (kont Pg R Tryz.f87) (fun e => F87_j1 R (e 0) (e 1) (e 2) (e 6) (e 7))) = (F87_j9 R (e 0) (e 1) (e 2) (e 6) (e 7) (e 8)) := (den_block Pg R (cd Tryz.f87 [1,1,0]) 0 (cd Tryz.f87 [1,1,0,0]) e (setN (kont Pg R Tryz.f87) (fun e => F87_j1 R (e 0) (e 1) (e 2) (e 6) (e 7))) _ (by kernel_rfl) (den_loop Pg R (cd Tryz.f87 [1,1,0,0]) (cd Tryz.f87 [1,1,0,0,0]) e (inB 0 (setN (kont Pg R Tryz.f87) (fun e => F87_j1 R (e 0) (e 1) (e 2) (e 6) (e 7)))) (fun n e => F87_l3 R n (e 0) (e 1) (e 2) (e 6) (e 7) (e 8)) _ (by kernel_rfl) (F87_l3_ok R) (by kernel_rfl)))
def F87 (R : ER) (x0 x1 x2 : Value) : WP :=
  F87_j9 R x0 x1 x2 (.int .i64 20) (.int .i64 0) (.int .i64 20)
theorem F87_den (R : ER) (x0 x1 x2 : Value) : den Pg R (cd Tryz.f87 []) (argsEnv [x0, x1, x2]) (kont Pg R Tryz.f87) = F87 R x0 x1 x2 :=
  have h : ∀ e, den Pg R (cd Tryz.f87 []) e (kont Pg R Tryz.f87) = F87 R (e 0) (e 1) (e 2) := fun e => (den_join Pg R 2 (cd Tryz.f87 []) (cd Tryz.f87 [1,1,1]) e (kont Pg R Tryz.f87) (fun e => F87_j1 R (e 0) (e 1) (e 2) (e 6) (e 7)) _ (by kernel_rfl) (fun e => F87_j1_ok R e) (den_join Pg R 1 (pre 2 (cd Tryz.f87 [])) (cd Tryz.f87 [1,1,0]) e (setN (kont Pg R Tryz.f87) (fun e => F87_j1 R (e 0) (e 1) (e 2) (e 6) (e 7))) (fun e => F87_j9 R (e 0) (e 1) (e 2) (e 6) (e 7) (e 8)) _ (by kernel_rfl) (fun e => F87_j9_ok R e) (by kernel_rfl)))
  h _
theorem F87_calls {R : ER} {x0 x1 x2 : Value} {w : World} (h : F87 R x0 x1 x2 w) : Calls Pg 87 ⟨[x0, x1, x2]⟩ w R :=
  calls_of_den Tryz.func87 (by kernel_rfl) (by kernel_rfl) (F87_den R x0 x1 x2) h
/-! ### 88: cmp_isNaN -/
def F88 (R : ER) (x0 : Value) : WP :=
  pv (bin .neq x0 x0) fun v1 =>
  R (.returned v1)
theorem F88_den (R : ER) (x0 : Value) : den Pg R (cd Tryz.f88 []) (argsEnv [x0]) (kont Pg R Tryz.f88) = F88 R x0 :=
  have h : ∀ e, den Pg R (cd Tryz.f88 []) e (kont Pg R Tryz.f88) = F88 R (e 0) := fun e => by kernel_rfl
  h _
theorem F88_calls {R : ER} {x0 : Value} {w : World} (h : F88 R x0 w) : Calls Pg 88 ⟨[x0]⟩ w R :=
  calls_of_den Tryz.func88 (by kernel_rfl) (by kernel_rfl) (F88_den R x0) h
/-! ### 99: cmp_isNaN_99 -/
def F99 (R : ER) (x0 : Value) : WP :=
  pv (bin .neq x0 x0) fun v1 =>
  R (.returned v1)
theorem F99_den (R : ER) (x0 : Value) : den Pg R (cd Tryz.f99 []) (argsEnv [x0]) (kont Pg R Tryz.f99) = F99 R x0 :=
  have h : ∀ e, den Pg R (cd Tryz.f99 []) e (kont Pg R Tryz.f99) = F99 R (e 0) := fun e => by kernel_rfl
  h _
theorem F99_calls {R : ER} {x0 : Value} {w : World} (h : F99 R x0 w) : Calls Pg 99 ⟨[x0]⟩ w R :=
  calls_of_den Tryz.func99 (by kernel_rfl) (by kernel_rfl) (F99_den R x0) h
/-! ### 100: slices_Index -/
def F100_j1 (R : ER) : WP :=
  R (.returned (.int .i64 (-1)))
theorem F100_j1_ok (R : ER) (e : Env) : den Pg R (cd Tryz.f100 [1,1]) e (kont Pg R Tryz.f100) = (F100_j1 R) := by kernel_rfl
def F100_j4 (R : ER) (k1 : V4) (x0 x1 x7 x8 : Value) : WP :=
  pv (ixS 1 x0 x8) fun v1 =>
  ld1 v1 fun v2 =>
  pv (bin .eql x1 v2) fun v3 =>
  cnd v3 (
   R (.returned x8)) (
   pv (bin .add x8 (.int .i64 1)) fun v4 =>
  k1 x0 x1 x7 v4)
theorem F100_j4_ok (R : ER) (k1 : V4) (e : Env) : den Pg R (cd Tryz.f100 [1,0,1,0,0,1,1]) e (setN (inB 0 (setN (kont Pg R Tryz.f100) (fun e => F100_j1 R))) (fun e => k1 (e 0) (e 1) (e 7) (e 8))) = (F100_j4 R k1 (e 0) (e 1) (e 7) (e 8)) := by kernel_rfl
def F100_b1 (R : ER) (k1 : V4) (x0 x1 x7 x8 : Value) : WP :=
  pv (bin .lss x8 x7) fun v5 =>
  cnd v5 (
   F100_j4 R k1 x0 x1 x7 x8) (
   F100_j1 R)
theorem F100_b1_ok (R : ER) (k1 : V4) (e : Env) : den Pg R (cd Tryz.f100 [1,0,1,0,0]) e (setN (inB 0 (setN (kont Pg R Tryz.f100) (fun e => F100_j1 R))) (fun e => k1 (e 0) (e 1) (e 7) (e 8))) = (F100_b1 R k1 (e 0) (e 1) (e 7) (e 8)) := (den_join Pg R 1 (cd Tryz.f100 [1,0,1,0,0]) (cd Tryz.f100 [1,0,1,0,0,1,1]) e (setN (inB 0 (setN (kont Pg R Tryz.f100) (fun e => F100_j1 R))) (fun e => k1 (e 0) (e 1) (e 7) (e 8))) (fun e => F100_j4 R k1 (e 0) (e 1) (e 7) (e 8)) _ (by kernel_rfl) (fun e => F100_j4_ok R k1 e) (by kernel_rfl))
noncomputable def F100_l1 (R : ER) (n : Nat) : V4 := Nat.rec (motive := fun _ => V4) (fun _ _ _ _ => fun _ => False) (fun _ ih => fun x0 x1 x7 x8 => F100_b1 R ih x0 x1 x7 x8) n
theorem F100_l1_succ (R : ER) (n : Nat) (x0 x1 x7 x8 : Value) : F100_l1 R (n + 1) x0 x1 x7 x8 = F100_b1 R (F100_l1 R n) x0 x1 x7 x8 := rfl
theorem F100_l1_ok (R : ER) : ∀ (n : Nat) (e : Env), iterL (den Pg R (cd Tryz.f100 [1,0,1,0,0])) n e (inB 0 (setN (kont Pg R Tryz.f100) (fun e => F100_j1 R))) = F100_l1 R n (e 0) (e 1) (e 7) (e 8) :=
  iterL_join (den Pg R (cd Tryz.f100 [1,0,1,0,0])) (inB 0 (setN (kont Pg R Tryz.f100) (fun e => F100_j1 R))) (fun n e => F100_l1 R n (e 0) (e 1) (e 7) (e 8)) (fun _ => rfl) (fun n e => (F100_b1_ok R (F100_l1 R n) e).trans (F100_l1_succ R n (e 0) (e 1) (e 7) (e 8)).symm)
def F100_j3 (R : ER) (x0 x1 x7 x8 : Value) : WP :=
  exN fun n => F100_l1 R n x0 x1 x7 x8
theorem F100_j3_ok (R : ER) (e : Env) : den Pg R (cd Tryz.f100 [1,0,1]) e (setN (kont Pg R Tryz.f100) (fun e => F100_j1 R)) = (F100_j3 R (e 0) (e 1) (e 7) (e 8)) := (den_block Pg R (cd Tryz.f100 [1,0,1]) 0 (cd Tryz.f100 [1,0,1,0]) e (setN (kont Pg R Tryz.f100) (fun e => F100_j1 R)) _ (by kernel_rfl) (den_loop Pg R (cd Tryz.f100 [1,0,1,0]) (cd Tryz.f100 [1,0,1,0,0]) e (inB 0 (setN (kont Pg R Tryz.f100) (fun e => F100_j1 R))) (fun n e => F100_l1 R n (e 0) (e 1) (e 7) (e 8)) _ (by kernel_rfl) (F100_l1_ok R) (by kernel_rfl)))
def F100_j2 (R : ER) (x0 x1 : Value) : WP :=
  pv (lenS x0) fun v6 =>
  F100_j3 R x0 x1 v6 (.int .i64 0)
theorem F100_j2_ok (R : ER) (e : Env) : den Pg R (cd Tryz.f100 [1,0]) e (setN (kont Pg R Tryz.f100) (fun e => F100_j1 R)) = (F100_j2 R (e 0) (e 1)) := (den_join Pg R 0 (cd Tryz.f100 [1,0]) (cd Tryz.f100 [1,0,1]) e (setN (kont Pg R Tryz.f100) (fun e => F100_j1 R)) (fun e => F100_j3 R (e 0) (e 1) (e 7) (e 8)) _ (by kernel_rfl) (fun e => F100_j3_ok R e) (by kernel_rfl))
def F100 (R : ER) (x0 x1 : Value) : WP :=
  F100_j2 R x0 x1
theorem F100_den (R : ER) (x0 x1 : Value) : den Pg R (cd Tryz.f100 []) (argsEnv [x0, x1]) (kont Pg R Tryz.f100) = F100 R x0 x1 :=
  have h : ∀ e, den Pg R (cd Tryz.f100 []) e (kont Pg R Tryz.f100) = F100 R (e 0) (e 1) := fun e => (den_join Pg R 1 (cd Tryz.f100 []) (cd Tryz.f100 [1,1]) e (kont Pg R Tryz.f100) (fun e => F100_j1 R) _ (by kernel_rfl) (fun e => F100_j1_ok R e) (den_join Pg R 0 (pre 1 (cd Tryz.f100 [])) (cd Tryz.f100 [1,0]) e (setN (kont Pg R Tryz.f100) (fun e => F100_j1 R)) (fun e => F100_j2 R (e 0) (e 1)) _ (by kernel_rfl) (fun e => F100_j2_ok R e) (by kernel_rfl)))
  h _
theorem F100_calls {R : ER} {x0 x1 : Value} {w : World} (h : F100 R x0 x1 w) : Calls Pg 100 ⟨[x0, x1]⟩ w R :=
  calls_of_den Tryz.func100 (by kernel_rfl) (by kernel_rfl) (F100_den R x0 x1) h
/-! ### 101: slices_Delete_101 -/
def F101_j1 (R : ER) (x0 x1 x2 : Value) : WP :=
  pv (lenS x0) fun v1 =>
  drewV (
  pv (slS 2 x0 none (some x1)) fun v2 =>
  pv (slS 2 x0 (some x2) none) fun v3 =>
  mem fun w5 => blt Pg noR .append ⟨[54,54]⟩ 54 ⟨[false, false]⟩ ⟨[v2, v3]⟩ fun v4 =>
  pv (lenS v4) fun v6 =>
  pv (slS 2 v4 (some v6) (some v1)) fun v7 =>
  blt Pg R .clear ⟨[54]⟩ 0 ⟨[false]⟩ ⟨[v7]⟩ fun _ =>
  R (.returned v4))
theorem F101_j1_ok (R : ER) (e : Env) : den Pg R (cd Tryz.f101 [1,1,1]) e (kont Pg R Tryz.f101) = (F101_j1 R (e 0) (e 1) (e 2)) := by kernel_rfl
def F101 (R : ER) (x0 x1 x2 : Value) : WP :=
  pv (lenS x0) fun v8 =>
  valV Pg R (Instr.sliceAt 54 x0 (some x1) (some x2) (some v8)) fun v9 =>
  pv (bin .eql x1 x2) fun v10 =>
  cnd v10 (
   R (.returned x0)) (
   F101_j1 R x0 x1 x2)
theorem F101_den (R : ER) (x0 x1 x2 : Value) : den Pg R (cd Tryz.f101 []) (argsEnv [x0, x1, x2]) (kont Pg R Tryz.f101) = F101 R x0 x1 x2 :=
  have h : ∀ e, den Pg R (cd Tryz.f101 []) e (kont Pg R Tryz.f101) = F101 R (e 0) (e 1) (e 2) := fun e => (den_join Pg R 2 (cd Tryz.f101 []) (cd Tryz.f101 [1,1,1]) e (kont Pg R Tryz.f101) (fun e => F101_j1 R (e 0) (e 1) (e 2)) _ (by kernel_rfl) (fun e => F101_j1_ok R e) (by kernel_rfl))
  h _
theorem F101_calls {R : ER} {x0 x1 x2 : Value} {w : World} (h : F101 R x0 x1 x2 w) : Calls Pg 101 ⟨[x0, x1, x2]⟩ w R :=
  calls_of_den Tryz.func101 (by kernel_rfl) (by kernel_rfl) (F101_den R x0 x1 x2) h
/-! ### 102: heap_up -/
def F102_b1 (R : ER) (k1 : V2) (x0 x1 : Value) : WP :=
  pv (bin .sub x1 (.int .i64 1)) fun v1 =>
  pv (bin .quo v1 (.int .i64 2)) fun v2 =>
  pv (bin .eql v2 x1) fun v3 =>
  gd v3 false (pv (some x0)) fun v4 =>
  gd v3 false (pv (some x1)) fun v5 =>
  gd v3 false (pv (some v2)) fun v6 =>
  gd v3 false (ivk Pg R v4 "Less" ⟨[v5, v6]⟩) fun v7 =>
  gd v3 false (pv (unO .not v7)) fun v8 =>
  pv (pickO v3 (.bool true) v8) fun v9 =>
  cnd v9 (
   R (.returned (.tuple ⟨[]⟩))) (
   ivk Pg R x0 "Swap" ⟨[v2, x1]⟩ fun v10 =>
  k1 x0 v2)
theorem F102_b1_ok (R : ER) (k1 : V2) (e : Env) : den Pg R (cd Tryz.f102 [0,0]) e (setN (inB 0 (kont Pg R Tryz.f102)) (fun e => k1 (e 0) (e 1))) = (F102_b1 R k1 (e 0) (e 1)) := (den_block Pg R (cd Tryz.f102 [0,0]) 1 (cd Tryz.f102 [0,0,0]) e (setN (inB 0 (kont Pg R Tryz.f102)) (fun e => k1 (e 0) (e 1))) _ (by kernel_rfl) (by kernel_rfl))
noncomputable def F102_l1 (R : ER) (n : Nat) : V2 := Nat.rec (motive := fun _ => V2) (fun _ _ => fun _ => False) (fun _ ih => fun x0 x1 => F102_b1 R ih x0 x1) n
theorem F102_l1_succ (R : ER) (n : Nat) (x0 x1 : Value) : F102_l1 R (n + 1) x0 x1 = F102_b1 R (F102_l1 R n) x0 x1 := rfl
theorem F102_l1_ok (R : ER) : ∀ (n : Nat) (e : Env), iterL (den Pg R (cd Tryz.f102 [0,0])) n e (inB 0 (kont Pg R Tryz.f102)) = F102_l1 R n (e 0) (e 1) :=
  iterL_join (den Pg R (cd Tryz.f102 [0,0])) (inB 0 (kont Pg R Tryz.f102)) (fun n e => F102_l1 R n (e 0) (e 1)) (fun _ => rfl) (fun n e => (F102_b1_ok R (F102_l1 R n) e).trans (F102_l1_succ R n (e 0) (e 1)).symm)
def F102 (R : ER) (x0 x1 : Value) : WP :=
  exN fun n => F102_l1 R n x0 x1
theorem F102_den (R : ER) (x0 x1 : Value) : den Pg R (cd Tryz.f102 []) (argsEnv [x0, x1]) (kont Pg R Tryz.f102) = F102 R x0 x1 :=
  have h : ∀ e, den Pg R (cd Tryz.f102 []) e (kont Pg R Tryz.f102) = F102 R (e 0) (e 1) := fun e => (den_block Pg R (cd Tryz.f102 []) 0 (cd Tryz.f102 [0]) e (kont Pg R Tryz.f102) _ (by kernel_rfl) (den_loop Pg R (cd Tryz.f102 [0]) (cd Tryz.f102 [0,0]) e (inB 0 (kont Pg R Tryz.f102)) (fun n e => F102_l1 R n (e 0) (e 1)) _ (by kernel_rfl) (F102_l1_ok R) (by kernel_rfl)))
  h _
theorem F102_calls {R : ER} {x0 x1 : Value} {w : World} (h : F102 R x0 x1 w) : Calls Pg 102 ⟨[x0, x1]⟩ w R :=
  calls_of_den Tryz.func102 (by kernel_rfl) (by kernel_rfl) (F102_den R x0 x1) h
/-! ### 103: slices_IndexFunc_103 -/
def F103_j1 (R : ER) : WP :=
  R (.returned (.int .i64 (-1)))
theorem F103_j1_ok (R : ER) (e : Env) : den Pg R (cd Tryz.f103 [1,1]) e (kont Pg R Tryz.f103) = (F103_j1 R) := by kernel_rfl
def F103_j4 (R : ER) (k1 : V4) (x0 x1 x7 x8 : Value) : WP :=
  pv (ixS 4 x0 x8) fun v1 =>
  ldN 4 v1 fun v2 =>
  calD Pg R x1 ⟨[v2]⟩ fun v3 =>
  cnd v3 (
   R (.returned x8)) (
   pv (bin .add x8 (.int .i64 1)) fun v4 =>
  k1 x0 x1 x7 v4)
theorem F103_j4_ok (R : ER) (k1 : V4) (e : Env) : den Pg R (cd Tryz.f103 [1,0,1,0,0,1,1]) e (setN (inB 0 (setN (kont Pg R Tryz.f103) (fun e => F103_j1 R))) (fun e => k1 (e 0) (e 1) (e 7) (e 8))) = (F103_j4 R k1 (e 0) (e 1) (e 7) (e 8)) := by kernel_rfl
def F103_b1 (R : ER) (k1 : V4) (x0 x1 x7 x8 : Value) : WP :=
  pv (bin .lss x8 x7) fun v5 =>
  cnd v5 (
   F103_j4 R k1 x0 x1 x7 x8) (
   F103_j1 R)
theorem F103_b1_ok (R : ER) (k1 : V4) (e : Env) : den Pg R (cd Tryz.f103 [1,0,1,0,0]) e (setN (inB 0 (setN (kont Pg R Tryz.f103) (fun e => F103_j1 R))) (fun e => k1 (e 0) (e 1) (e 7) (e 8))) = (F103_b1 R k1 (e 0) (e 1) (e 7) (e 8)) := (den_join Pg R 1 (cd Tryz.f103 [1,0,1,0,0]) (cd Tryz.f103 [1,0,1,0,0,1,1]) e (setN (inB 0 (setN (kont Pg R Tryz.f103) (fun e => F103_j1 R))) (fun e => k1 (e 0) (e 1) (e 7) (e 8))) (fun e => F103_j4 R k1 (e 0) (e 1) (e 7) (e 8)) _ (by kernel_rfl) (fun e => F103_j4_ok R k1 e) (by kernel_rfl))
noncomputable def F103_l1 (R : ER) (n : Nat) : V4 := Nat.rec (motive := fun _ => V4) (fun _ _ _ _ => fun _ => False) (fun _ ih => fun x0 x1 x7 x8 => F103_b1 R ih x0 x1 x7 x8) n
theorem F103_l1_succ (R : ER) (n : Nat) (x0 x1 x7 x8 : Value) : F103_l1 R (n + 1) x0 x1 x7 x8 = F103_b1 R (F103_l1 R n) x0 x1 x7 x8 := rfl
theorem F103_l1_ok (R : ER) : ∀ (n : Nat) (e : Env), iterL (den Pg R (cd Tryz.f103 [1,0,1,0,0])) n e (inB 0 (setN (kont Pg R Tryz.f103) (fun e => F103_j1 R))) = F103_l1 R n (e 0) (e 1) (e 7) (e 8) :=
  iterL_join (den Pg R (cd Tryz.f103 [1,0,1,0,0])) (inB 0 (setN (kont Pg R Tryz.f103) (fun e => F103_j1 R))) (fun n e => F103_l1 R n (e 0) (e 1) (e 7) (e 8)) (fun _ => rfl) (fun n e => (F103_b1_ok R (F103_l1 R n) e).trans (F103_l1_succ R n (e 0) (e 1) (e 7) (e 8)).symm)
def F103_j3 (R : ER) (x0 x1 x7 x8 : Value) : WP :=
  exN fun n => F103_l1 R n x0 x1 x7 x8
theorem F103_j3_ok (R : ER) (e : Env) : den Pg R (cd Tryz.f103 [1,0,1]) e (setN (kont Pg R Tryz.f103) (fun e => F103_j1 R)) = (F103_j3 R (e 0) (e 1) (e 7) (e 8)) := (den_block Pg R (cd Tryz.f103 [1,0,1]) 0 (cd Tryz.f103 [1,0,1,0]) e (setN (kont Pg R Tryz.f103) (fun e => F103_j1 R)) _ (by kernel_rfl) (den_loop Pg R (cd Tryz.f103 [1,0,1,0]) (cd Tryz.f103 [1,0,1,0,0]) e (inB 0 (setN (kont Pg R Tryz.f103) (fun e => F103_j1 R))) (fun n e => F103_l1 R n (e 0) (e 1) (e 7) (e 8)) _ (by kernel_rfl) (F103_l1_ok R) (by kernel_rfl)))
def F103_j2 (R : ER) (x0 x1 : Value) : WP :=
  pv (lenS x0) fun v6 =>
  F103_j3 R x0 x1 v6 (.int .i64 0)
theorem F103_j2_ok (R : ER) (e : Env) : den Pg R (cd Tryz.f103 [1,0]) e (setN (kont Pg R Tryz.f103) (fun e => F103_j1 R)) = (F103_j2 R (e 0) (e 1)) := (den_join Pg R 0 (cd Tryz.f103 [1,0]) (cd Tryz.f103 [1,0,1]) e (setN (kont Pg R Tryz.f103) (fun e => F103_j1 R)) (fun e => F103_j3 R (e 0) (e 1) (e 7) (e 8)) _ (by kernel_rfl) (fun e => F103_j3_ok R e) (by kernel_rfl))
def F103 (R : ER) (x0 x1 : Value) : WP :=
  F103_j2 R x0 x1
theorem F103_den (R : ER) (x0 x1 : Value) : den Pg R (cd Tryz.f103 []) (argsEnv [x0, x1]) (kont Pg R Tryz.f103) = F103 R x0 x1 :=
  have h : ∀ e, den Pg R (cd Tryz.f103 []) e (kont Pg R Tryz.f103) = F103 R (e 0) (e 1) := fun e => (den_join Pg R 1 (cd Tryz.f103 []) (cd Tryz.f103 [1,1]) e (kont Pg R Tryz.f103) (fun e => F103_j1 R) _ (by kernel_rfl) (fun e => F103_j1_ok R e) (den_join Pg R 0 (pre 1 (cd Tryz.f103 [])) (cd Tryz.f103 [1,0]) e (setN (kont Pg R Tryz.f103) (fun e => F103_j1 R)) (fun e => F103_j2 R (e 0) (e 1)) _ (by kernel_rfl) (fun e => F103_j2_ok R e) (by kernel_rfl)))
  h _
theorem F103_calls {R : ER} {x0 x1 : Value} {w : World} (h : F103 R x0 x1 w) : Calls Pg 103 ⟨[x0, x1]⟩ w R :=
  calls_of_den Tryz.func103 (by kernel_rfl) (by kernel_rfl) (F103_den R x0 x1) h
/-! ### 104: slices_IndexFunc_104 -/
def F104_j1 (R : ER) : WP :=
  R (.returned (.int .i64 (-1)))
theorem F104_j1_ok (R : ER) (e : Env) : den Pg R (cd Tryz.f104 [1,1]) e (kont Pg R Tryz.f104) = (F104_j1 R) := by kernel_rfl
def F104_j4 (R : ER) (k1 : V4) (x0 x1 x7 x8 : Value) : WP :=
  pv (ixS 2 x0 x8) fun v1 =>
  ldN 2 v1 fun v2 =>
  calD Pg R x1 ⟨[v2]⟩ fun v3 =>
  cnd v3 (
   R (.returned x8)) (
   pv (bin .add x8 (.int .i64 1)) fun v4 =>
  k1 x0 x1 x7 v4)
theorem F104_j4_ok (R : ER) (k1 : V4) (e : Env) : den Pg R (cd Tryz.f104 [1,0,1,0,0,1,1]) e (setN (inB 0 (setN (kont Pg R Tryz.f104) (fun e => F104_j1 R))) (fun e => k1 (e 0) (e 1) (e 7) (e 8))) = (F104_j4 R k1 (e 0) (e 1) (e 7) (e 8)) := by kernel_rfl
def F104_b1 (R : ER) (k1 : V4) (x0 x1 x7 x8 : Value) : WP :=
  pv (bin .lss x8 x7) fun v5 =>
  cnd v5 (
   F104_j4 R k1 x0 x1 x7 x8) (
   F104_j1 R)
theorem F104_b1_ok (R : ER) (k1 : V4) (e : Env) : den Pg R (cd Tryz.f104 [1,0,1,0,0]) e (setN (inB 0 (setN (kont Pg R Tryz.f104) (fun e => F104_j1 R))) (fun e => k1 (e 0) (e 1) (e 7) (e 8))) = (F104_b1 R k1 (e 0) (e 1) (e 7) (e 8)) := (den_join Pg R 1 (cd Tryz.f104 [1,0,1,0,0]) (cd Tryz.f104 [1,0,1,0,0,1,1]) e (setN (inB 0 (setN (kont Pg R Tryz.f104) (fun e => F104_j1 R))) (fun e => k1 (e 0) (e 1) (e 7) (e 8))) (fun e => F104_j4 R k1 (e 0) (e 1) (e 7) (e 8)) _ (by kernel_rfl) (fun e => F104_j4_ok R k1 e) (by kernel_rfl))
noncomputable def F104_l1 (R : ER) (n : Nat) : V4 := Nat.rec (motive := fun _ => V4) (fun _ _ _ _ => fun _ => False) (fun _ ih => fun x0 x1 x7 x8 => F104_b1 R ih x0 x1 x7 x8) n
theorem F104_l1_succ (R : ER) (n : Nat) (x0 x1 x7 x8 : Value) : F104_l1 R (n + 1) x0 x1 x7 x8 = F104_b1 R (F104_l1 R n) x0 x1 x7 x8 := rfl
theorem F104_l1_ok (R : ER) : ∀ (n : Nat) (e : Env), iterL (den Pg R (cd Tryz.f104 [1,0,1,0,0])) n e (inB 0 (setN (kont Pg R Tryz.f104) (fun e => F104_j1 R))) = F104_l1 R n (e 0) (e 1) (e 7) (e 8) :=
  iterL_join (den Pg R (cd Tryz.f104 [1,0,1,0,0])) (inB 0 (setN (kont Pg R Tryz.f104) (fun e => F104_j1 R))) (fun n e => F104_l1 R n (e 0) (e 1) (e 7) (e 8)) (fun _ => rfl) (fun n e => (F104_b1_ok R (F104_l1 R n) e).trans (F104_l1_succ R n (e 0) (e 1) (e 7) (e 8)).symm)
def F104_j3 (R : ER) (x0 x1 x7 x8 : Value) : WP :=
  exN fun n => F104_l1 R n x0 x1 x7 x8
theorem F104_j3_ok (R : ER) (e : Env) : den Pg R (cd Tryz.f104 [1,0,1]) e (setN (kont Pg R Tryz.f104) (fun e => F104_j1 R)) = (F104_j3 R (e 0) (e 1) (e 7) (e 8)) := (den_block Pg R (cd Tryz.f104 [1,0,1]) 0 (cd Tryz.f104 [1,0,1,0]) e (setN (kont Pg R Tryz.f104) (fun e => F104_j1 R)) _ (by kernel_rfl) (den_loop Pg R (cd Tryz.f104 [1,0,1,0]) (cd Tryz.f104 [1,0,1,0,0]) e (inB 0 (setN (kont Pg R Tryz.f104) (fun e => F104_j1 R))) (fun n e => F104_l1 R n (e 0) (e 1) (e 7) (e 8)) _ (by kernel_rfl) (F104_l1_ok R) (by kernel_rfl)))
def F104_j2 (R : ER) (x0 x1 : Value) : WP :=
  pv (lenS x0) fun v6 =>
  F104_j3 R x0 x1 v6 (.int .i64 0)
theorem F104_j2_ok (R : ER) (e : Env) : den Pg R (cd Tryz.f104 [1,0]) e (setN (kont Pg R Tryz.f104) (fun e => F104_j1 R)) = (F104_j2 R (e 0) (e 1)) := (den_join Pg R 0 (cd Tryz.f104 [1,0]) (cd Tryz.f104 [1,0,1]) e (setN (kont Pg R Tryz.f104) (fun e => F104_j1 R)) (fun e => F104_j3 R (e 0) (e 1) (e 7) (e 8)) _ (by kernel_rfl) (fun e => F104_j3_ok R e) (by kernel_rfl))
def F104 (R : ER) (x0 x1 : Value) : WP :=
  F104_j2 R x0 x1
theorem F104_den (R : ER) (x0 x1 : Value) : den Pg R (cd Tryz.f104 []) (argsEnv [x0, x1]) (kont Pg R Tryz.f104) = F104 R x0 x1 :=
  have h : ∀ e, den Pg R (cd Tryz.f104 []) e (kont Pg R Tryz.f104) = F104 R (e 0) (e 1) := fun e => (den_join Pg R 1 (cd Tryz.f104 []) (cd Tryz.f104 [1,1]) e (kont Pg R Tryz.f104) (fun e => F104_j1 R) _ (by kernel_rfl) (fun e => F104_j1_ok R e) (den_join Pg R 0 (pre 1 (cd Tryz.f104 [])) (cd Tryz.f104 [1,0]) e (setN (kont Pg R Tryz.f104) (fun e => F104_j1 R)) (fun e => F104_j2 R (e 0) (e 1)) _ (by kernel_rfl) (fun e => F104_j2_ok R e) (by kernel_rfl)))
  h _
theorem F104_calls {R : ER} {x0 x1 : Value} {w : World} (h : F104 R x0 x1 w) : Calls Pg 104 ⟨[x0, x1]⟩ w R :=
  calls_of_den Tryz.func104 (by kernel_rfl) (by kernel_rfl) (F104_den R x0 x1) h
/-! ### 105: slices_insertionSortCmpFunc_105 -/
def F105_j3 (R : ER) (k1 : V5) (x0 x1 x2 x3 x8 : Value) : WP :=
  pv (bin .add x8 (.int .i64 1)) fun v1 =>
  k1 x0 x1 x2 x3 v1
theorem F105_j3_ok (R : ER) (k1 : V5) (e : Env) : den Pg R (cd Tryz.f105 [1,0,0,1,1]) e (setN (inB 0 (kont Pg R Tryz.f105)) (fun e => k1 (e 0) (e 1) (e 2) (e 3) (e 8))) = (F105_j3 R k1 (e 0) (e 1) (e 2) (e 3) (e 8)) := by kernel_rfl
def F105_j6 (R : ER) (k1 : V5) (k2 : V6) (x0 x1 x2 x3 x8 x9 : Value) : WP :=
  drewV (
  pv (bin .sub x9 (.int .i64 1)) fun v2 =>
  pv (bin .sub x9 (.int .i64 1)) fun v3 =>
  pv (ixS 2 x0 v3) fun v4 =>
  ldN 2 v4 fun v5 =>
  pv (ixS 2 x0 x9) fun v6 =>
  ldN 2 v6 fun v7 =>
  pv (ixS 2 x0 x9) fun v8 =>
  mem fun w10 => stN 2 v8 v5 fun v9 =>
  pv (ixS 2 x0 v2) fun v11 =>
  mem fun w13 => stN 2 v11 v7 fun v12 =>
  pv (bin .sub x9 (.int .i64 1)) fun v14 =>
  k2 x0 x1 x2 x3 x8 v14)
theorem F105_j6_ok (R : ER) (k1 : V5) (k2 : V6) (e : Env) : den Pg R (cd Tryz.f105 [1,0,0,1,0,0,1,0,0,1]) e (setN (inB 2 (inB 1 (setN (setN (inB 0 (kont Pg R Tryz.f105)) (fun e => k1 (e 0) (e 1) (e 2) (e 3) (e 8))) (fun e => F105_j3 R k1 (e 0) (e 1) (e 2) (e 3) (e 8))))) (fun e => k2 (e 0) (e 1) (e 2) (e 3) (e 8) (e 9))) = (F105_j6 R k1 k2 (e 0) (e 1) (e 2) (e 3) (e 8) (e 9)) := by kernel_rfl
def F105_j7 (R : ER) (k1 : V5) (k2 : V6) (x0 x1 x2 x3 x8 x9 : Value) : WP :=
  drewV (
  pv (bin .gtr x9 x1) fun v15 =>
  gd v15 true (pv (some x3)) fun v16 =>
  gd v15 true (pv (some x0)) fun v17 =>
  gd v15 true (pv (some x9)) fun v18 =>
  gd v15 true (pv (ixS 2 v17 v18)) fun v19 =>
  gd v15 true (ldN 2 v19) fun v20 =>
  gd v15 true (pv (some x0)) fun v21 =>
  gd v15 true (pv (some x9)) fun v22 =>
  gd v15 true (pv (bin .sub v22 (.int .i64 1))) fun v23 =>
  gd v15 true (pv (ixS 2 v21 v23)) fun v24 =>
  gd v15 true (ldN 2 v24) fun v25 =>
  mem fun w27 => gd v15 true (calD Pg noR v16 ⟨[v20, v25]⟩) fun v26 =>
  gd v15 true (pv (bin .lss v26 (.int .i64 0))) fun v28 =>
  pv (pickO v15 v28 (.bool false)) fun v29 =>
  cnd v29 (
   F105_j6 R k1 k2 x0 x1 x2 x3 x8 x9) (
   F105_j3 R k1 x0 x1 x2 x3 x8))
theorem F105_j7_ok (R : ER) (k1 : V5) (k2 : V6) (e : Env) : den Pg R (cd Tryz.f105 [1,0,0,1,0,0,1,0,0,0]) e (setN (setN (inB 2 (inB 1 (setN (setN (inB 0 (kont Pg R Tryz.f105)) (fun e => k1 (e 0) (e 1) (e 2) (e 3) (e 8))) (fun e => F105_j3 R k1 (e 0) (e 1) (e 2) (e 3) (e 8))))) (fun e => k2 (e 0) (e 1) (e 2) (e 3) (e 8) (e 9))) (fun e => F105_j6 R k1 k2 (e 0) (e 1) (e 2) (e 3) (e 8) (e 9))) = (F105_j7 R k1 k2 (e 0) (e 1) (e 2) (e 3) (e 8) (e 9)) := (by kernel_rfl)
def F105_b2 (R : ER) (k1 : V5) (k2 : V6) (x0 x1 x2 x3 x8 x9 : Value) : WP :=
  F105_j7 R k1 k2 x0 x1 x2 x3 x8 x9
theorem F105_b2_ok (R : ER) (k1 : V5) (k2 : V6) (e : Env) : den Pg R (cd Tryz.f105 [1,0,0,1,0,0,1,0,0]) e (setN (inB 2 (inB 1 (setN (setN (inB 0 (kont Pg R Tryz.f105)) (fun e => k1 (e 0) (e 1) (e 2) (e 3) (e 8))) (fun e => F105_j3 R k1 (e 0) (e 1) (e 2) (e 3) (e 8))))) (fun e => k2 (e 0) (e 1) (e 2) (e 3) (e 8) (e 9))) = (F105_b2 R k1 k2 (e 0) (e 1) (e 2) (e 3) (e 8) (e 9)) := (den_join Pg R 0 (cd Tryz.f105 [1,0,0,1,0,0,1,0,0]) (cd Tryz.f105 [1,0,0,1,0,0,1,0,0,1]) e (setN (inB 2 (inB 1 (setN (setN (inB 0 (kont Pg R Tryz.f105)) (fun e => k1 (e 0) (e 1) (e 2) (e 3) (e 8))) (fun e => F105_j3 R k1 (e 0) (e 1) (e 2) (e 3) (e 8))))) (fun e => k2 (e 0) (e 1) (e 2) (e 3) (e 8) (e 9))) (fun e => F105_j6 R k1 k2 (e 0) (e 1) (e 2) (e 3) (e 8) (e 9)) _ (by kernel_rfl) (fun e => F105_j6_ok R k1 k2 e) (den_conv Pg R (pre 0 (cd Tryz.f105 [1,0,0,1,0,0,1,0,0])) (cd Tryz.f105 [1,0,0,1,0,0,1,0,0,0]) e (setN (setN (inB 2 (inB 1 (setN (setN (inB 0 (kont Pg R Tryz.f105)) (fun e => k1 (e 0) (e 1) (e 2) (e 3) (e 8))) (fun e => F105_j3 R k1 (e 0) (e 1) (e 2) (e 3) (e 8))))) (fun e => k2 (e 0) (e 1) (e 2) (e 3) (e 8) (e 9))) (fun e => F105_j6 R k1 k2 (e 0) (e 1) (e 2) (e 3) (e 8) (e 9))) _ (by kernel_rfl) (F105_j7_ok R k1 k2 e)))
noncomputable def F105_l1 (R : ER) (k1 : V5) (n : Nat) : V6 := Nat.rec (motive := fun _ => V6) (fun _ _ _ _ _ _ => fun _ => False) (fun _ ih => fun x0 x1 x2 x3 x8 x9 => F105_b2 R k1 ih x0 x1 x2 x3 x8 x9) n
theorem F105_l1_succ (R : ER) (k1 : V5) (n : Nat) (x0 x1 x2 x3 x8 x9 : Value) : F105_l1 R k1 (n + 1) x0 x1 x2 x3 x8 x9 = F105_b2 R k1 (F105_l1 R k1 n) x0 x1 x2 x3 x8 x9 := rfl
theorem F105_l1_ok (R : ER) (k1 : V5) : ∀ (n : Nat) (e : Env), iterL (den Pg R (cd Tryz.f105 [1,0,0,1,0,0,1,0,0])) n e (inB 2 (inB 1 (setN (setN (inB 0 (kont Pg R Tryz.f105)) (fun e => k1 (e 0) (e 1) (e 2) (e 3) (e 8))) (fun e => F105_j3 R k1 (e 0) (e 1) (e 2) (e 3) (e 8))))) = F105_l1 R k1 n (e 0) (e 1) (e 2) (e 3) (e 8) (e 9) :=
  iterL_join (den Pg R (cd Tryz.f105 [1,0,0,1,0,0,1,0,0])) (inB 2 (inB 1 (setN (setN (inB 0 (kont Pg R Tryz.f105)) (fun e => k1 (e 0) (e 1) (e 2) (e 3) (e 8))) (fun e => F105_j3 R k1 (e 0) (e 1) (e 2) (e 3) (e 8))))) (fun n e => F105_l1 R k1 n (e 0) (e 1) (e 2) (e 3) (e 8) (e 9)) (fun _ => rfl) (fun n e => (F105_b2_ok R k1 (F105_l1 R k1 n) e).trans (F105_l1_succ R k1 n (e 0) (e 1) (e 2) (e 3) (e 8) (e 9)).symm)
def F105_j5 (R : ER) (k1 : V5) (x0 x1 x2 x3 x8 x9 : Value) : WP :=
  exN fun n => F105_l1 R k1 n x0 x1 x2 x3 x8 x9
theorem F105_j5_ok (R : ER) (k1 : V5) (e : Env) : den Pg R (cd Tryz.f105 [1,0,0,1,0,0,1]) e (inB 1 (setN (setN (inB 0 (kont Pg R Tryz.f105)) (fun e => k1 (e 0) (e 1) (e 2) (e 3) (e 8))) (fun e => F105_j3 R k1 (e 0) (e 1) (e 2) (e 3) (e 8)))) = (F105_j5 R k1 (e 0) (e 1) (e 2) (e 3) (e 8) (e 9)) := (den_block Pg R (cd Tryz.f105 [1,0,0,1,0,0,1]) 2 (cd Tryz.f105 [1,0,0,1,0,0,1,0]) e (inB 1 (setN (setN (inB 0 (kont Pg R Tryz.f105)) (fun e => k1 (e 0) (e 1) (e 2) (e 3) (e 8))) (fun e => F105_j3 R k1 (e 0) (e 1) (e 2) (e 3) (e 8)))) _ (by kernel_rfl) (den_loop Pg R (cd Tryz.f105 [1,0,0,1,0,0,1,0]) (cd Tryz.f105 [1,0,0,1,0,0,1,0,0]) e (inB 2 (inB 1 (setN (setN (inB 0 (kont Pg R Tryz.f105)) (fun e => k1 (e 0) (e 1) (e 2) (e 3) (e 8))) (fun e => F105_j3 R k1 (e 0) (e 1) (e 2) (e 3) (e 8))))) (fun n e => F105_l1 R k1 n (e 0) (e 1) (e 2) (e 3) (e 8) (e 9)) _ (by kernel_rfl) (F105_l1_ok R k1) (by kernel_rfl)))
def F105_j4 (R : ER) (k1 : V5) (x0 x1 x2 x3 x8 : Value) : WP :=
  F105_j5 R k1 x0 x1 x2 x3 x8 x8
theorem F105_j4_ok (R : ER) (k1 : V5) (e : Env) : den Pg R (cd Tryz.f105 [1,0,0,1,0]) e (setN (setN (inB 0 (kont Pg R Tryz.f105)) (fun e => k1 (e 0) (e 1) (e 2) (e 3) (e 8))) (fun e => F105_j3 R k1 (e 0) (e 1) (e 2) (e 3) (e 8))) = (F105_j4 R k1 (e 0) (e 1) (e 2) (e 3) (e 8)) := (den_block Pg R (cd Tryz.f105 [1,0,0,1,0]) 1 (cd Tryz.f105 [1,0,0,1,0,0]) e (setN (setN (inB 0 (kont Pg R Tryz.f105)) (fun e => k1 (e 0) (e 1) (e 2) (e 3) (e 8))) (fun e => F105_j3 R k1 (e 0) (e 1) (e 2) (e 3) (e 8))) _ (by kernel_rfl) (den_join Pg R 0 (cd Tryz.f105 [1,0,0,1,0,0]) (cd Tryz.f105 [1,0,0,1,0,0,1]) e (inB 1 (setN (setN (inB 0 (kont Pg R Tryz.f105)) (fun e => k1 (e 0) (e 1) (e 2) (e 3) (e 8))) (fun e => F105_j3 R k1 (e 0) (e 1) (e 2) (e 3) (e 8)))) (fun e => F105_j5 R k1 (e 0) (e 1) (e 2) (e 3) (e 8) (e 9)) _ (by kernel_rfl) (fun e => F105_j5_ok R k1 e) (by kernel_rfl)))
def F105_j2 (R : ER) (k1 : V5) (x0 x1 x2 x3 x8 : Value) : WP :=
  F105_j4 R k1 x0 x1 x2 x3 x8
theorem F105_j2_ok (R : ER) (k1 : V5) (e : Env) : den Pg R (cd Tryz.f105 [1,0,0,1]) e (setN (inB 0 (kont Pg R Tryz.f105)) (fun e => k1 (e 0) (e 1) (e 2) (e 3) (e 8))) = (F105_j2 R k1 (e 0) (e 1) (e 2) (e 3) (e 8)) := (den_join Pg R 0 (cd Tryz.f105 [1,0,0,1]) (cd Tryz.f105 [1,0,0,1,1]) e (setN (inB 0 (kont Pg R Tryz.f105)) (fun e => k1 (e 0) (e 1) (e 2) (e 3) (e 8))) (fun e => F105_j3 R k1 (e 0) (e 1) (e 2) (e 3) (e 8)) _ (by kernel_rfl) (fun e => F105_j3_ok R k1 e) (den_conv Pg R (pre 0 (cd Tryz.f105 [1,0,0,1])) (cd Tryz.f105 [1,0,0,1,0]) e (setN (setN (inB 0 (kont Pg R Tryz.f105)) (fun e => k1 (e 0) (e 1) (e 2) (e 3) (e 8))) (fun e => F105_j3 R k1 (e 0) (e 1) (e 2) (e 3) (e 8))) _ (by kernel_rfl) (F105_j4_ok R k1 e)))
def F105_b1 (R : ER) (k1 : V5) (x0 x1 x2 x3 x8 : Value) : WP :=
  pv (bin .lss x8 x2) fun v30 =>
  cnd v30 (
   F105_j2 R k1 x0 x1 x2 x3 x8) (
   R (.returned (.tuple ⟨[]⟩)))
theorem F105_b1_ok (R : ER) (k1 : V5) (e : Env) : den Pg R (cd Tryz.f105 [1,0,0]) e (setN (inB 0 (kont Pg R Tryz.f105)) (fun e => k1 (e 0) (e 1) (e 2) (e 3) (e 8))) = (F105_b1 R k1 (e 0) (e 1) (e 2) (e 3) (e 8)) := (den_join Pg R 0 (cd Tryz.f105 [1,0,0]) (cd Tryz.f105 [1,0,0,1]) e (setN (inB 0 (kont Pg R Tryz.f105)) (fun e => k1 (e 0) (e 1) (e 2) (e 3) (e 8))) (fun e => F105_j2 R k1 (e 0) (e 1) (e 2) (e 3) (e 8)) _ (by kernel_rfl) (fun e => F105_j2_ok R k1 e) (by kernel_rfl))
noncomputable def F105_l2 (R : ER) (n : Nat) : V5 := Nat.rec (motive := fun _ => V5) (fun _ _ _ _ _ => fun _ => False) (fun _ ih => fun x0 x1 x2 x3 x8 => F105_b1 R ih x0 x1 x2 x3 x8) n
theorem F105_l2_succ (R : ER) (n : Nat) (x0 x1 x2 x3 x8 : Value) : F105_l2 R (n + 1) x0 x1 x2 x3 x8 = F105_b1 R (F105_l2 R n) x0 x1 x2 x3 x8 := rfl
theorem F105_l2_ok (R : ER) : ∀ (n : Nat) (e : Env), iterL (den Pg R (cd Tryz.f105 [1,0,0])) n e (inB 0 (kont Pg R Tryz.f105)) = F105_l2 R n (e 0) (e 1) (e 2) (e 3) (e 8) :=
  iterL_join (den Pg R (cd Tryz.f105 [1,0,0])) (inB 0 (kont Pg R Tryz.f105)) (fun n e => F105_l2 R n (e 0) (e 1) (e 2) (e 3) (e 8)) (fun _ => rfl) (fun n e => (F105_b1_ok R (F105_l2 R n) e).trans (F105_l2_succ R n (e 0) (e 1) (e 2) (e 3) (e 8)).symm)
def F105_j1 (R : ER) (x0 x1 x2 x3 x8 : Value) : WP :=
  exN fun n => F105_l2 R n x0 x1 x2 x3 x8
theorem F105_j1_ok (R : ER) (e : Env) : den Pg R (cd Tryz.f105 [1]) e (kont Pg R Tryz.f105) = (F105_j1 R (e 0) (e 1) (e 2) (e 3) (e 8)) := (den_block Pg R (cd Tryz.f105 [1]) 0 (cd Tryz.f105 [1,0]) e (kont Pg R Tryz.f105) _ (by kernel_rfl) (den_loop Pg R (cd Tryz.f105 [1,0]) (cd Tryz.f105 [1,0,0]) e (inB 0 (kont Pg R Tryz.f105)) (fun n e => F105_l2 R n (e 0) (e 1) (e 2) (e 3) (e 8)) _ (by kernel_rfl) (F105_l2_ok R) (by kernel_rfl)))
def F105 (R : ER) (x0 x1 x2 x3 : Value) : WP :=
  pv (bin .add x1 (.int .i64 1)) fun v31 =>
  F105_j1 R x0 x1 x2 x3 v31
theorem F105_den (R : ER) (x0 x1 x2 x3 : Value) : den Pg R (cd Tryz.f105 []) (argsEnv [x0, x1, x2, x3]) (kont Pg R Tryz.f105) = F105 R x0 x1 x2 x3 :=
  have h : ∀ e, den Pg R (cd Tryz.f105 []) e (kont Pg R Tryz.f105) = F105 R (e 0) (e 1) (e 2) (e 3) := fun e => (den_join Pg R 0 (cd Tryz.f105 []) (cd Tryz.f105 [1]) e (kont Pg R Tryz.f105) (fun e => F105_j1 R (e 0) (e 1) (e 2) (e 3) (e 8)) _ (by kernel_rfl) (fun e => F105_j1_ok R e) (by kernel_rfl))
  h _
theorem F105_calls {R : ER} {x0 x1 x2 x3 : Value} {w : World} (h : F105 R x0 x1 x2 x3 w) : Calls Pg 105 ⟨[x0, x1, x2, x3]⟩ w R :=
  calls_of_den Tryz.func105 (by kernel_rfl) (by kernel_rfl) (F105_den R x0 x1 x2 x3) h
/-! ### 106: slices_symMergeCmpFunc -/
def F106_j6 (R : ER) (x0 x3 x4 x18 x24 : Value) : WP :=
  pv (bin .lss x18 x24) fun v1 =>
  gd v1 true (pv (some x24)) fun v2 =>
  gd v1 true (pv (some x3)) fun v3 =>
  gd v1 true (pv (bin .lss v2 v3)) fun v4 =>
  pv (pickO v1 v4 (.bool false)) fun v5 =>
  cnd v5 (
   cal Pg R 106 ⟨[x0, x18, x24, x3, x4]⟩ fun v6 =>
   R (.returned (.tuple ⟨[]⟩))) (
   R (.returned (.tuple ⟨[]⟩)))
theorem F106_j6_ok (R : ER) (e : Env) : den Pg R (cd Tryz.f106 [1,1,1,1,1,1,1,1,1,1,1]) e (kont Pg R Tryz.f106) = (F106_j6 R (e 0) (e 3) (e 4) (e 18) (e 24)) := (by kernel_rfl)
def F106_j7 (R : ER) (x0 x1 x3 x4 x18 x20 x24 : Value) : WP :=
  pv (bin .lss x1 x20) fun v7 =>
  gd v7 true (pv (some x20)) fun v8 =>
  gd v7 true (pv (some x18)) fun v9 =>
  gd v7 true (pv (bin .lss v8 v9)) fun v10 =>
  pv (pickO v7 v10 (.bool false)) fun v11 =>
  cnd v11 (
   cal Pg R 106 ⟨[x0, x1, x20, x18, x4]⟩ fun v12 =>
   F106_j6 R x0 x3 x4 x18 x24) (
   F106_j6 R x0 x3 x4 x18 x24)
theorem F106_j7_ok (R : ER) (e : Env) : den Pg R (cd Tryz.f106 [1,1,1,1,1,1,1,1,1,1,0]) e (setN (kont Pg R Tryz.f106) (fun e => F106_j6 R (e 0) (e 3) (e 4) (e 18) (e 24))) = (F106_j7 R (e 0) (e 1) (e 3) (e 4) (e 18) (e 20) (e 24)) := (by kernel_rfl)
def F106_j5 (R : ER) (x0 x1 x3 x4 x18 x20 x24 : Value) : WP :=
  F106_j7 R x0 x1 x3 x4 x18 x20 x24
theorem F106_j5_ok (R : ER) (e : Env) : den Pg R (cd Tryz.f106 [1,1,1,1,1,1,1,1,1,1]) e (kont Pg R Tryz.f106) = (F106_j5 R (e 0) (e 1) (e 3) (e 4) (e 18) (e 20) (e 24)) := (den_join Pg R 0 (cd Tryz.f106 [1,1,1,1,1,1,1,1,1,1]) (cd Tryz.f106 [1,1,1,1,1,1,1,1,1,1,1]) e (kont Pg R Tryz.f106) (fun e => F106_j6 R (e 0) (e 3) (e 4) (e 18) (e 24)) _ (by kernel_rfl) (fun e => F106_j6_ok R e) (den_conv Pg R (pre 0 (cd Tryz.f106 [1,1,1,1,1,1,1,1,1,1])) (cd Tryz.f106 [1,1,1,1,1,1,1,1,1,1,0]) e (setN (kont Pg R Tryz.f106) (fun e => F106_j6 R (e 0) (e 3) (e 4) (e 18) (e 24))) _ (by kernel_rfl) (F106_j7_ok R e)))
def F106_j8 (R : ER) (x0 x1 x2 x3 x4 x18 x20 x24 : Value) : WP :=
  pv (bin .lss x20 x2) fun v13 =>
  gd v13 true (pv (some x2)) fun v14 =>
  gd v13 true (pv (some x24)) fun v15 =>
  gd v13 true (pv (bin .lss v14 v15)) fun v16 =>
  pv (pickO v13 v16 (.bool false)) fun v17 =>
  cnd v17 (
   cal Pg R 112 ⟨[x0, x20, x2, x24, x4]⟩ fun v18 =>
   F106_j5 R x0 x1 x3 x4 x18 x20 x24) (
   F106_j5 R x0 x1 x3 x4 x18 x20 x24)
theorem F106_j8_ok (R : ER) (e : Env) : den Pg R (cd Tryz.f106 [1,1,1,1,1,1,1,1,1,0]) e (setN (kont Pg R Tryz.f106) (fun e => F106_j5 R (e 0) (e 1) (e 3) (e 4) (e 18) (e 20) (e 24))) = (F106_j8 R (e 0) (e 1) (e 2) (e 3) (e 4) (e 18) (e 20) (e 24)) := (by kernel_rfl)
def F106_j4 (R : ER) (x0 x1 x2 x3 x4 x18 x19 x20 : Value) : WP :=
  pv (bin .sub x19 x20) fun v19 =>
  F106_j8 R x0 x1 x2 x3 x4 x18 x20 v19
theorem F106_j4_ok (R : ER) (e : Env) : den Pg R (cd Tryz.f106 [1,1,1,1,1,1,1,1]) e (kont Pg R Tryz.f106) = (F106_j4 R (e 0) (e 1) (e 2) (e 3) (e 4) (e 18) (e 19) (e 20)) := (den_join Pg R 1 (cd Tryz.f106 [1,1,1,1,1,1,1,1]) (cd Tryz.f106 [1,1,1,1,1,1,1,1,1,1]) e (kont Pg R Tryz.f106) (fun e => F106_j5 R (e 0) (e 1) (e 3) (e 4) (e 18) (e 20) (e 24)) _ (by kernel_rfl) (fun e => F106_j5_ok R e) (den_join Pg R 0 (pre 1 (cd Tryz.f106 [1,1,1,1,1,1,1,1])) (cd Tryz.f106 [1,1,1,1,1,1,1,1,1,0]) e (setN (kont Pg R Tryz.f106) (fun e => F106_j5 R (e 0) (e 1) (e 3) (e 4) (e 18) (e 20) (e 24))) (fun e => F106_j8 R (e 0) (e 1) (e 2) (e 3) (e 4) (e 18) (e 20) (e 24)) _ (by kernel_rfl) (fun e => F106_j8_ok R e) (by kernel_rfl)))
def F106_j10 (R : ER) (k1 : V10) (x0 x1 x2 x3 x4 x18 x19 x20 x21 x22 : Value) : WP :=
  pv (bin .add x20 x21) fun v20 =>
  pv (cvI .u64 v20) fun v21 =>
  pv (bin .shr v21 (.int .u64 1)) fun v22 =>
  pv (cvI .i64 v22) fun v23 =>
  drewV (
  pv (bin .sub x22 v23) fun v24 =>
  pv (ixS 2 x0 v24) fun v25 =>
  ldN 2 v25 fun v26 =>
  pv (ixS 2 x0 v23) fun v27 =>
  ldN 2 v27 fun v28 =>
  mem fun w30 => calD Pg noR x4 ⟨[v26, v28]⟩ fun v29 =>
  pv (bin .lss v29 (.int .i64 0)) fun v31 =>
  pv (unO .not v31) fun v32 =>
  cnd v32 (
   pv (bin .add v23 (.int .i64 1)) fun v33 =>
   k1 x0 x1 x2 x3 x4 x18 x19 v33 x21 x22) (
   k1 x0 x1 x2 x3 x4 x18 x19 x20 v23 x22))
theorem F106_j10_ok (R : ER) (k1 : V10) (e : Env) : den Pg R (cd Tryz.f106 [1,1,1,1,1,1,1,0,0,0,1]) e (setN (inB 8 (setN (kont Pg R Tryz.f106) (fun e => F106_j4 R (e 0) (e 1) (e 2) (e 3) (e 4) (e 18) (e 19) (e 20)))) (fun e => k1 (e 0) (e 1) (e 2) (e 3) (e 4) (e 18) (e 19) (e 20) (e 21) (e 22))) = (F106_j10 R k1 (e 0) (e 1) (e 2) (e 3) (e 4) (e 18) (e 19) (e 20) (e 21) (e 22)) := (den_block Pg R (cd Tryz.f106 [1,1,1,1,1,1,1,0,0,0,1]) 9 (cd Tryz.f106 [1,1,1,1,1,1,1,0,0,0,1,0]) e (setN (inB 8 (setN (kont Pg R Tryz.f106) (fun e => F106_j4 R (e 0) (e 1) (e 2) (e 3) (e 4) (e 18) (e 19) (e 20)))) (fun e => k1 (e 0) (e 1) (e 2) (e 3) (e 4) (e 18) (e 19) (e 20) (e 21) (e 22))) _ (by kernel_rfl) (by kernel_rfl))
def F106_b1 (R : ER) (k1 : V10) (x0 x1 x2 x3 x4 x18 x19 x20 x21 x22 : Value) : WP :=
  pv (bin .lss x20 x21) fun v34 =>
  cnd v34 (
   F106_j10 R k1 x0 x1 x2 x3 x4 x18 x19 x20 x21 x22) (
   F106_j4 R x0 x1 x2 x3 x4 x18 x19 x20)
theorem F106_b1_ok (R : ER) (k1 : V10) (e : Env) : den Pg R (cd Tryz.f106 [1,1,1,1,1,1,1,0,0,0]) e (setN (inB 8 (setN (kont Pg R Tryz.f106) (fun e => F106_j4 R (e 0) (e 1) (e 2) (e 3) (e 4) (e 18) (e 19) (e 20)))) (fun e => k1 (e 0) (e 1) (e 2) (e 3) (e 4) (e 18) (e 19) (e 20) (e 21) (e 22))) = (F106_b1 R k1 (e 0) (e 1) (e 2) (e 3) (e 4) (e 18) (e 19) (e 20) (e 21) (e 22)) := (den_join Pg R 0 (cd Tryz.f106 [1,1,1,1,1,1,1,0,0,0]) (cd Tryz.f106 [1,1,1,1,1,1,1,0,0,0,1]) e (setN (inB 8 (setN (kont Pg R Tryz.f106) (fun e => F106_j4 R (e 0) (e 1) (e 2) (e 3) (e 4) (e 18) (e 19) (e 20)))) (fun e => k1 (e 0) (e 1) (e 2) (e 3) (e 4) (e 18) (e 19) (e 20) (e 21) (e 22))) (fun e => F106_j10 R k1 (e 0) (e 1) (e 2) (e 3) (e 4) (e 18) (e 19) (e 20) (e 21) (e 22)) _ (by kernel_rfl) (fun e => F106_j10_ok R k1 e) (by kernel_rfl))
noncomputable def F106_l1 (R : ER) (n : Nat) : V10 := Nat.rec (motive := fun _ => V10) (fun _ _ _ _ _ _ _ _ _ _ => fun _ => False) (fun _ ih => fun x0 x1 x2 x3 x4 x18 x19 x20 x21 x22 => F106_b1 R ih x0 x1 x2 x3 x4 x18 x19 x20 x21 x22) n
theorem F106_l1_succ (R : ER) (n : Nat) (x0 x1 x2 x3 x4 x18 x19 x20 x21 x22 : Value) : F106_l1 R (n + 1) x0 x1 x2 x3 x4 x18 x19 x20 x21 x22 = F106_b1 R (F106_l1 R n) x0 x1 x2 x3 x4 x18 x19 x20 x21 x22 := rfl
theorem F106_l1_ok (R : ER) : ∀ (n : Nat) (e : Env), iterL (den Pg R (cd Tryz.f106 [1,1,1,1,1,1,1,0,0,0])) n e (inB 8 (setN (kont Pg R Tryz.f106) (fun e => F106_j4 R (e 0) (e 1) (e 2) (e 3) (e 4) (e 18) (e 19) (e 20)))) = F106_l1 R n (e 0) (e 1) (e 2) (e 3) (e 4) (e 18) (e 19) (e 20) (e 21) (e 22) :=
  iterL_join (den Pg R (cd Tryz.f106 [1,1,1,1,1,1,1,0,0,0])) (inB 8 (setN (kont Pg R Tryz.f106) (fun e => F106_j4 R (e 0) (e 1) (e 2) (e 3) (e 4) (e 18) (e 19) (e 20)))) (fun n e => F106_l1 R n (e 0) (e 1) (e 2) (e 3) (e 4) (e 18) (e 19) (e 20) (e 21) (e 22)) (fun _ => rfl) (fun n e => (F106_b1_ok R (F106_l1 R n) e).trans (F106_l1_succ R n (e 0) (e 1) (e 2) (e 3) (e 4) (e 18) (e 19) (e 20) (e 21) (e 22)).symm)
def F106_j9 (R : ER) (x0 x1 x2 x3 x4 x18 x19 x20 x21 x22 : Value) : WP :=
  exN fun n => F106_l1 R n x0 x1 x2 x3 x4 x18 x19 x20 x21 x22
theorem F106_j9_ok (R : ER) (e : Env) : den Pg R (cd Tryz.f106 [1,1,1,1,1,1,1,0]) e (setN (kont Pg R Tryz.f106) (fun e => F106_j4 R (e 0) (e 1) (e 2) (e 3) (e 4) (e 18) (e 19) (e 20))) = (F106_j9 R (e 0) (e 1) (e 2) (e 3) (e 4) (e 18) (e 19) (e 20) (e 21) (e 22)) := (den_block Pg R (cd Tryz.f106 [1,1,1,1,1,1,1,0]) 8 (cd Tryz.f106 [1,1,1,1,1,1,1,0,0]) e (setN (kont Pg R Tryz.f106) (fun e => F106_j4 R (e 0) (e 1) (e 2) (e 3) (e 4) (e 18) (e 19) (e 20))) _ (by kernel_rfl) (den_loop Pg R (cd Tryz.f106 [1,1,1,1,1,1,1,0,0]) (cd Tryz.f106 [1,1,1,1,1,1,1,0,0,0]) e (inB 8 (setN (kont Pg R Tryz.f106) (fun e => F106_j4 R (e 0) (e 1) (e 2) (e 3) (e 4) (e 18) (e 19) (e 20)))) (fun n e => F106_l1 R n (e 0) (e 1) (e 2) (e 3) (e 4) (e 18) (e 19) (e 20) (e 21) (e 22)) _ (by kernel_rfl) (F106_l1_ok R) (by kernel_rfl)))
def F106_j3 (R : ER) (x0 x1 x2 x3 x4 x18 x19 x20 x21 : Value) : WP :=
  pv (bin .sub x19 (.int .i64 1)) fun v35 =>
  F106_j9 R x0 x1 x2 x3 x4 x18 x19 x20 x21 v35
theorem F106_j3_ok (R : ER) (e : Env) : den Pg R (cd Tryz.f106 [1,1,1,1,1,1]) e (kont Pg R Tryz.f106) = (F106_j3 R (e 0) (e 1) (e 2) (e 3) (e 4) (e 18) (e 19) (e 20) (e 21)) := (den_join Pg R 1 (cd Tryz.f106 [1,1,1,1,1,1]) (cd Tryz.f106 [1,1,1,1,1,1,1,1]) e (kont Pg R Tryz.f106) (fun e => F106_j4 R (e 0) (e 1) (e 2) (e 3) (e 4) (e 18) (e 19) (e 20)) _ (by kernel_rfl) (fun e => F106_j4_ok R e) (den_join Pg R 0 (pre 1 (cd Tryz.f106 [1,1,1,1,1,1])) (cd Tryz.f106 [1,1,1,1,1,1,1,0]) e (setN (kont Pg R Tryz.f106) (fun e => F106_j4 R (e 0) (e 1) (e 2) (e 3) (e 4) (e 18) (e 19) (e 20))) (fun e => F106_j9 R (e 0) (e 1) (e 2) (e 3) (e 4) (e 18) (e 19) (e 20) (e 21) (e 22)) _ (by kernel_rfl) (fun e => F106_j9_ok R e) (by kernel_rfl)))
def F106_j11 (R : ER) (x0 x1 x2 x3 x4 x18 x19 : Value) : WP :=
  pv (bin .gtr x2 x18) fun v36 =>
  cnd v36 (
   pv (bin .sub x19 x3) fun v37 =>
   F106_j3 R x0 x1 x2 x3 x4 x18 x19 v37 x18) (
   F106_j3 R x0 x1 x2 x3 x4 x18 x19 x1 x2)
theorem F106_j11_ok (R : ER) (e : Env) : den Pg R (cd Tryz.f106 [1,1,1,1,1,0]) e (setN (kont Pg R Tryz.f106) (fun e => F106_j3 R (e 0) (e 1) (e 2) (e 3) (e 4) (e 18) (e 19) (e 20) (e 21))) = (F106_j11 R (e 0) (e 1) (e 2) (e 3) (e 4) (e 18) (e 19)) := (by kernel_rfl)
def F106_j2 (R : ER) (x0 x1 x2 x3 x4 : Value) : WP :=
  pv (bin .add x1 x3) fun v38 =>
  pv (cvI .u64 v38) fun v39 =>
  pv (bin .shr v39 (.int .u64 1)) fun v40 =>
  pv (cvI .i64 v40) fun v41 =>
  pv (bin .add v41 x2) fun v42 =>
  F106_j11 R x0 x1 x2 x3 x4 v41 v42
theorem F106_j2_ok (R : ER) (e : Env) : den Pg R (cd Tryz.f106 [1,1]) e (kont Pg R Tryz.f106) = (F106_j2 R (e 0) (e 1) (e 2) (e 3) (e 4)) := (den_join Pg R 3 (cd Tryz.f106 [1,1]) (cd Tryz.f106 [1,1,1,1,1,1]) e (kont Pg R Tryz.f106) (fun e => F106_j3 R (e 0) (e 1) (e 2) (e 3) (e 4) (e 18) (e 19) (e 20) (e 21)) _ (by kernel_rfl) (fun e => F106_j3_ok R e) (den_join Pg R 2 (pre 3 (cd Tryz.f106 [1,1])) (cd Tryz.f106 [1,1,1,1,1,0]) e (setN (kont Pg R Tryz.f106) (fun e => F106_j3 R (e 0) (e 1) (e 2) (e 3) (e 4) (e 18) (e 19) (e 20) (e 21))) (fun e => F106_j11 R (e 0) (e 1) (e 2) (e 3) (e 4) (e 18) (e 19)) _ (by kernel_rfl) (fun e => F106_j11_ok R e) (by kernel_rfl)))
def F106_j16 (R : ER) : WP :=
  R (.returned (.tuple ⟨[]⟩))
theorem F106_j16_ok (R : ER) (e : Env) : den Pg R (cd Tryz.f106 [1,0,1,0,1,1,1,1]) e (setN (kont Pg R Tryz.f106) (fun e => F106_j2 R (e 0) (e 1) (e 2) (e 3) (e 4))) = (F106_j16 R) := by kernel_rfl
def F106_j19 (R : ER) (k1 : V3) (x0 x14 x17 : Value) : WP :=
  drewV (
  pv (bin .sub x17 (.int .i64 1)) fun v43 =>
  pv (bin .sub x17 (.int .i64 1)) fun v44 =>
  pv (ixS 2 x0 v44) fun v45 =>
  ldN 2 v45 fun v46 =>
  pv (ixS 2 x0 x17) fun v47 =>
  ldN 2 v47 fun v48 =>
  pv (ixS 2 x0 x17) fun v49 =>
  mem fun w51 => stN 2 v49 v46 fun v50 =>
  pv (ixS 2 x0 v43) fun v52 =>
  mem fun w54 => stN 2 v52 v48 fun v53 =>
  pv (bin .sub x17 (.int .i64 1)) fun v55 =>
  k1 x0 x14 v55)
theorem F106_j19_ok (R : ER) (k1 : V3) (e : Env) : den Pg R (cd Tryz.f106 [1,0,1,0,1,1,1,0,1,0,0,1]) e (setN (inB 6 (setN (setN (kont Pg R Tryz.f106) (fun e => F106_j2 R (e 0) (e 1) (e 2) (e 3) (e 4))) (fun e => F106_j16 R))) (fun e => k1 (e 0) (e 14) (e 17))) = (F106_j19 R k1 (e 0) (e 14) (e 17)) := by kernel_rfl
def F106_b2 (R : ER) (k1 : V3) (x0 x14 x17 : Value) : WP :=
  pv (bin .gtr x17 x14) fun v56 =>
  cnd v56 (
   F106_j19 R k1 x0 x14 x17) (
   F106_j16 R)
theorem F106_b2_ok (R : ER) (k1 : V3) (e : Env) : den Pg R (cd Tryz.f106 [1,0,1,0,1,1,1,0,1,0,0]) e (setN (inB 6 (setN (setN (kont Pg R Tryz.f106) (fun e => F106_j2 R (e 0) (e 1) (e 2) (e 3) (e 4))) (fun e => F106_j16 R))) (fun e => k1 (e 0) (e 14) (e 17))) = (F106_b2 R k1 (e 0) (e 14) (e 17)) := (den_join Pg R 0 (cd Tryz.f106 [1,0,1,0,1,1,1,0,1,0,0]) (cd Tryz.f106 [1,0,1,0,1,1,1,0,1,0,0,1]) e (setN (inB 6 (setN (setN (kont Pg R Tryz.f106) (fun e => F106_j2 R (e 0) (e 1) (e 2) (e 3) (e 4))) (fun e => F106_j16 R))) (fun e => k1 (e 0) (e 14) (e 17))) (fun e => F106_j19 R k1 (e 0) (e 14) (e 17)) _ (by kernel_rfl) (fun e => F106_j19_ok R k1 e) (by kernel_rfl))
noncomputable def F106_l2 (R : ER) (n : Nat) : V3 := Nat.rec (motive := fun _ => V3) (fun _ _ _ => fun _ => False) (fun _ ih => fun x0 x14 x17 => F106_b2 R ih x0 x14 x17) n
theorem F106_l2_succ (R : ER) (n : Nat) (x0 x14 x17 : Value) : F106_l2 R (n + 1) x0 x14 x17 = F106_b2 R (F106_l2 R n) x0 x14 x17 := rfl
theorem F106_l2_ok (R : ER) : ∀ (n : Nat) (e : Env), iterL (den Pg R (cd Tryz.f106 [1,0,1,0,1,1,1,0,1,0,0])) n e (inB 6 (setN (setN (kont Pg R Tryz.f106) (fun e => F106_j2 R (e 0) (e 1) (e 2) (e 3) (e 4))) (fun e => F106_j16 R))) = F106_l2 R n (e 0) (e 14) (e 17) :=
  iterL_join (den Pg R (cd Tryz.f106 [1,0,1,0,1,1,1,0,1,0,0])) (inB 6 (setN (setN (kont Pg R Tryz.f106) (fun e => F106_j2 R (e 0) (e 1) (e 2) (e 3) (e 4))) (fun e => F106_j16 R))) (fun n e => F106_l2 R n (e 0) (e 14) (e 17)) (fun _ => rfl) (fun n e => (F106_b2_ok R (F106_l2 R n) e).trans (F106_l2_succ R n (e 0) (e 14) (e 17)).symm)
def F106_j18 (R : ER) (x0 x14 x17 : Value) : WP :=
  exN fun n => F106_l2 R n x0 x14 x17
theorem F106_j18_ok (R : ER) (e : Env) : den Pg R (cd Tryz.f106 [1,0,1,0,1,1,1,0,1]) e (setN (setN (kont Pg R Tryz.f106) (fun e => F106_j2 R (e 0) (e 1) (e 2) (e 3) (e 4))) (fun e => F106_j16 R)) = (F106_j18 R (e 0) (e 14) (e 17)) := (den_block Pg R (cd Tryz.f106 [1,0,1,0,1,1,1,0,1]) 6 (cd Tryz.f106 [1,0,1,0,1,1,1,0,1,0]) e (setN (setN (kont Pg R Tryz.f106) (fun e => F106_j2 R (e 0) (e 1) (e 2) (e 3) (e 4))) (fun e => F106_j16 R)) _ (by kernel_rfl) (den_loop Pg R (cd Tryz.f106 [1,0,1,0,1,1,1,0,1,0]) (cd Tryz.f106 [1,0,1,0,1,1,1,0,1,0,0]) e (inB 6 (setN (setN (kont Pg R Tryz.f106) (fun e => F106_j2 R (e 0) (e 1) (e 2) (e 3) (e 4))) (fun e => F106_j16 R))) (fun n e => F106_l2 R n (e 0) (e 14) (e 17)) _ (by kernel_rfl) (F106_l2_ok R) (by kernel_rfl)))
def F106_j17 (R : ER) (x0 x2 x14 : Value) : WP :=
  F106_j18 R x0 x14 x2
theorem F106_j17_ok (R : ER) (e : Env) : den Pg R (cd Tryz.f106 [1,0,1,0,1,1,1,0]) e (setN (setN (kont Pg R Tryz.f106) (fun e => F106_j2 R (e 0) (e 1) (e 2) (e 3) (e 4))) (fun e => F106_j16 R)) = (F106_j17 R (e 0) (e 2) (e 14)) := (den_join Pg R 0 (cd Tryz.f106 [1,0,1,0,1,1,1,0]) (cd Tryz.f106 [1,0,1,0,1,1,1,0,1]) e (setN (setN (kont Pg R Tryz.f106) (fun e => F106_j2 R (e 0) (e 1) (e 2) (e 3) (e 4))) (fun e => F106_j16 R)) (fun e => F106_j18 R (e 0) (e 14) (e 17)) _ (by kernel_rfl) (fun e => F106_j18_ok R e) (by kernel_rfl))
def F106_j15 (R : ER) (x0 x2 x14 : Value) : WP :=
  F106_j17 R x0 x2 x14
theorem F106_j15_ok (R : ER) (e : Env) : den Pg R (cd Tryz.f106 [1,0,1,0,1,1,1]) e (setN (kont Pg R Tryz.f106) (fun e => F106_j2 R (e 0) (e 1) (e 2) (e 3) (e 4))) = (F106_j15 R (e 0) (e 2) (e 14)) := (den_join Pg R 0 (cd Tryz.f106 [1,0,1,0,1,1,1]) (cd Tryz.f106 [1,0,1,0,1,1,1,1]) e (setN (kont Pg R Tryz.f106) (fun e => F106_j2 R (e 0) (e 1) (e 2) (e 3) (e 4))) (fun e => F106_j16 R) _ (by kernel_rfl) (fun e => F106_j16_ok R e) (den_conv Pg R (pre 0 (cd Tryz.f106 [1,0,1,0,1,1,1])) (cd Tryz.f106 [1,0,1,0,1,1,1,0]) e (setN (setN (kont Pg R Tryz.f106) (fun e => F106_j2 R (e 0) (e 1) (e 2) (e 3) (e 4))) (fun e => F106_j16 R)) _ (by kernel_rfl) (F106_j17_ok R e)))
def F106_j21 (R : ER) (k1 : V5) (x0 x2 x4 x14 x15 : Value) : WP :=
  pv (bin .add x14 x15) fun v57 =>
  pv (cvI .u64 v57) fun v58 =>
  pv (bin .shr v58 (.int .u64 1)) fun v59 =>
  pv (cvI .i64 v59) fun v60 =>
  drewV (
  pv (ixS 2 x0 x2) fun v61 =>
  ldN 2 v61 fun v62 =>
  pv (ixS 2 x0 v60) fun v63 =>
  ldN 2 v63 fun v64 =>
  mem fun w66 => calD Pg noR x4 ⟨[v62, v64]⟩ fun v65 =>
  pv (bin .lss v65 (.int .i64 0)) fun v67 =>
  pv (unO .not v67) fun v68 =>
  cnd v68 (
   pv (bin .add v60 (.int .i64 1)) fun v69 =>
   k1 x0 x2 x4 v69 x15) (
   k1 x0 x2 x4 x14 v60))
theorem F106_j21_ok (R : ER) (k1 : V5) (e : Env) : den Pg R (cd Tryz.f106 [1,0,1,0,1,1,0,0,0,1]) e (setN (inB 4 (setN (setN (kont Pg R Tryz.f106) (fun e => F106_j2 R (e 0) (e 1) (e 2) (e 3) (e 4))) (fun e => F106_j15 R (e 0) (e 2) (e 14)))) (fun e => k1 (e 0) (e 2) (e 4) (e 14) (e 15))) = (F106_j21 R k1 (e 0) (e 2) (e 4) (e 14) (e 15)) := (den_block Pg R (cd Tryz.f106 [1,0,1,0,1,1,0,0,0,1]) 5 (cd Tryz.f106 [1,0,1,0,1,1,0,0,0,1,0]) e (setN (inB 4 (setN (setN (kont Pg R Tryz.f106) (fun e => F106_j2 R (e 0) (e 1) (e 2) (e 3) (e 4))) (fun e => F106_j15 R (e 0) (e 2) (e 14)))) (fun e => k1 (e 0) (e 2) (e 4) (e 14) (e 15))) _ (by kernel_rfl) (by kernel_rfl))
def F106_b3 (R : ER) (k1 : V5) (x0 x2 x4 x14 x15 : Value) : WP :=
  pv (bin .lss x14 x15) fun v70 =>
  cnd v70 (
   F106_j21 R k1 x0 x2 x4 x14 x15) (
   F106_j15 R x0 x2 x14)
theorem F106_b3_ok (R : ER) (k1 : V5) (e : Env) : den Pg R (cd Tryz.f106 [1,0,1,0,1,1,0,0,0]) e (setN (inB 4 (setN (setN (kont Pg R Tryz.f106) (fun e => F106_j2 R (e 0) (e 1) (e 2) (e 3) (e 4))) (fun e => F106_j15 R (e 0) (e 2) (e 14)))) (fun e => k1 (e 0) (e 2) (e 4) (e 14) (e 15))) = (F106_b3 R k1 (e 0) (e 2) (e 4) (e 14) (e 15)) := (den_join Pg R 0 (cd Tryz.f106 [1,0,1,0,1,1,0,0,0]) (cd Tryz.f106 [1,0,1,0,1,1,0,0,0,1]) e (setN (inB 4 (setN (setN (kont Pg R Tryz.f106) (fun e => F106_j2 R (e 0) (e 1) (e 2) (e 3) (e 4))) (fun e => F106_j15 R (e 0) (e 2) (e 14)))) (fun e => k1 (e 0) (e 2) (e 4) (e 14) (e 15))) (fun e => F106_j21 R k1 (e 0) (e 2) (e 4) (e 14) (e 15)) _ (by kernel_rfl) (fun e => F106_j21_ok R k1 e) (by kernel_rfl))
noncomputable def F106_l3 (R : ER) (n : Nat) : V5 := Nat.rec (motive := fun _ => V5) (fun _ _ _ _ _ => fun _ => False) (fun _ ih => fun x0 x2 x4 x14 x15 => F106_b3 R ih x0 x2 x4 x14 x15) n
theorem F106_l3_succ (R : ER) (n : Nat) (x0 x2 x4 x14 x15 : Value) : F106_l3 R (n + 1) x0 x2 x4 x14 x15 = F106_b3 R (F106_l3 R n) x0 x2 x4 x14 x15 := rfl
theorem F106_l3_ok (R : ER) : ∀ (n : Nat) (e : Env), iterL (den Pg R (cd Tryz.f106 [1,0,1,0,1,1,0,0,0])) n e (inB 4 (setN (setN (kont Pg R Tryz.f106) (fun e => F106_j2 R (e 0) (e 1) (e 2) (e 3) (e 4))) (fun e => F106_j15 R (e 0) (e 2) (e 14)))) = F106_l3 R n (e 0) (e 2) (e 4) (e 14) (e 15) :=
  iterL_join (den Pg R (cd Tryz.f106 [1,0,1,0,1,1,0,0,0])) (inB 4 (setN (setN (kont Pg R Tryz.f106) (fun e => F106_j2 R (e 0) (e 1) (e 2) (e 3) (e 4))) (fun e => F106_j15 R (e 0) (e 2) (e 14)))) (fun n e => F106_l3 R n (e 0) (e 2) (e 4) (e 14) (e 15)) (fun _ => rfl) (fun n e => (F106_b3_ok R (F106_l3 R n) e).trans (F106_l3_succ R n (e 0) (e 2) (e 4) (e 14) (e 15)).symm)
def F106_j20 (R : ER) (x0 x2 x4 x14 x15 : Value) : WP :=
  exN fun n => F106_l3 R n x0 x2 x4 x14 x15
theorem F106_j20_ok (R : ER) (e : Env) : den Pg R (cd Tryz.f106 [1,0,1,0,1,1,0]) e (setN (setN (kont Pg R Tryz.f106) (fun e => F106_j2 R (e 0) (e 1) (e 2) (e 3) (e 4))) (fun e => F106_j15 R (e 0) (e 2) (e 14))) = (F106_j20 R (e 0) (e 2) (e 4) (e 14) (e 15)) := (den_block Pg R (cd Tryz.f106 [1,0,1,0,1,1,0]) 4 (cd Tryz.f106 [1,0,1,0,1,1,0,0]) e (setN (setN (kont Pg R Tryz.f106) (fun e => F106_j2 R (e 0) (e 1) (e 2) (e 3) (e 4))) (fun e => F106_j15 R (e 0) (e 2) (e 14))) _ (by kernel_rfl) (den_loop Pg R (cd Tryz.f106 [1,0,1,0,1,1,0,0]) (cd Tryz.f106 [1,0,1,0,1,1,0,0,0]) e (inB 4 (setN (setN (kont Pg R Tryz.f106) (fun e => F106_j2 R (e 0) (e 1) (e 2) (e 3) (e 4))) (fun e => F106_j15 R (e 0) (e 2) (e 14)))) (fun n e => F106_l3 R n (e 0) (e 2) (e 4) (e 14) (e 15)) _ (by kernel_rfl) (F106_l3_ok R) (by kernel_rfl)))
def F106_j14 (R : ER) (x0 x1 x2 x4 : Value) : WP :=
  F106_j20 R x0 x2 x4 x1 x2
theorem F106_j14_ok (R : ER) (e : Env) : den Pg R (cd Tryz.f106 [1,0,1,0]) e (setN (kont Pg R Tryz.f106) (fun e => F106_j2 R (e 0) (e 1) (e 2) (e 3) (e 4))) = (F106_j14 R (e 0) (e 1) (e 2) (e 4)) := (den_join Pg R 2 (cd Tryz.f106 [1,0,1,0]) (cd Tryz.f106 [1,0,1,0,1,1,1]) e (setN (kont Pg R Tryz.f106) (fun e => F106_j2 R (e 0) (e 1) (e 2) (e 3) (e 4))) (fun e => F106_j15 R (e 0) (e 2) (e 14)) _ (by kernel_rfl) (fun e => F106_j15_ok R e) (den_join Pg R 1 (pre 2 (cd Tryz.f106 [1,0,1,0])) (cd Tryz.f106 [1,0,1,0,1,1,0]) e (setN (setN (kont Pg R Tryz.f106) (fun e => F106_j2 R (e 0) (e 1) (e 2) (e 3) (e 4))) (fun e => F106_j15 R (e 0) (e 2) (e 14))) (fun e => F106_j20 R (e 0) (e 2) (e 4) (e 14) (e 15)) _ (by kernel_rfl) (fun e => F106_j20_ok R e) (by kernel_rfl)))
def F106_j13 (R : ER) (x0 x1 x2 x3 x4 x80 : Value) : WP :=
  cnd x80 (F106_j14 R x0 x1 x2 x4) (F106_j2 R x0 x1 x2 x3 x4)
theorem F106_j13_ok (R : ER) (e : Env) : den Pg R (cd Tryz.f106 [1,0,1]) e (setN (kont Pg R Tryz.f106) (fun e => F106_j2 R (e 0) (e 1) (e 2) (e 3) (e 4))) = (F106_j13 R (e 0) (e 1) (e 2) (e 3) (e 4) (e 80)) := (den_if Pg R (cd Tryz.f106 [1,0,1]) (cd Tryz.f106 [1,0,1,0]) (cd Tryz.f106 [1,0,1,1]) e (setN (kont Pg R Tryz.f106) (fun e => F106_j2 R (e 0) (e 1) (e 2) (e 3) (e 4))) (F106_j14 R (e 0) (e 1) (e 2) (e 4)) _ _ (by kernel_rfl) (F106_j14_ok R e) rfl (by kernel_rfl))
def F106_j12 (R : ER) (x0 x1 x2 x3 x4 : Value) : WP :=
  pv (bin .sub x3 x2) fun v71 =>
  pv (bin .eql v71 (.int .i64 1)) fun v72 =>
  F106_j13 R x0 x1 x2 x3 x4 v72
theorem F106_j12_ok (R : ER) (e : Env) : den Pg R (cd Tryz.f106 [1,0]) e (setN (kont Pg R Tryz.f106) (fun e => F106_j2 R (e 0) (e 1) (e 2) (e 3) (e 4))) = (F106_j12 R (e 0) (e 1) (e 2) (e 3) (e 4)) := (den_join Pg R 0 (cd Tryz.f106 [1,0]) (cd Tryz.f106 [1,0,1]) e (setN (kont Pg R Tryz.f106) (fun e => F106_j2 R (e 0) (e 1) (e 2) (e 3) (e 4))) (fun e => F106_j13 R (e 0) (e 1) (e 2) (e 3) (e 4) (e 80)) _ (by kernel_rfl) (fun e => F106_j13_ok R e) (by kernel_rfl))
def F106_j1 (R : ER) (x0 x1 x2 x3 x4 : Value) : WP :=
  F106_j12 R x0 x1 x2 x3 x4
theorem F106_j1_ok (R : ER) (e : Env) : den Pg R (cd Tryz.f106 [1]) e (kont Pg R Tryz.f106) = (F106_j1 R (e 0) (e 1) (e 2) (e 3) (e 4)) := (den_join Pg R 0 (cd Tryz.f106 [1]) (cd Tryz.f106 [1,1]) e (kont Pg R Tryz.f106) (fun e => F106_j2 R (e 0) (e 1) (e 2) (e 3) (e 4)) _ (by kernel_rfl) (fun e => F106_j2_ok R e) (den_conv Pg R (pre 0 (cd Tryz.f106 [1])) (cd Tryz.f106 [1,0]) e (setN (kont Pg R Tryz.f106) (fun e => F106_j2 R (e 0) (e 1) (e 2) (e 3) (e 4))) _ (by kernel_rfl) (F106_j12_ok R e)))
def F106_j26 (R : ER) : WP :=
  R (.returned (.tuple ⟨[]⟩))
theorem F106_j26_ok (R : ER) (e : Env) : den Pg R (cd Tryz.f106 [0,1,0,1,1,1,1]) e (setN (kont Pg R Tryz.f106) (fun e => F106_j1 R (e 0) (e 1) (e 2) (e 3) (e 4))) = (F106_j26 R) := by kernel_rfl
def F106_j29 (R : ER) (k1 : V3) (x0 x10 x13 : Value) : WP :=
  drewV (
  pv (bin .add x13 (.int .i64 1)) fun v73 =>
  pv (bin .add x13 (.int .i64 1)) fun v74 =>
  pv (ixS 2 x0 v74) fun v75 =>
  ldN 2 v75 fun v76 =>
  pv (ixS 2 x0 x13) fun v77 =>
  ldN 2 v77 fun v78 =>
  pv (ixS 2 x0 x13) fun v79 =>
  mem fun w81 => stN 2 v79 v76 fun v80 =>
  pv (ixS 2 x0 v73) fun v82 =>
  mem fun w84 => stN 2 v82 v78 fun v83 =>
  pv (bin .add x13 (.int .i64 1)) fun v85 =>
  k1 x0 x10 v85)
theorem F106_j29_ok (R : ER) (k1 : V3) (e : Env) : den Pg R (cd Tryz.f106 [0,1,0,1,1,1,0,1,0,0,1]) e (setN (inB 2 (setN (setN (kont Pg R Tryz.f106) (fun e => F106_j1 R (e 0) (e 1) (e 2) (e 3) (e 4))) (fun e => F106_j26 R))) (fun e => k1 (e 0) (e 10) (e 13))) = (F106_j29 R k1 (e 0) (e 10) (e 13)) := by kernel_rfl
def F106_b4 (R : ER) (k1 : V3) (x0 x10 x13 : Value) : WP :=
  pv (bin .sub x10 (.int .i64 1)) fun v86 =>
  pv (bin .lss x13 v86) fun v87 =>
  cnd v87 (
   F106_j29 R k1 x0 x10 x13) (
   F106_j26 R)
theorem F106_b4_ok (R : ER) (k1 : V3) (e : Env) : den Pg R (cd Tryz.f106 [0,1,0,1,1,1,0,1,0,0]) e (setN (inB 2 (setN (setN (kont Pg R Tryz.f106) (fun e => F106_j1 R (e 0) (e 1) (e 2) (e 3) (e 4))) (fun e => F106_j26 R))) (fun e => k1 (e 0) (e 10) (e 13))) = (F106_b4 R k1 (e 0) (e 10) (e 13)) := (den_join Pg R 0 (cd Tryz.f106 [0,1,0,1,1,1,0,1,0,0]) (cd Tryz.f106 [0,1,0,1,1,1,0,1,0,0,1]) e (setN (inB 2 (setN (setN (kont Pg R Tryz.f106) (fun e => F106_j1 R (e 0) (e 1) (e 2) (e 3) (e 4))) (fun e => F106_j26 R))) (fun e => k1 (e 0) (e 10) (e 13))) (fun e => F106_j29 R k1 (e 0) (e 10) (e 13)) _ (by kernel_rfl) (fun e => F106_j29_ok R k1 e) (by kernel_rfl))
noncomputable def F106_l4 (R : ER) (n : Nat) : V3 := Nat.rec (motive := fun _ => V3) (fun _ _ _ => fun _ => False) (fun _ ih => fun x0 x10 x13 => F106_b4 R ih x0 x10 x13) n
theorem F106_l4_succ (R : ER) (n : Nat) (x0 x10 x13 : Value) : F106_l4 R (n + 1) x0 x10 x13 = F106_b4 R (F106_l4 R n) x0 x10 x13 := rfl
theorem F106_l4_ok (R : ER) : ∀ (n : Nat) (e : Env), iterL (den Pg R (cd Tryz.f106 [0,1,0,1,1,1,0,1,0,0])) n e (inB 2 (setN (setN (kont Pg R Tryz.f106) (fun e => F106_j1 R (e 0) (e 1) (e 2) (e 3) (e 4))) (fun e => F106_j26 R))) = F106_l4 R n (e 0) (e 10) (e 13) :=
  iterL_join (den Pg R (cd Tryz.f106 [0,1,0,1,1,1,0,1,0,0])) (inB 2 (setN (setN (kont Pg R Tryz.f106) (fun e => F106_j1 R (e 0) (e 1) (e 2) (e 3) (e 4))) (fun e => F106_j26 R))) (fun n e => F106_l4 R n (e 0) (e 10) (e 13)) (fun _ => rfl) (fun n e => (F106_b4_ok R (F106_l4 R n) e).trans (F106_l4_succ R n (e 0) (e 10) (e 13)).symm)
def F106_j28 (R : ER) (x0 x10 x13 : Value) : WP :=
  exN fun n => F106_l4 R n x0 x10 x13
theorem F106_j28_ok (R : ER) (e : Env) : den Pg R (cd Tryz.f106 [0,1,0,1,1,1,0,1]) e (setN (setN (kont Pg R Tryz.f106) (fun e => F106_j1 R (e 0) (e 1) (e 2) (e 3) (e 4))) (fun e => F106_j26 R)) = (F106_j28 R (e 0) (e 10) (e 13)) := (den_block Pg R (cd Tryz.f106 [0,1,0,1,1,1,0,1]) 2 (cd Tryz.f106 [0,1,0,1,1,1,0,1,0]) e (setN (setN (kont Pg R Tryz.f106) (fun e => F106_j1 R (e 0) (e 1) (e 2) (e 3) (e 4))) (fun e => F106_j26 R)) _ (by kernel_rfl) (den_loop Pg R (cd Tryz.f106 [0,1,0,1,1,1,0,1,0]) (cd Tryz.f106 [0,1,0,1,1,1,0,1,0,0]) e (inB 2 (setN (setN (kont Pg R Tryz.f106) (fun e => F106_j1 R (e 0) (e 1) (e 2) (e 3) (e 4))) (fun e => F106_j26 R))) (fun n e => F106_l4 R n (e 0) (e 10) (e 13)) _ (by kernel_rfl) (F106_l4_ok R) (by kernel_rfl)))
def F106_j27 (R : ER) (x0 x1 x10 : Value) : WP :=
  F106_j28 R x0 x10 x1
theorem F106_j27_ok (R : ER) (e : Env) : den Pg R (cd Tryz.f106 [0,1,0,1,1,1,0]) e (setN (setN (kont Pg R Tryz.f106) (fun e => F106_j1 R (e 0) (e 1) (e 2) (e 3) (e 4))) (fun e => F106_j26 R)) = (F106_j27 R (e 0) (e 1) (e 10)) := (den_join Pg R 0 (cd Tryz.f106 [0,1,0,1,1,1,0]) (cd Tryz.f106 [0,1,0,1,1,1,0,1]) e (setN (setN (kont Pg R Tryz.f106) (fun e => F106_j1 R (e 0) (e 1) (e 2) (e 3) (e 4))) (fun e => F106_j26 R)) (fun e => F106_j28 R (e 0) (e 10) (e 13)) _ (by kernel_rfl) (fun e => F106_j28_ok R e) (by kernel_rfl))
def F106_j25 (R : ER) (x0 x1 x10 : Value) : WP :=
  F106_j27 R x0 x1 x10
theorem F106_j25_ok (R : ER) (e : Env) : den Pg R (cd Tryz.f106 [0,1,0,1,1,1]) e (setN (kont Pg R Tryz.f106) (fun e => F106_j1 R (e 0) (e 1) (e 2) (e 3) (e 4))) = (F106_j25 R (e 0) (e 1) (e 10)) := (den_join Pg R 0 (cd Tryz.f106 [0,1,0,1,1,1]) (cd Tryz.f106 [0,1,0,1,1,1,1]) e (setN (kont Pg R Tryz.f106) (fun e => F106_j1 R (e 0) (e 1) (e 2) (e 3) (e 4))) (fun e => F106_j26 R) _ (by kernel_rfl) (fun e => F106_j26_ok R e) (den_conv Pg R (pre 0 (cd Tryz.f106 [0,1,0,1,1,1])) (cd Tryz.f106 [0,1,0,1,1,1,0]) e (setN (setN (kont Pg R Tryz.f106) (fun e => F106_j1 R (e 0) (e 1) (e 2) (e 3) (e 4))) (fun e => F106_j26 R)) _ (by kernel_rfl) (F106_j27_ok R e)))
def F106_j31 (R : ER) (k1 : V5) (x0 x1 x4 x10 x11 : Value) : WP :=
  pv (bin .add x10 x11) fun v88 =>
  pv (cvI .u64 v88) fun v89 =>
  pv (bin .shr v89 (.int .u64 1)) fun v90 =>
  pv (cvI .i64 v90) fun v91 =>
  drewV (
  pv (ixS 2 x0 v91) fun v92 =>
  ldN 2 v92 fun v93 =>
  pv (ixS 2 x0 x1) fun v94 =>
  ldN 2 v94 fun v95 =>
  mem fun w97 => calD Pg noR x4 ⟨[v93, v95]⟩ fun v96 =>
  pv (bin .lss v96 (.int .i64 0)) fun v98 =>
  cnd v98 (
   pv (bin .add v91 (.int .i64 1)) fun v99 =>
   k1 x0 x1 x4 v99 x11) (
   k1 x0 x1 x4 x10 v91))
theorem F106_j31_ok (R : ER) (k1 : V5) (e : Env) : den Pg R (cd Tryz.f106 [0,1,0,1,1,0,0,0,1]) e (setN (inB 0 (setN (setN (kont Pg R Tryz.f106) (fun e => F106_j1 R (e 0) (e 1) (e 2) (e 3) (e 4))) (fun e => F106_j25 R (e 0) (e 1) (e 10)))) (fun e => k1 (e 0) (e 1) (e 4) (e 10) (e 11))) = (F106_j31 R k1 (e 0) (e 1) (e 4) (e 10) (e 11)) := (den_block Pg R (cd Tryz.f106 [0,1,0,1,1,0,0,0,1]) 1 (cd Tryz.f106 [0,1,0,1,1,0,0,0,1,0]) e (setN (inB 0 (setN (setN (kont Pg R Tryz.f106) (fun e => F106_j1 R (e 0) (e 1) (e 2) (e 3) (e 4))) (fun e => F106_j25 R (e 0) (e 1) (e 10)))) (fun e => k1 (e 0) (e 1) (e 4) (e 10) (e 11))) _ (by kernel_rfl) (by kernel_rfl))
def F106_b5 (R : ER) (k1 : V5) (x0 x1 x4 x10 x11 : Value) : WP :=
  pv (bin .lss x10 x11) fun v100 =>
  cnd v100 (
   F106_j31 R k1 x0 x1 x4 x10 x11) (
   F106_j25 R x0 x1 x10)
theorem F106_b5_ok (R : ER) (k1 : V5) (e : Env) : den Pg R (cd Tryz.f106 [0,1,0,1,1,0,0,0]) e (setN (inB 0 (setN (setN (kont Pg R Tryz.f106) (fun e => F106_j1 R (e 0) (e 1) (e 2) (e 3) (e 4))) (fun e => F106_j25 R (e 0) (e 1) (e 10)))) (fun e => k1 (e 0) (e 1) (e 4) (e 10) (e 11))) = (F106_b5 R k1 (e 0) (e 1) (e 4) (e 10) (e 11)) := (den_join Pg R 0 (cd Tryz.f106 [0,1,0,1,1,0,0,0]) (cd Tryz.f106 [0,1,0,1,1,0,0,0,1]) e (setN (inB 0 (setN (setN (kont Pg R Tryz.f106) (fun e => F106_j1 R (e 0) (e 1) (e 2) (e 3) (e 4))) (fun e => F106_j25 R (e 0) (e 1) (e 10)))) (fun e => k1 (e 0) (e 1) (e 4) (e 10) (e 11))) (fun e => F106_j31 R k1 (e 0) (e 1) (e 4) (e 10) (e 11)) _ (by kernel_rfl) (fun e => F106_j31_ok R k1 e) (by kernel_rfl))
noncomputable def F106_l5 (R : ER) (n : Nat) : V5 := Nat.rec (motive := fun _ => V5) (fun _ _ _ _ _ => fun _ => False) (fun _ ih => fun x0 x1 x4 x10 x11 => F106_b5 R ih x0 x1 x4 x10 x11) n
theorem F106_l5_succ (R : ER) (n : Nat) (x0 x1 x4 x10 x11 : Value) : F106_l5 R (n + 1) x0 x1 x4 x10 x11 = F106_b5 R (F106_l5 R n) x0 x1 x4 x10 x11 := rfl
theorem F106_l5_ok (R : ER) : ∀ (n : Nat) (e : Env), iterL (den Pg R (cd Tryz.f106 [0,1,0,1,1,0,0,0])) n e (inB 0 (setN (setN (kont Pg R Tryz.f106) (fun e => F106_j1 R (e 0) (e 1) (e 2) (e 3) (e 4))) (fun e => F106_j25 R (e 0) (e 1) (e 10)))) = F106_l5 R n (e 0) (e 1) (e 4) (e 10) (e 11) :=
  iterL_join (den Pg R (cd Tryz.f106 [0,1,0,1,1,0,0,0])) (inB 0 (setN (setN (kont Pg R Tryz.f106) (fun e => F106_j1 R (e 0) (e 1) (e 2) (e 3) (e 4))) (fun e => F106_j25 R (e 0) (e 1) (e 10)))) (fun n e => F106_l5 R n (e 0) (e 1) (e 4) (e 10) (e 11)) (fun _ => rfl) (fun n e => (F106_b5_ok R (F106_l5 R n) e).trans (F106_l5_succ R n (e 0) (e 1) (e 4) (e 10) (e 11)).symm)
def F106_j30 (R : ER) (x0 x1 x4 x10 x11 : Value) : WP :=
  exN fun n => F106_l5 R n x0 x1 x4 x10 x11
theorem F106_j30_ok (R : ER) (e : Env) : den Pg R (cd Tryz.f106 [0,1,0,1,1,0]) e (setN (setN (kont Pg R Tryz.f106) (fun e => F106_j1 R (e 0) (e 1) (e 2) (e 3) (e 4))) (fun e => F106_j25 R (e 0) (e 1) (e 10))) = (F106_j30 R (e 0) (e 1) (e 4) (e 10) (e 11)) := (den_block Pg R (cd Tryz.f106 [0,1,0,1,1,0]) 0 (cd Tryz.f106 [0,1,0,1,1,0,0]) e (setN (setN (kont Pg R Tryz.f106) (fun e => F106_j1 R (e 0) (e 1) (e 2) (e 3) (e 4))) (fun e => F106_j25 R (e 0) (e 1) (e 10))) _ (by kernel_rfl) (den_loop Pg R (cd Tryz.f106 [0,1,0,1,1,0,0]) (cd Tryz.f106 [0,1,0,1,1,0,0,0]) e (inB 0 (setN (setN (kont Pg R Tryz.f106) (fun e => F106_j1 R (e 0) (e 1) (e 2) (e 3) (e 4))) (fun e => F106_j25 R (e 0) (e 1) (e 10)))) (fun n e => F106_l5 R n (e 0) (e 1) (e 4) (e 10) (e 11)) _ (by kernel_rfl) (F106_l5_ok R) (by kernel_rfl)))
def F106_j24 (R : ER) (x0 x1 x2 x3 x4 : Value) : WP :=
  F106_j30 R x0 x1 x4 x2 x3
theorem F106_j24_ok (R : ER) (e : Env) : den Pg R (cd Tryz.f106 [0,1,0]) e (setN (kont Pg R Tryz.f106) (fun e => F106_j1 R (e 0) (e 1) (e 2) (e 3) (e 4))) = (F106_j24 R (e 0) (e 1) (e 2) (e 3) (e 4)) := (den_join Pg R 2 (cd Tryz.f106 [0,1,0]) (cd Tryz.f106 [0,1,0,1,1,1]) e (setN (kont Pg R Tryz.f106) (fun e => F106_j1 R (e 0) (e 1) (e 2) (e 3) (e 4))) (fun e => F106_j25 R (e 0) (e 1) (e 10)) _ (by kernel_rfl) (fun e => F106_j25_ok R e) (den_join Pg R 1 (pre 2 (cd Tryz.f106 [0,1,0])) (cd Tryz.f106 [0,1,0,1,1,0]) e (setN (setN (kont Pg R Tryz.f106) (fun e => F106_j1 R (e 0) (e 1) (e 2) (e 3) (e 4))) (fun e => F106_j25 R (e 0) (e 1) (e 10))) (fun e => F106_j30 R (e 0) (e 1) (e 4) (e 10) (e 11)) _ (by kernel_rfl) (fun e => F106_j30_ok R e) (by kernel_rfl)))
def F106_j23 (R : ER) (x0 x1 x2 x3 x4 x28 : Value) : WP :=
  cnd x28 (F106_j24 R x0 x1 x2 x3 x4) (F106_j1 R x0 x1 x2 x3 x4)
theorem F106_j23_ok (R : ER) (e : Env) : den Pg R (cd Tryz.f106 [0,1]) e (setN (kont Pg R Tryz.f106) (fun e => F106_j1 R (e 0) (e 1) (e 2) (e 3) (e 4))) = (F106_j23 R (e 0) (e 1) (e 2) (e 3) (e 4) (e 28)) := (den_if Pg R (cd Tryz.f106 [0,1]) (cd Tryz.f106 [0,1,0]) (cd Tryz.f106 [0,1,1]) e (setN (kont Pg R Tryz.f106) (fun e => F106_j1 R (e 0) (e 1) (e 2) (e 3) (e 4))) (F106_j24 R (e 0) (e 1) (e 2) (e 3) (e 4)) _ _ (by kernel_rfl) (F106_j24_ok R e) rfl (by kernel_rfl))
def F106_j22 (R : ER) (x0 x1 x2 x3 x4 : Value) : WP :=
  pv (bin .sub x2 x1) fun v101 =>
  pv (bin .eql v101 (.int .i64 1)) fun v102 =>
  F106_j23 R x0 x1 x2 x3 x4 v102
theorem F106_j22_ok (R : ER) (e : Env) : den Pg R (cd Tryz.f106 [0]) e (setN (kont Pg R Tryz.f106) (fun e => F106_j1 R (e 0) (e 1) (e 2) (e 3) (e 4))) = (F106_j22 R (e 0) (e 1) (e 2) (e 3) (e 4)) := (den_join Pg R 0 (cd Tryz.f106 [0]) (cd Tryz.f106 [0,1]) e (setN (kont Pg R Tryz.f106) (fun e => F106_j1 R (e 0) (e 1) (e 2) (e 3) (e 4))) (fun e => F106_j23 R (e 0) (e 1) (e 2) (e 3) (e 4) (e 28)) _ (by kernel_rfl) (fun e => F106_j23_ok R e) (by kernel_rfl))
def F106 (R : ER) (x0 x1 x2 x3 x4 : Value) : WP :=
  F106_j22 R x0 x1 x2 x3 x4
theorem F106_den (R : ER) (x0 x1 x2 x3 x4 : Value) : den Pg R (cd Tryz.f106 []) (argsEnv [x0, x1, x2, x3, x4]) (kont Pg R Tryz.f106) = F106 R x0 x1 x2 x3 x4 :=
  have h : ∀ e, den Pg R (cd Tryz.f106 []) e (kont Pg R Tryz.f106) = F106 R (e 0) (e 1) (e 2) (e 3) (e 4) := fun e => (den_join Pg R 0 (cd Tryz.f106 []) (cd Tryz.f106 [1]) e (kont Pg R Tryz.f106) (fun e => F106_j1 R (e 0) (e 1) (e 2) (e 3) (e 4)) _ (by kernel_rfl) (fun e => F106_j1_ok R e) (den_conv Pg R (pre 0 (cd Tryz.f106 [])) (cd Tryz.f106 [0]) e (setN (kont Pg R Tryz.f106) (fun e => F106_j1 R (e 0) (e 1) (e 2) (e 3) (e 4))) _ (by kernel_rfl) (F106_j22_ok R e)))
  h _
theorem F106_calls {R : ER} {x0 x1 x2 x3 x4 : Value} {w : World} (h : F106 R x0 x1 x2 x3 x4 w) : Calls Pg 106 ⟨[x0, x1, x2, x3, x4]⟩ w R :=
  calls_of_den Tryz.func106 (by kernel_rfl) (by kernel_rfl) (F106_den R x0 x1 x2 x3 x4) h
/-! ### 112: slices_rotateCmpFunc -/
def F112_j1 (R : ER) (x0 x2 x4 x10 : Value) : WP :=
  pv (bin .sub x2 x10) fun v1 =>
  cal Pg R 114 ⟨[x0, v1, x2, x10, x4]⟩ fun v2 =>
  R (.returned (.tuple ⟨[]⟩))
theorem F112_j1_ok (R : ER) (e : Env) : den Pg R (cd Tryz.f112 [1,1,1]) e (kont Pg R Tryz.f112) = (F112_j1 R (e 0) (e 2) (e 4) (e 10)) := by kernel_rfl
def F112_j5 (R : ER) (k1 : V5) (x0 x2 x4 x10 x11 : Value) : WP :=
  pv (bin .sub x2 x10) fun v3 =>
  cal Pg R 114 ⟨[x0, v3, x2, x11, x4]⟩ fun v4 =>
  pv (bin .sub x10 x11) fun v5 =>
  k1 x0 x2 x4 v5 x11
theorem F112_j5_ok (R : ER) (k1 : V5) (e : Env) : den Pg R (cd Tryz.f112 [1,1,0,0,0,1,0,1,0]) e (inB 1 (setN (inB 0 (setN (kont Pg R Tryz.f112) (fun e => F112_j1 R (e 0) (e 2) (e 4) (e 10)))) (fun e => k1 (e 0) (e 2) (e 4) (e 10) (e 11)))) = (F112_j5 R k1 (e 0) (e 2) (e 4) (e 10) (e 11)) := by kernel_rfl
def F112_j6 (R : ER) (k1 : V5) (x0 x2 x4 x10 x11 : Value) : WP :=
  pv (bin .sub x2 x10) fun v6 =>
  pv (bin .add x2 x11) fun v7 =>
  pv (bin .sub v7 x10) fun v8 =>
  cal Pg R 114 ⟨[x0, v6, v8, x10, x4]⟩ fun v9 =>
  pv (bin .sub x11 x10) fun v10 =>
  k1 x0 x2 x4 x10 v10
theorem F112_j6_ok (R : ER) (k1 : V5) (e : Env) : den Pg R (cd Tryz.f112 [1,1,0,0,0,1,0,1,1]) e (inB 1 (setN (inB 0 (setN (kont Pg R Tryz.f112) (fun e => F112_j1 R (e 0) (e 2) (e 4) (e 10)))) (fun e => k1 (e 0) (e 2) (e 4) (e 10) (e 11)))) = (F112_j6 R k1 (e 0) (e 2) (e 4) (e 10) (e 11)) := by kernel_rfl
def F112_j4 (R : ER) (k1 : V5) (x0 x2 x4 x10 x11 x23 : Value) : WP :=
  cnd x23 (F112_j5 R k1 x0 x2 x4 x10 x11) (F112_j6 R k1 x0 x2 x4 x10 x11)
theorem F112_j4_ok (R : ER) (k1 : V5) (e : Env) : den Pg R (cd Tryz.f112 [1,1,0,0,0,1,0,1]) e (inB 1 (setN (inB 0 (setN (kont Pg R Tryz.f112) (fun e => F112_j1 R (e 0) (e 2) (e 4) (e 10)))) (fun e => k1 (e 0) (e 2) (e 4) (e 10) (e 11)))) = (F112_j4 R k1 (e 0) (e 2) (e 4) (e 10) (e 11) (e 23)) := (den_if Pg R (cd Tryz.f112 [1,1,0,0,0,1,0,1]) (cd Tryz.f112 [1,1,0,0,0,1,0,1,0]) (cd Tryz.f112 [1,1,0,0,0,1,0,1,1]) e (inB 1 (setN (inB 0 (setN (kont Pg R Tryz.f112) (fun e => F112_j1 R (e 0) (e 2) (e 4) (e 10)))) (fun e => k1 (e 0) (e 2) (e 4) (e 10) (e 11)))) (F112_j5 R k1 (e 0) (e 2) (e 4) (e 10) (e 11)) (F112_j6 R k1 (e 0) (e 2) (e 4) (e 10) (e 11)) _ (by kernel_rfl) (F112_j5_ok R k1 e) (F112_j6_ok R k1 e) (by kernel_rfl))
def F112_j3 (R : ER) (k1 : V5) (x0 x2 x4 x10 x11 : Value) : WP :=
  pv (bin .gtr x10 x11) fun v11 =>
  F112_j4 R k1 x0 x2 x4 x10 x11 v11
theorem F112_j3_ok (R : ER) (k1 : V5) (e : Env) : den Pg R (cd Tryz.f112 [1,1,0,0,0,1]) e (setN (inB 0 (setN (kont Pg R Tryz.f112) (fun e => F112_j1 R (e 0) (e 2) (e 4) (e 10)))) (fun e => k1 (e 0) (e 2) (e 4) (e 10) (e 11))) = (F112_j3 R k1 (e 0) (e 2) (e 4) (e 10) (e 11)) := (den_block Pg R (cd Tryz.f112 [1,1,0,0,0,1]) 1 (cd Tryz.f112 [1,1,0,0,0,1,0]) e (setN (inB 0 (setN (kont Pg R Tryz.f112) (fun e => F112_j1 R (e 0) (e 2) (e 4) (e 10)))) (fun e => k1 (e 0) (e 2) (e 4) (e 10) (e 11))) _ (by kernel_rfl) (den_join Pg R 0 (cd Tryz.f112 [1,1,0,0,0,1,0]) (cd Tryz.f112 [1,1,0,0,0,1,0,1]) e (inB 1 (setN (inB 0 (setN (kont Pg R Tryz.f112) (fun e => F112_j1 R (e 0) (e 2) (e 4) (e 10)))) (fun e => k1 (e 0) (e 2) (e 4) (e 10) (e 11)))) (fun e => F112_j4 R k1 (e 0) (e 2) (e 4) (e 10) (e 11) (e 23)) _ (by kernel_rfl) (fun e => F112_j4_ok R k1 e) (by kernel_rfl)))
def F112_b1 (R : ER) (k1 : V5) (x0 x2 x4 x10 x11 : Value) : WP :=
  pv (bin .neq x10 x11) fun v12 =>
  cnd v12 (
   F112_j3 R k1 x0 x2 x4 x10 x11) (
   F112_j1 R x0 x2 x4 x10)
theorem F112_b1_ok (R : ER) (k1 : V5) (e : Env) : den Pg R (cd Tryz.f112 [1,1,0,0,0]) e (setN (inB 0 (setN (kont Pg R Tryz.f112) (fun e => F112_j1 R (e 0) (e 2) (e 4) (e 10)))) (fun e => k1 (e 0) (e 2) (e 4) (e 10) (e 11))) = (F112_b1 R k1 (e 0) (e 2) (e 4) (e 10) (e 11)) := (den_join Pg R 0 (cd Tryz.f112 [1,1,0,0,0]) (cd Tryz.f112 [1,1,0,0,0,1]) e (setN (inB 0 (setN (kont Pg R Tryz.f112) (fun e => F112_j1 R (e 0) (e 2) (e 4) (e 10)))) (fun e => k1 (e 0) (e 2) (e 4) (e 10) (e 11))) (fun e => F112_j3 R k1 (e 0) (e 2) (e 4) (e 10) (e 11)) _ (by kernel_rfl) (fun e => F112_j3_ok R k1 e) (by kernel_rfl))
noncomputable def F112_l1 (R : ER) (n : Nat) : V5 := Nat.rec (motive := fun _ => V5) (fun _ _ _ _ _ => fun _ => False) (fun _ ih => fun x0 x2 x4 x10 x11 => F112_b1 R ih x0 x2 x4 x10 x11) n
theorem F112_l1_succ (R : ER) (n : Nat) (x0 x2 x4 x10 x11 : Value) : F112_l1 R (n + 1) x0 x2 x4 x10 x11 = F112_b1 R (F112_l1 R n) x0 x2 x4 x10 x11 := rfl
theorem F112_l1_ok (R : ER) : ∀ (n : Nat) (e : Env), iterL (den Pg R (cd Tryz.f112 [1,1,0,0,0])) n e (inB 0 (setN (kont Pg R Tryz.f112) (fun e => F112_j1 R (e 0) (e 2) (e 4) (e 10)))) = F112_l1 R n (e 0) (e 2) (e 4) (e 10) (e 11) :=
  iterL_join (den Pg R (cd Tryz.f112 [1,1,0,0,0])) (inB 0 (setN (kont Pg R Tryz.f112) (fun e => F112_j1 R (e 0) (e 2) (e 4) (e 10)))) (fun n e => F112_l1 R n (e 0) (e 2) (e 4) (e 10) (e 11)) (fun _ => rfl) (fun n e => (F112_b1_ok R (F112_l1 R n) e).trans (F112_l1_succ R n (e 0) (e 2) (e 4) (e 10) (e 11)).symm)
def F112_j2 (R : ER) (x0 x2 x4 x10 x11 : Value) : WP :=
  exN fun n => F112_l1 R n x0 x2 x4 x10 x11
theorem F112_j2_ok (R : ER) (e : Env) : den Pg R (cd Tryz.f112 [1,1,0]) e (setN (kont Pg R Tryz.f112) (fun e => F112_j1 R (e 0) (e 2) (e 4) (e 10))) = (F112_j2 R (e 0) (e 2) (e 4) (e 10) (e 11)) := (den_block Pg R (cd Tryz.f112 [1,1,0]) 0 (cd Tryz.f112 [1,1,0,0]) e (setN (kont Pg R Tryz.f112) (fun e => F112_j1 R (e 0) (e 2) (e 4) (e 10))) _ (by kernel_rfl) (den_loop Pg R (cd Tryz.f112 [1,1,0,0]) (cd Tryz.f112 [1,1,0,0,0]) e (inB 0 (setN (kont Pg R Tryz.f112) (fun e => F112_j1 R (e 0) (e 2) (e 4) (e 10)))) (fun n e => F112_l1 R n (e 0) (e 2) (e 4) (e 10) (e 11)) _ (by kernel_rfl) (F112_l1_ok R) (by kernel_rfl)))
def F112 (R : ER) (x0 x1 x2 x3 x4 : Value) : WP :=
  pv (bin .sub x2 x1) fun v13 =>
  pv (bin .sub x3 x2) fun v14 =>
  F112_j2 R x0 x2 x4 v13 v14
theorem F112_den (R : ER) (x0 x1 x2 x3 x4 : Value) : den Pg R (cd Tryz.f112 []) (argsEnv [x0, x1, x2, x3, x4]) (kont Pg R Tryz.f112) = F112 R x0 x1 x2 x3 x4 :=
  have h : ∀ e, den Pg R (cd Tryz.f112 []) e (kont Pg R Tryz.f112) = F112 R (e 0) (e 1) (e 2) (e 3) (e 4) := fun e => (den_join Pg R 2 (cd Tryz.f112 []) (cd Tryz.f112 [1,1,1]) e (kont Pg R Tryz.f112) (fun e => F112_j1 R (e 0) (e 2) (e 4) (e 10)) _ (by kernel_rfl) (fun e => F112_j1_ok R e) (den_join Pg R 1 (pre 2 (cd Tryz.f112 [])) (cd Tryz.f112 [1,1,0]) e (setN (kont Pg R Tryz.f112) (fun e => F112_j1 R (e 0) (e 2) (e 4) (e 10))) (fun e => F112_j2 R (e 0) (e 2) (e 4) (e 10) (e 11)) _ (by kernel_rfl) (fun e => F112_j2_ok R e) (by kernel_rfl)))
  h _
theorem F112_calls {R : ER} {x0 x1 x2 x3 x4 : Value} {w : World} (h : F112 R x0 x1 x2 x3 x4 w) : Calls Pg 112 ⟨[x0, x1, x2, x3, x4]⟩ w R :=
  calls_of_den Tryz.func112 (by kernel_rfl) (by kernel_rfl) (F112_den R x0 x1 x2 x3 x4) h
/-! ### 114: slices_swapRangeCmpFunc -/
def F114_j2 (R : ER) (k1 : V5) (x0 x1 x2 x3 x10 : Value) : WP :=
  drewV (
  pv (bin .add x1 x10) fun v1 =>
  pv (bin .add x2 x10) fun v2 =>
  pv (bin .add x2 x10) fun v3 =>
  pv (ixS 2 x0 v3) fun v4 =>
  ldN 2 v4 fun v5 =>
  pv (bin .add x1 x10) fun v6 =>
  pv (ixS 2 x0 v6) fun v7 =>
  ldN 2 v7 fun v8 =>
  pv (ixS 2 x0 v1) fun v9 =>
  mem fun w11 => stN 2 v9 v5 fun v10 =>
  pv (ixS 2 x0 v2) fun v12 =>
  mem fun w14 => stN 2 v12 v8 fun v13 =>
  pv (bin .add x10 (.int .i64 1)) fun v15 =>
  k1 x0 x1 x2 x3 v15)
theorem F114_j2_ok (R : ER) (k1 : V5) (e : Env) : den Pg R (cd Tryz.f114 [1,0,0,1]) e (setN (inB 0 (kont Pg R Tryz.f114)) (fun e => k1 (e 0) (e 1) (e 2) (e 3) (e 10))) = (F114_j2 R k1 (e 0) (e 1) (e 2) (e 3) (e 10)) := by kernel_rfl
def F114_b1 (R : ER) (k1 : V5) (x0 x1 x2 x3 x10 : Value) : WP :=
  pv (bin .lss x10 x3) fun v16 =>
  cnd v16 (
   F114_j2 R k1 x0 x1 x2 x3 x10) (
   R (.returned (.tuple ⟨[]⟩)))
theorem F114_b1_ok (R : ER) (k1 : V5) (e : Env) : den Pg R (cd Tryz.f114 [1,0,0]) e (setN (inB 0 (kont Pg R Tryz.f114)) (fun e => k1 (e 0) (e 1) (e 2) (e 3) (e 10))) = (F114_b1 R k1 (e 0) (e 1) (e 2) (e 3) (e 10)) := (den_join Pg R 0 (cd Tryz.f114 [1,0,0]) (cd Tryz.f114 [1,0,0,1]) e (setN (inB 0 (kont Pg R Tryz.f114)) (fun e => k1 (e 0) (e 1) (e 2) (e 3) (e 10))) (fun e => F114_j2 R k1 (e 0) (e 1) (e 2) (e 3) (e 10)) _ (by kernel_rfl) (fun e => F114_j2_ok R k1 e) (by kernel_rfl))
noncomputable def F114_l1 (R : ER) (n : Nat) : V5 := Nat.rec (motive := fun _ => V5) (fun _ _ _ _ _ => fun _ => False) (fun _ ih => fun x0 x1 x2 x3 x10 => F114_b1 R ih x0 x1 x2 x3 x10) n
theorem F114_l1_succ (R : ER) (n : Nat) (x0 x1 x2 x3 x10 : Value) : F114_l1 R (n + 1) x0 x1 x2 x3 x10 = F114_b1 R (F114_l1 R n) x0 x1 x2 x3 x10 := rfl
theorem F114_l1_ok (R : ER) : ∀ (n : Nat) (e : Env), iterL (den Pg R (cd Tryz.f114 [1,0,0])) n e (inB 0 (kont Pg R Tryz.f114)) = F114_l1 R n (e 0) (e 1) (e 2) (e 3) (e 10) :=
  iterL_join (den Pg R (cd Tryz.f114 [1,0,0])) (inB 0 (kont Pg R Tryz.f114)) (fun n e => F114_l1 R n (e 0) (e 1) (e 2) (e 3) (e 10)) (fun _ => rfl) (fun n e => (F114_b1_ok R (F114_l1 R n) e).trans (F114_l1_succ R n (e 0) (e 1) (e 2) (e 3) (e 10)).symm)
def F114_j1 (R : ER) (x0 x1 x2 x3 x10 : Value) : WP :=
  exN fun n => F114_l1 R n x0 x1 x2 x3 x10
theorem F114_j1_ok (R : ER) (e : Env) : den Pg R (cd Tryz.f114 [1]) e (kont Pg R Tryz.f114) = (F114_j1 R (e 0) (e 1) (e 2) (e 3) (e 10)) := (den_block Pg R (cd Tryz.f114 [1]) 0 (cd Tryz.f114 [1,0]) e (kont Pg R Tryz.f114) _ (by kernel_rfl) (den_loop Pg R (cd Tryz.f114 [1,0]) (cd Tryz.f114 [1,0,0]) e (inB 0 (kont Pg R Tryz.f114)) (fun n e => F114_l1 R n (e 0) (e 1) (e 2) (e 3) (e 10)) _ (by kernel_rfl) (F114_l1_ok R) (by kernel_rfl)))
def F114 (R : ER) (x0 x1 x2 x3 x4 : Value) : WP :=
  F114_j1 R x0 x1 x2 x3 (.int .i64 0)
theorem F114_den (R : ER) (x0 x1 x2 x3 x4 : Value) : den Pg R (cd Tryz.f114 []) (argsEnv [x0, x1, x2, x3, x4]) (kont Pg R Tryz.f114) = F114 R x0 x1 x2 x3 x4 :=
  have h : ∀ e, den Pg R (cd Tryz.f114 []) e (kont Pg R Tryz.f114) = F114 R (e 0) (e 1) (e 2) (e 3) (e 4) := fun e => (den_join Pg R 0 (cd Tryz.f114 []) (cd Tryz.f114 [1]) e (kont Pg R Tryz.f114) (fun e => F114_j1 R (e 0) (e 1) (e 2) (e 3) (e 10)) _ (by kernel_rfl) (fun e => F114_j1_ok R e) (by kernel_rfl))
  h _
theorem F114_calls {R : ER} {x0 x1 x2 x3 x4 : Value} {w : World} (h : F114 R x0 x1 x2 x3 x4 w) : Calls Pg 114 ⟨[x0, x1, x2, x3, x4]⟩ w R :=
  calls_of_den Tryz.func114 (by kernel_rfl) (by kernel_rfl) (F114_den R x0 x1 x2 x3 x4) h
/-! ### 131: mqueue_messages_Less -/
def F131 (R : ER) (x0 x1 x2 : Value) : WP :=
  drewV (
  pv (ixS 3 x0 x1) fun v1 =>
  ldN 3 v1 fun v2 =>
  pv (ixS 3 x0 x2) fun v3 =>
  ldN 3 v3 fun v4 =>
  mem fun w6 => cal Pg noR 40 ⟨[v2, v4]⟩ fun v5 =>
  pv (bin .lss v5 (.int .i64 0)) fun v7 =>
  R (.returned v7))
theorem F131_den (R : ER) (x0 x1 x2 : Value) : den Pg R (cd Tryz.f131 []) (argsEnv [x0, x1, x2]) (kont Pg R Tryz.f131) = F131 R x0 x1 x2 :=
  have h : ∀ e, den Pg R (cd Tryz.f131 []) e (kont Pg R Tryz.f131) = F131 R (e 0) (e 1) (e 2) := fun e => by kernel_rfl
  h _
theorem F131_calls {R : ER} {x0 x1 x2 : Value} {w : World} (h : F131 R x0 x1 x2 w) : Calls Pg 131 ⟨[x0, x1, x2]⟩ w R :=
  calls_of_den Tryz.func131 (by kernel_rfl) (by kernel_rfl) (F131_den R x0 x1 x2) h
/-! ### 132: mqueue_messages_Pop -/
def F132 (R : ER) (x0 : Value) : WP :=
  drewV (
  pv (nilO x0) fun v1 =>
  ld1 v1 fun v2 =>
  pv (nilO x0) fun v3 =>
  ld1 v3 fun v4 =>
  pv (lenS v4) fun v5 =>
  pv (bin .sub v5 (.int .i64 1)) fun v6 =>
  pv (ixS 3 v2 v6) fun v7 =>
  ldN 3 v7 fun v8 =>
  mem fun w10 => al Pg 97 fun v9 =>
  rdN 3 v7 v8 <|
  rd1 v3 v4 <|
  rd1 v1 v2 <|
  mem fun w12 => stN 3 v9 v8 fun v11 =>
  drewV (
  pv (nilO x0) fun v13 =>
  ld1 v13 fun v14 =>
  pv (nilO x0) fun v15 =>
  ld1 v15 fun v16 =>
  pv (lenS v16) fun v17 =>
  pv (bin .sub v17 (.int .i64 1)) fun v18 =>
  pv (slS 3 v14 none (some v18)) fun v19 =>
  pv (nilO x0) fun v20 =>
  mem fun w22 => st1 v20 v19 fun v21 =>
  ldN 3 v9 fun v23 =>
  R (.returned (.iface 97 v23))))
theorem F132_den (R : ER) (x0 : Value) : den Pg R (cd Tryz.f132 []) (argsEnv [x0]) (kont Pg R Tryz.f132) = F132 R x0 :=
  have h : ∀ e, den Pg R (cd Tryz.f132 []) e (kont Pg R Tryz.f132) = F132 R (e 0) := fun e => by kernel_rfl
  h _
theorem F132_calls {R : ER} {x0 : Value} {w : World} (h : F132 R x0 w) : Calls Pg 132 ⟨[x0]⟩ w R :=
  calls_of_den Tryz.func132 (by kernel_rfl) (by kernel_rfl) (F132_den R x0) h
/-! ### 133: mqueue_messages_Push -/
def F133 (R : ER) (x0 x1 : Value) : WP :=
  drewV (
  pv (nilO x0) fun v1 =>
  ld1 v1 fun v2 =>
  mem fun w4 => valV Pg noR (Instr.typeAssert x1 20 97 false) fun v3 =>
  rd1 v1 v2 <|
  mem fun w6 => valV Pg noR (Instr.buildSlice 53 1 ⟨[(0, v3)]⟩) fun v5 =>
  rd1 v1 v2 <|
  mem fun w8 => blt Pg noR .append ⟨[53,53]⟩ 53 ⟨[false, false]⟩ ⟨[v2, v5]⟩ fun v7 =>
  pv (nilO x0) fun v9 =>
  mem fun w11 => st1 v9 v7 fun v10 =>
  R (.returned (.tuple ⟨[]⟩)))
theorem F133_den (R : ER) (x0 x1 : Value) : den Pg R (cd Tryz.f133 []) (argsEnv [x0, x1]) (kont Pg R Tryz.f133) = F133 R x0 x1 :=
  have h : ∀ e, den Pg R (cd Tryz.f133 []) e (kont Pg R Tryz.f133) = F133 R (e 0) (e 1) := fun e => by kernel_rfl
  h _
theorem F133_calls {R : ER} {x0 x1 : Value} {w : World} (h : F133 R x0 x1 w) : Calls Pg 133 ⟨[x0, x1]⟩ w R :=
  calls_of_den Tryz.func133 (by kernel_rfl) (by kernel_rfl) (F133_den R x0 x1) h
/-! ### 134: mqueue_messages_Swap -/
def F134 (R : ER) (x0 x1 x2 : Value) : WP :=
  drewV (
  pv (ixS 3 x0 x2) fun v1 =>
  ldN 3 v1 fun v2 =>
  pv (ixS 3 x0 x1) fun v3 =>
  ldN 3 v3 fun v4 =>
  pv (ixS 3 x0 x1) fun v5 =>
  mem fun w7 => stN 3 v5 v2 fun v6 =>
  pv (ixS 3 x0 x2) fun v8 =>
  mem fun w10 => stN 3 v8 v4 fun v9 =>
  R (.returned (.tuple ⟨[]⟩)))
theorem F134_den (R : ER) (x0 x1 x2 : Value) : den Pg R (cd Tryz.f134 []) (argsEnv [x0, x1, x2]) (kont Pg R Tryz.f134) = F134 R x0 x1 x2 :=
  have h : ∀ e, den Pg R (cd Tryz.f134 []) e (kont Pg R Tryz.f134) = F134 R (e 0) (e 1) (e 2) := fun e => by kernel_rfl
  h _
theorem F134_calls {R : ER} {x0 x1 x2 : Value} {w : World} (h : F134 R x0 x1 x2 w) : Calls Pg 134 ⟨[x0, x1, x2]⟩ w R :=
  calls_of_den Tryz.func134 (by kernel_rfl) (by kernel_rfl) (F134_den R x0 x1 x2) h
end Go.Proofs.YthcekppbbanfeaaGreat.Den
