/- Printed by a program of this session: what the functions mean, and that the model means just that. Conditions: none. -/
import Derived.Test.YtmkcjopacmadhaaGreatDenRange
set_option linter.unusedVariables false
set_option maxRecDepth 100000
namespace Go.Proofs.YtmkcjopacmadhaaGreat.Den
open Go
/-! ### 158: slices_BinarySearchFunc_158 -/
def F158_j1 (R : ER) (x0 x2 x4 x8 x9 : Value) : WP :=
  drewV (
  pv (bin .lss x9 x8) fun v1 =>
  gd v1 true (pv (some x2)) fun v2 =>
  gd v1 true (pv (some x0)) fun v3 =>
  gd v1 true (pv (some x9)) fun v4 =>
  gd v1 true (pv (ixS 11 v3 v4)) fun v5 =>
  gd v1 true (ldN 11 v5) fun v6 =>
  gd v1 true (ldN 2 x4) fun v7 =>
  mem fun w9 => gd v1 true (calD Pg noR v2 ⟨[v6, v7]⟩) fun v8 =>
  gd v1 true (pv (bin .eql v8 (.int .i64 0))) fun v10 =>
  pv (pickO v1 v10 (.bool false)) fun v11 =>
  R (.returned (.tuple ⟨[x9, v11]⟩)))
theorem F158_j1_ok (R : ER) (e : Env) : den Pg R (cd Tryz.f158 [1,1,1,1]) e (kont Pg R Tryz.f158) = (F158_j1 R (e 0) (e 2) (e 4) (e 8) (e 9)) := by kernel_rfl
def F158_j3 (R : ER) (k1 : V6) (x0 x2 x4 x8 x9 x10 : Value) : WP :=
  pv (bin .add x9 x10) fun v12 =>
  pv (cvI .u64 v12) fun v13 =>
  pv (bin .shr v13 (.int .u64 1)) fun v14 =>
  pv (cvI .i64 v14) fun v15 =>
  drewV (
  pv (ixS 11 x0 v15) fun v16 =>
  ldN 11 v16 fun v17 =>
  ldN 2 x4 fun v18 =>
  mem fun w20 => calD Pg noR x2 ⟨[v17, v18]⟩ fun v19 =>
  pv (bin .lss v19 (.int .i64 0)) fun v21 =>
  cnd v21 (
   pv (bin .add v15 (.int .i64 1)) fun v22 =>
   k1 x0 x2 x4 x8 v22 x10) (
   k1 x0 x2 x4 x8 x9 v15))
theorem F158_j3_ok (R : ER) (k1 : V6) (e : Env) : den Pg R (cd Tryz.f158 [1,1,1,0,0,0,1]) e (setN (inB 0 (setN (kont Pg R Tryz.f158) (fun e => F158_j1 R (e 0) (e 2) (e 4) (e 8) (e 9)))) (fun e => k1 (e 0) (e 2) (e 4) (e 8) (e 9) (e 10))) = (F158_j3 R k1 (e 0) (e 2) (e 4) (e 8) (e 9) (e 10)) := (den_block Pg R (cd Tryz.f158 [1,1,1,0,0,0,1]) 1 (cd Tryz.f158 [1,1,1,0,0,0,1,0]) e (setN (inB 0 (setN (kont Pg R Tryz.f158) (fun e => F158_j1 R (e 0) (e 2) (e 4) (e 8) (e 9)))) (fun e => k1 (e 0) (e 2) (e 4) (e 8) (e 9) (e 10))) _ (by kernel_rfl) (by kernel_rfl))
def F158_b1 (R : ER) (k1 : V6) (x0 x2 x4 x8 x9 x10 : Value) : WP :=
  pv (bin .lss x9 x10) fun v23 =>
  cnd v23 (
   F158_j3 R k1 x0 x2 x4 x8 x9 x10) (
   F158_j1 R x0 x2 x4 x8 x9)
theorem F158_b1_ok (R : ER) (k1 : V6) (e : Env) : den Pg R (cd Tryz.f158 [1,1,1,0,0,0]) e (setN (inB 0 (setN (kont Pg R Tryz.f158) (fun e => F158_j1 R (e 0) (e 2) (e 4) (e 8) (e 9)))) (fun e => k1 (e 0) (e 2) (e 4) (e 8) (e 9) (e 10))) = (F158_b1 R k1 (e 0) (e 2) (e 4) (e 8) (e 9) (e 10)) := (den_join Pg R 0 (cd Tryz.f158 [1,1,1,0,0,0]) (cd Tryz.f158 [1,1,1,0,0,0,1]) e (setN (inB 0 (setN (kont Pg R Tryz.f158) (fun e => F158_j1 R (e 0) (e 2) (e 4) (e 8) (e 9)))) (fun e => k1 (e 0) (e 2) (e 4) (e 8) (e 9) (e 10))) (fun e => F158_j3 R k1 (e 0) (e 2) (e 4) (e 8) (e 9) (e 10)) _ (by kernel_rfl) (fun e => F158_j3_ok R k1 e) (by kernel_rfl))
noncomputable def F158_l1 (R : ER) (n : Nat) : V6 := Nat.rec (motive := fun _ => V6) (fun _ _ _ _ _ _ => fun _ => False) (fun _ ih => fun x0 x2 x4 x8 x9 x10 => F158_b1 R ih x0 x2 x4 x8 x9 x10) n
theorem F158_l1_succ (R : ER) (n : Nat) (x0 x2 x4 x8 x9 x10 : Value) : F158_l1 R (n + 1) x0 x2 x4 x8 x9 x10 = F158_b1 R (F158_l1 R n) x0 x2 x4 x8 x9 x10 := rfl
theorem F158_l1_ok (R : ER) : ∀ (n : Nat) (e : Env), iterL (den Pg R (cd Tryz.f158 [1,1,1,0,0,0])) n e (inB 0 (setN (kont Pg R Tryz.f158) (fun e => F158_j1 R (e 0) (e 2) (e 4) (e 8) (e 9)))) = F158_l1 R n (e 0) (e 2) (e 4) (e 8) (e 9) (e 10) :=
  iterL_join (den Pg R (cd Tryz.f158 [1,1,1,0,0,0])) (inB 0 (setN (kont Pg R Tryz.f158) (fun e => F158_j1 R (e 0) (e 2) (e 4) (e 8) (e 9)))) (fun n e => F158_l1 R n (e 0) (e 2) (e 4) (e 8) (e 9) (e 10)) (fun _ => rfl) (fun n e => (F158_b1_ok R (F158_l1 R n) e).trans (F158_l1_succ R n (e 0) (e 2) (e 4) (e 8) (e 9) (e 10)).symm)
def F158_j2 (R : ER) (x0 x2 x4 x8 x9 x10 : Value) : WP :=
  exN fun n => F158_l1 R n x0 x2 x4 x8 x9 x10
theorem F158_j2_ok (R : ER) (e : Env) : den Pg R (cd Tryz.f158 [1,1,1,0]) e (setN (kont Pg R Tryz.f158) (fun e => F158_j1 R (e 0) (e 2) (e 4) (e 8) (e 9))) = (F158_j2 R (e 0) (e 2) (e 4) (e 8) (e 9) (e 10)) := (den_block Pg R (cd Tryz.f158 [1,1,1,0]) 0 (cd Tryz.f158 [1,1,1,0,0]) e (setN (kont Pg R Tryz.f158) (fun e => F158_j1 R (e 0) (e 2) (e 4) (e 8) (e 9))) _ (by kernel_rfl) (den_loop Pg R (cd Tryz.f158 [1,1,1,0,0]) (cd Tryz.f158 [1,1,1,0,0,0]) e (inB 0 (setN (kont Pg R Tryz.f158) (fun e => F158_j1 R (e 0) (e 2) (e 4) (e 8) (e 9)))) (fun n e => F158_l1 R n (e 0) (e 2) (e 4) (e 8) (e 9) (e 10)) _ (by kernel_rfl) (F158_l1_ok R) (by kernel_rfl)))
def F158 (R : ER) (x0 x1 x2 : Value) : WP :=
  bx 105 x1 fun v24 =>
  pv (lenS x0) fun v25 =>
  F158_j2 R x0 x2 v24 v25 (.int .i64 0) v25
theorem F158_den (R : ER) (x0 x1 x2 : Value) : den Pg R (cd Tryz.f158 []) (argsEnv [x0, x1, x2]) (kont Pg R Tryz.f158) = F158 R x0 x1 x2 :=
  have h : ∀ e, den Pg R (cd Tryz.f158 []) e (kont Pg R Tryz.f158) = F158 R (e 0) (e 1) (e 2) := fun e => (den_join Pg R 3 (cd Tryz.f158 []) (cd Tryz.f158 [1,1,1,1]) e (kont Pg R Tryz.f158) (fun e => F158_j1 R (e 0) (e 2) (e 4) (e 8) (e 9)) _ (by kernel_rfl) (fun e => F158_j1_ok R e) (den_join Pg R 2 (pre 3 (cd Tryz.f158 [])) (cd Tryz.f158 [1,1,1,0]) e (setN (kont Pg R Tryz.f158) (fun e => F158_j1 R (e 0) (e 2) (e 4) (e 8) (e 9))) (fun e => F158_j2 R (e 0) (e 2) (e 4) (e 8) (e 9) (e 10)) _ (by kernel_rfl) (fun e => F158_j2_ok R e) (by kernel_rfl)))
  h _
theorem F158_calls {R : ER} {x0 x1 x2 : Value} {w : World} (h : F158 R x0 x1 x2 w) : Calls Pg 158 ⟨[x0, x1, x2]⟩ w R :=
  calls_of_den Tryz.func158 (by kernel_rfl) (by kernel_rfl) (F158_den R x0 x1 x2) h
/-! ### 159: channels_insert_159 -/
def F159 (R : ER) (x0 x1 x2 : Value) : WP :=
  bx 110 x0 fun v1 =>
  bx 105 x1 fun v2 =>
  drewV (
  pv (faO 0 v2) fun v3 =>
  ld1 v3 fun v4 =>
  ld1 x2 fun v5 =>
  ldN 11 v1 fun v6 =>
  mem fun w8 => calD Pg noR v5 ⟨[v6]⟩ fun v7 =>
  rd1 v3 v4 <|
  pv (fld1 0 v7) fun v9 =>
  mem fun w11 => cal Pg noR 43 ⟨[v4, v9]⟩ fun v10 =>
  ld1S [w11, w8] x2 fun v12 =>
  ldNS [w11, w8] 11 v1 fun v13 =>
  mem fun w15 => calD Pg noR v12 ⟨[v13]⟩ fun v14 =>
  pv (fld1 1 v14) fun v16 =>
  pv (faO 1 v2) fun v17 =>
  ld1S [w15, w11, w8] v17 fun v18 =>
  mem fun w20 => cal Pg noR 43 ⟨[v16, v18]⟩ fun v19 =>
  mem fun w22 => valV Pg noR (Instr.buildSlice 50 2 ⟨[(0, v10), (1, v19)]⟩) fun v21 =>
  mem fun w24 => cal Pg noR 42 ⟨[v21]⟩ fun v23 =>
  R (.returned v23))
theorem F159_den (R : ER) (x0 x1 x2 : Value) : den Pg R (cd Tryz.f159 []) (argsEnv [x0, x1, x2]) (kont Pg R Tryz.f159) = F159 R x0 x1 x2 :=
  have h : ∀ e, den Pg R (cd Tryz.f159 []) e (kont Pg R Tryz.f159) = F159 R (e 0) (e 1) (e 2) := fun e => by kernel_rfl
  h _
theorem F159_calls {R : ER} {x0 x1 x2 : Value} {w : World} (h : F159 R x0 x1 x2 w) : Calls Pg 159 ⟨[x0, x1, x2]⟩ w R :=
  calls_of_den Tryz.func159 (by kernel_rfl) (by kernel_rfl) (F159_den R x0 x1 x2) h
/-! ### 160: slices_Insert_160 -/
def F160_j4 (R : ER) (x0 x1 x2 x7 x8 : Value) : WP :=
  pv (slS 11 x0 (some x8) none) fun v1 =>
  blt Pg R .copy ⟨[99,99]⟩ 3 ⟨[false, false]⟩ ⟨[v1, x2]⟩ fun v2 =>
  pv (slS 11 x0 (some x1) none) fun v3 =>
  cal Pg R 175 ⟨[v3, x7]⟩ fun v4 =>
  R (.returned x0)
theorem F160_j4_ok (R : ER) (e : Env) : den Pg R (cd Tryz.f160 [1,1,1,1,1,1,1,1,1]) e (kont Pg R Tryz.f160) = (F160_j4 R (e 0) (e 1) (e 2) (e 7) (e 8)) := by kernel_rfl
def F160_j7 (R : ER) (x0 x1 x2 x7 : Value) : WP :=
  drewV (
  pv (bin .add x1 x7) fun v5 =>
  pv (slS 11 x0 (some v5) none) fun v6 =>
  pv (slS 11 x0 (some x1) none) fun v7 =>
  mem fun w9 => blt Pg noR .copy ⟨[99,99]⟩ 3 ⟨[false, false]⟩ ⟨[v6, v7]⟩ fun v8 =>
  pv (slS 11 x0 (some x1) none) fun v10 =>
  blt Pg R .copy ⟨[99,99]⟩ 3 ⟨[false, false]⟩ ⟨[v10, x2]⟩ fun v11 =>
  R (.returned x0))
theorem F160_j7_ok (R : ER) (e : Env) : den Pg R (cd Tryz.f160 [1,1,1,1,1,1,1,1,0,1,0]) e (setN (kont Pg R Tryz.f160) (fun e => F160_j4 R (e 0) (e 1) (e 2) (e 7) (e 8))) = (F160_j7 R (e 0) (e 1) (e 2) (e 7)) := by kernel_rfl
def F160_j6 (R : ER) (x0 x1 x2 x7 x8 x68 : Value) : WP :=
  cnd x68 (F160_j7 R x0 x1 x2 x7) (F160_j4 R x0 x1 x2 x7 x8)
theorem F160_j6_ok (R : ER) (e : Env) : den Pg R (cd Tryz.f160 [1,1,1,1,1,1,1,1,0,1]) e (setN (kont Pg R Tryz.f160) (fun e => F160_j4 R (e 0) (e 1) (e 2) (e 7) (e 8))) = (F160_j6 R (e 0) (e 1) (e 2) (e 7) (e 8) (e 68)) := (den_if Pg R (cd Tryz.f160 [1,1,1,1,1,1,1,1,0,1]) (cd Tryz.f160 [1,1,1,1,1,1,1,1,0,1,0]) (cd Tryz.f160 [1,1,1,1,1,1,1,1,0,1,1]) e (setN (kont Pg R Tryz.f160) (fun e => F160_j4 R (e 0) (e 1) (e 2) (e 7) (e 8))) (F160_j7 R (e 0) (e 1) (e 2) (e 7)) _ _ (by kernel_rfl) (F160_j7_ok R e) rfl (by kernel_rfl))
def F160_j5 (R : ER) (x0 x1 x2 x7 x8 : Value) : WP :=
  pv (bin .add x1 x7) fun v12 =>
  pv (slS 11 x0 (some v12) none) fun v13 =>
  calD Pg R (.func (.func 174) ⟨[]⟩ ⟨[]⟩) ⟨[x2, v13]⟩ fun v14 =>
  pv (unO .not v14) fun v15 =>
  F160_j6 R x0 x1 x2 x7 x8 v15
theorem F160_j5_ok (R : ER) (e : Env) : den Pg R (cd Tryz.f160 [1,1,1,1,1,1,1,1,0]) e (setN (kont Pg R Tryz.f160) (fun e => F160_j4 R (e 0) (e 1) (e 2) (e 7) (e 8))) = (F160_j5 R (e 0) (e 1) (e 2) (e 7) (e 8)) := (den_join Pg R 0 (cd Tryz.f160 [1,1,1,1,1,1,1,1,0]) (cd Tryz.f160 [1,1,1,1,1,1,1,1,0,1]) e (setN (kont Pg R Tryz.f160) (fun e => F160_j4 R (e 0) (e 1) (e 2) (e 7) (e 8))) (fun e => F160_j6 R (e 0) (e 1) (e 2) (e 7) (e 8) (e 68)) _ (by kernel_rfl) (fun e => F160_j6_ok R e) (by kernel_rfl))
def F160_j3 (R : ER) (x0 x1 x2 x7 x8 : Value) : WP :=
  pv (bin .add x8 x7) fun v16 =>
  pv (slS 11 x0 none (some v16)) fun v17 =>
  F160_j5 R v17 x1 x2 x7 x8
theorem F160_j3_ok (R : ER) (e : Env) : den Pg R (cd Tryz.f160 [1,1,1,1,1,1,1]) e (kont Pg R Tryz.f160) = (F160_j3 R (e 0) (e 1) (e 2) (e 7) (e 8)) := (den_join Pg R 1 (cd Tryz.f160 [1,1,1,1,1,1,1]) (cd Tryz.f160 [1,1,1,1,1,1,1,1,1]) e (kont Pg R Tryz.f160) (fun e => F160_j4 R (e 0) (e 1) (e 2) (e 7) (e 8)) _ (by kernel_rfl) (fun e => F160_j4_ok R e) (den_join Pg R 0 (pre 1 (cd Tryz.f160 [1,1,1,1,1,1,1])) (cd Tryz.f160 [1,1,1,1,1,1,1,1,0]) e (setN (kont Pg R Tryz.f160) (fun e => F160_j4 R (e 0) (e 1) (e 2) (e 7) (e 8))) (fun e => F160_j5 R (e 0) (e 1) (e 2) (e 7) (e 8)) _ (by kernel_rfl) (fun e => F160_j5_ok R e) (by kernel_rfl)))
def F160_j10 (R : ER) (x0 x1 x2 x7 x8 : Value) : WP :=
  pv (slS 11 x0 none (some x1)) fun v18 =>
  pv (bin .add x8 x7) fun v19 =>
  pv (bin .sub v19 x1) fun v20 =>
  blt Pg R .append ⟨[99,3]⟩ 99 ⟨[false, false]⟩ ⟨[v18, v20]⟩ fun v21 =>
  pv (slS 11 v21 (some x1) none) fun v22 =>
  blt Pg R .copy ⟨[99,99]⟩ 3 ⟨[false, false]⟩ ⟨[v22, x2]⟩ fun v23 =>
  drewV (
  pv (bin .add x1 x7) fun v24 =>
  pv (slS 11 v21 (some v24) none) fun v25 =>
  pv (slS 11 x0 (some x1) none) fun v26 =>
  mem fun w28 => blt Pg noR .copy ⟨[99,99]⟩ 3 ⟨[false, false]⟩ ⟨[v25, v26]⟩ fun v27 =>
  R (.returned v21))
theorem F160_j10_ok (R : ER) (e : Env) : den Pg R (cd Tryz.f160 [1,1,1,1,1,1,0,1,0]) e (setN (kont Pg R Tryz.f160) (fun e => F160_j3 R (e 0) (e 1) (e 2) (e 7) (e 8))) = (F160_j10 R (e 0) (e 1) (e 2) (e 7) (e 8)) := by kernel_rfl
def F160_j9 (R : ER) (x0 x1 x2 x7 x8 x31 : Value) : WP :=
  cnd x31 (F160_j10 R x0 x1 x2 x7 x8) (F160_j3 R x0 x1 x2 x7 x8)
theorem F160_j9_ok (R : ER) (e : Env) : den Pg R (cd Tryz.f160 [1,1,1,1,1,1,0,1]) e (setN (kont Pg R Tryz.f160) (fun e => F160_j3 R (e 0) (e 1) (e 2) (e 7) (e 8))) = (F160_j9 R (e 0) (e 1) (e 2) (e 7) (e 8) (e 31)) := (den_if Pg R (cd Tryz.f160 [1,1,1,1,1,1,0,1]) (cd Tryz.f160 [1,1,1,1,1,1,0,1,0]) (cd Tryz.f160 [1,1,1,1,1,1,0,1,1]) e (setN (kont Pg R Tryz.f160) (fun e => F160_j3 R (e 0) (e 1) (e 2) (e 7) (e 8))) (F160_j10 R (e 0) (e 1) (e 2) (e 7) (e 8)) _ _ (by kernel_rfl) (F160_j10_ok R e) rfl (by kernel_rfl))
def F160_j8 (R : ER) (x0 x1 x2 x7 x8 : Value) : WP :=
  pv (bin .add x8 x7) fun v29 =>
  blt Pg R .cap ⟨[99]⟩ 3 ⟨[false]⟩ ⟨[x0]⟩ fun v30 =>
  pv (bin .gtr v29 v30) fun v31 =>
  F160_j9 R x0 x1 x2 x7 x8 v31
theorem F160_j8_ok (R : ER) (e : Env) : den Pg R (cd Tryz.f160 [1,1,1,1,1,1,0]) e (setN (kont Pg R Tryz.f160) (fun e => F160_j3 R (e 0) (e 1) (e 2) (e 7) (e 8))) = (F160_j8 R (e 0) (e 1) (e 2) (e 7) (e 8)) := (den_join Pg R 0 (cd Tryz.f160 [1,1,1,1,1,1,0]) (cd Tryz.f160 [1,1,1,1,1,1,0,1]) e (setN (kont Pg R Tryz.f160) (fun e => F160_j3 R (e 0) (e 1) (e 2) (e 7) (e 8))) (fun e => F160_j9 R (e 0) (e 1) (e 2) (e 7) (e 8) (e 31)) _ (by kernel_rfl) (fun e => F160_j9_ok R e) (by kernel_rfl))
def F160_j2 (R : ER) (x0 x1 x2 x7 x8 : Value) : WP :=
  F160_j8 R x0 x1 x2 x7 x8
theorem F160_j2_ok (R : ER) (e : Env) : den Pg R (cd Tryz.f160 [1,1,1,1,1,1]) e (kont Pg R Tryz.f160) = (F160_j2 R (e 0) (e 1) (e 2) (e 7) (e 8)) := (den_join Pg R 0 (cd Tryz.f160 [1,1,1,1,1,1]) (cd Tryz.f160 [1,1,1,1,1,1,1]) e (kont Pg R Tryz.f160) (fun e => F160_j3 R (e 0) (e 1) (e 2) (e 7) (e 8)) _ (by kernel_rfl) (fun e => F160_j3_ok R e) (den_conv Pg R (pre 0 (cd Tryz.f160 [1,1,1,1,1,1])) (cd Tryz.f160 [1,1,1,1,1,1,0]) e (setN (kont Pg R Tryz.f160) (fun e => F160_j3 R (e 0) (e 1) (e 2) (e 7) (e 8))) _ (by kernel_rfl) (F160_j8_ok R e)))
def F160_j1 (R : ER) (x0 x1 x2 x7 : Value) : WP :=
  pv (lenS x0) fun v32 =>
  pv (bin .eql x1 v32) fun v33 =>
  cnd v33 (
   blt Pg R .append ⟨[99,99]⟩ 99 ⟨[false, false]⟩ ⟨[x0, x2]⟩ fun v34 =>
   R (.returned v34)) (
   F160_j2 R x0 x1 x2 x7 v32)
theorem F160_j1_ok (R : ER) (e : Env) : den Pg R (cd Tryz.f160 [1,1,1,1]) e (kont Pg R Tryz.f160) = (F160_j1 R (e 0) (e 1) (e 2) (e 7)) := (den_join Pg R 1 (cd Tryz.f160 [1,1,1,1]) (cd Tryz.f160 [1,1,1,1,1,1]) e (kont Pg R Tryz.f160) (fun e => F160_j2 R (e 0) (e 1) (e 2) (e 7) (e 8)) _ (by kernel_rfl) (fun e => F160_j2_ok R e) (by kernel_rfl))
def F160 (R : ER) (x0 x1 x2 : Value) : WP :=
  pv (slS 11 x0 (some x1) none) fun v35 =>
  pv (lenS x2) fun v36 =>
  pv (bin .eql v36 (.int .i64 0)) fun v37 =>
  cnd v37 (
   R (.returned x0)) (
   F160_j1 R x0 x1 x2 v36)
theorem F160_den (R : ER) (x0 x1 x2 : Value) : den Pg R (cd Tryz.f160 []) (argsEnv [x0, x1, x2]) (kont Pg R Tryz.f160) = F160 R x0 x1 x2 :=
  have h : ∀ e, den Pg R (cd Tryz.f160 []) e (kont Pg R Tryz.f160) = F160 R (e 0) (e 1) (e 2) := fun e => (den_join Pg R 3 (cd Tryz.f160 []) (cd Tryz.f160 [1,1,1,1]) e (kont Pg R Tryz.f160) (fun e => F160_j1 R (e 0) (e 1) (e 2) (e 7)) _ (by kernel_rfl) (fun e => F160_j1_ok R e) (by kernel_rfl))
  h _
theorem F160_calls {R : ER} {x0 x1 x2 : Value} {w : World} (h : F160 R x0 x1 x2 w) : Calls Pg 160 ⟨[x0, x1, x2]⟩ w R :=
  calls_of_den Tryz.func160 (by kernel_rfl) (by kernel_rfl) (F160_den R x0 x1 x2) h
/-! ### 163: slices_BinarySearchFunc_163 -/
def F163_j1 (R : ER) (x0 x1 x2 x8 x9 : Value) : WP :=
  pv (bin .lss x9 x8) fun v1 =>
  gd v1 true (pv (some x2)) fun v2 =>
  gd v1 true (pv (some x0)) fun v3 =>
  gd v1 true (pv (some x9)) fun v4 =>
  gd v1 true (pv (ixS 1 v3 v4)) fun v5 =>
  gd v1 true (ld1 v5) fun v6 =>
  gd v1 true (pv (some x1)) fun v7 =>
  gd v1 true (calD Pg R v2 ⟨[v6, v7]⟩) fun v8 =>
  gd v1 true (pv (bin .eql v8 (.int .i64 0))) fun v9 =>
  pv (pickO v1 v9 (.bool false)) fun v10 =>
  R (.returned (.tuple ⟨[x9, v10]⟩))
theorem F163_j1_ok (R : ER) (e : Env) : den Pg R (cd Tryz.f163 [1,1,1,1]) e (kont Pg R Tryz.f163) = (F163_j1 R (e 0) (e 1) (e 2) (e 8) (e 9)) := by kernel_rfl
def F163_j3 (R : ER) (k1 : V6) (x0 x1 x2 x8 x9 x10 : Value) : WP :=
  pv (bin .add x9 x10) fun v11 =>
  pv (cvI .u64 v11) fun v12 =>
  pv (bin .shr v12 (.int .u64 1)) fun v13 =>
  pv (cvI .i64 v13) fun v14 =>
  pv (ixS 1 x0 v14) fun v15 =>
  ld1 v15 fun v16 =>
  calD Pg R x2 ⟨[v16, x1]⟩ fun v17 =>
  pv (bin .lss v17 (.int .i64 0)) fun v18 =>
  cnd v18 (
   pv (bin .add v14 (.int .i64 1)) fun v19 =>
   k1 x0 x1 x2 x8 v19 x10) (
   k1 x0 x1 x2 x8 x9 v14)
theorem F163_j3_ok (R : ER) (k1 : V6) (e : Env) : den Pg R (cd Tryz.f163 [1,1,1,0,0,0,1]) e (setN (inB 0 (setN (kont Pg R Tryz.f163) (fun e => F163_j1 R (e 0) (e 1) (e 2) (e 8) (e 9)))) (fun e => k1 (e 0) (e 1) (e 2) (e 8) (e 9) (e 10))) = (F163_j3 R k1 (e 0) (e 1) (e 2) (e 8) (e 9) (e 10)) := (den_block Pg R (cd Tryz.f163 [1,1,1,0,0,0,1]) 1 (cd Tryz.f163 [1,1,1,0,0,0,1,0]) e (setN (inB 0 (setN (kont Pg R Tryz.f163) (fun e => F163_j1 R (e 0) (e 1) (e 2) (e 8) (e 9)))) (fun e => k1 (e 0) (e 1) (e 2) (e 8) (e 9) (e 10))) _ (by kernel_rfl) (by kernel_rfl))
def F163_b1 (R : ER) (k1 : V6) (x0 x1 x2 x8 x9 x10 : Value) : WP :=
  pv (bin .lss x9 x10) fun v20 =>
  cnd v20 (
   F163_j3 R k1 x0 x1 x2 x8 x9 x10) (
   F163_j1 R x0 x1 x2 x8 x9)
theorem F163_b1_ok (R : ER) (k1 : V6) (e : Env) : den Pg R (cd Tryz.f163 [1,1,1,0,0,0]) e (setN (inB 0 (setN (kont Pg R Tryz.f163) (fun e => F163_j1 R (e 0) (e 1) (e 2) (e 8) (e 9)))) (fun e => k1 (e 0) (e 1) (e 2) (e 8) (e 9) (e 10))) = (F163_b1 R k1 (e 0) (e 1) (e 2) (e 8) (e 9) (e 10)) := (den_join Pg R 0 (cd Tryz.f163 [1,1,1,0,0,0]) (cd Tryz.f163 [1,1,1,0,0,0,1]) e (setN (inB 0 (setN (kont Pg R Tryz.f163) (fun e => F163_j1 R (e 0) (e 1) (e 2) (e 8) (e 9)))) (fun e => k1 (e 0) (e 1) (e 2) (e 8) (e 9) (e 10))) (fun e => F163_j3 R k1 (e 0) (e 1) (e 2) (e 8) (e 9) (e 10)) _ (by kernel_rfl) (fun e => F163_j3_ok R k1 e) (by kernel_rfl))
noncomputable def F163_l1 (R : ER) (n : Nat) : V6 := Nat.rec (motive := fun _ => V6) (fun _ _ _ _ _ _ => fun _ => False) (fun _ ih => fun x0 x1 x2 x8 x9 x10 => F163_b1 R ih x0 x1 x2 x8 x9 x10) n
theorem F163_l1_succ (R : ER) (n : Nat) (x0 x1 x2 x8 x9 x10 : Value) : F163_l1 R (n + 1) x0 x1 x2 x8 x9 x10 = F163_b1 R (F163_l1 R n) x0 x1 x2 x8 x9 x10 := rfl
theorem F163_l1_ok (R : ER) : ∀ (n : Nat) (e : Env), iterL (den Pg R (cd Tryz.f163 [1,1,1,0,0,0])) n e (inB 0 (setN (kont Pg R Tryz.f163) (fun e => F163_j1 R (e 0) (e 1) (e 2) (e 8) (e 9)))) = F163_l1 R n (e 0) (e 1) (e 2) (e 8) (e 9) (e 10) :=
  iterL_join (den Pg R (cd Tryz.f163 [1,1,1,0,0,0])) (inB 0 (setN (kont Pg R Tryz.f163) (fun e => F163_j1 R (e 0) (e 1) (e 2) (e 8) (e 9)))) (fun n e => F163_l1 R n (e 0) (e 1) (e 2) (e 8) (e 9) (e 10)) (fun _ => rfl) (fun n e => (F163_b1_ok R (F163_l1 R n) e).trans (F163_l1_succ R n (e 0) (e 1) (e 2) (e 8) (e 9) (e 10)).symm)
def F163_j2 (R : ER) (x0 x1 x2 x8 x9 x10 : Value) : WP :=
  exN fun n => F163_l1 R n x0 x1 x2 x8 x9 x10
theorem F163_j2_ok (R : ER) (e : Env) : den Pg R (cd Tryz.f163 [1,1,1,0]) e (setN (kont Pg R Tryz.f163) (fun e => F163_j1 R (e 0) (e 1) (e 2) (e 8) (e 9))) = (F163_j2 R (e 0) (e 1) (e 2) (e 8) (e 9) (e 10)) := (den_block Pg R (cd Tryz.f163 [1,1,1,0]) 0 (cd Tryz.f163 [1,1,1,0,0]) e (setN (kont Pg R Tryz.f163) (fun e => F163_j1 R (e 0) (e 1) (e 2) (e 8) (e 9))) _ (by kernel_rfl) (den_loop Pg R (cd Tryz.f163 [1,1,1,0,0]) (cd Tryz.f163 [1,1,1,0,0,0]) e (inB 0 (setN (kont Pg R Tryz.f163) (fun e => F163_j1 R (e 0) (e 1) (e 2) (e 8) (e 9)))) (fun n e => F163_l1 R n (e 0) (e 1) (e 2) (e 8) (e 9) (e 10)) _ (by kernel_rfl) (F163_l1_ok R) (by kernel_rfl)))
def F163 (R : ER) (x0 x1 x2 : Value) : WP :=
  pv (lenS x0) fun v21 =>
  F163_j2 R x0 x1 x2 v21 (.int .i64 0) v21
theorem F163_den (R : ER) (x0 x1 x2 : Value) : den Pg R (cd Tryz.f163 []) (argsEnv [x0, x1, x2]) (kont Pg R Tryz.f163) = F163 R x0 x1 x2 :=
  have h : ∀ e, den Pg R (cd Tryz.f163 []) e (kont Pg R Tryz.f163) = F163 R (e 0) (e 1) (e 2) := fun e => (den_join Pg R 3 (cd Tryz.f163 []) (cd Tryz.f163 [1,1,1,1]) e (kont Pg R Tryz.f163) (fun e => F163_j1 R (e 0) (e 1) (e 2) (e 8) (e 9)) _ (by kernel_rfl) (fun e => F163_j1_ok R e) (den_join Pg R 2 (pre 3 (cd Tryz.f163 [])) (cd Tryz.f163 [1,1,1,0]) e (setN (kont Pg R Tryz.f163) (fun e => F163_j1 R (e 0) (e 1) (e 2) (e 8) (e 9))) (fun e => F163_j2 R (e 0) (e 1) (e 2) (e 8) (e 9) (e 10)) _ (by kernel_rfl) (fun e => F163_j2_ok R e) (by kernel_rfl)))
  h _
theorem F163_calls {R : ER} {x0 x1 x2 : Value} {w : World} (h : F163 R x0 x1 x2 w) : Calls Pg 163 ⟨[x0, x1, x2]⟩ w R :=
  calls_of_den Tryz.func163 (by kernel_rfl) (by kernel_rfl) (F163_den R x0 x1 x2) h
/-! ### 164: channels_Table_held_1 -/
def F164 (R : ER) (x0 x1 : Value) : WP :=
  pv (nilO x0) fun v1 =>
  pv (faO 0 v1) fun v2 =>
  ld1 v2 fun v3 =>
  cal Pg R 165 ⟨[v3, x1]⟩ fun v4 =>
  R (.returned v4)
theorem F164_den (R : ER) (x0 x1 : Value) : den Pg R (cd Tryz.f164 []) (argsEnv [x0, x1]) (kont Pg R Tryz.f164) = F164 R x0 x1 :=
  have h : ∀ e, den Pg R (cd Tryz.f164 []) e (kont Pg R Tryz.f164) = F164 R (e 0) (e 1) := fun e => by kernel_rfl
  h _
theorem F164_calls {R : ER} {x0 x1 : Value} {w : World} (h : F164 R x0 x1 w) : Calls Pg 164 ⟨[x0, x1]⟩ w R :=
  calls_of_den Tryz.func164 (by kernel_rfl) (by kernel_rfl) (F164_den R x0 x1) h
/-! ### 165: cmp_Compare_165 -/
def F165_j1 (R : ER) (x0 x1 x6 : Value) : WP :=
  cnd x6 (
   R (.returned (.int .i64 1))) (
   pv (bin .lss x0 x1) fun v1 =>
  cnd v1 (
   R (.returned (.int .i64 (-1)))) (
   pv (bin .gtr x0 x1) fun v2 =>
  cnd v2 (
   R (.returned (.int .i64 1))) (
   R (.returned (.int .i64 0)))))
theorem F165_j1_ok (R : ER) (e : Env) : den Pg R (cd Tryz.f165 [1,1,1,1]) e (kont Pg R Tryz.f165) = (F165_j1 R (e 0) (e 1) (e 6)) := by kernel_rfl
def F165 (R : ER) (x0 x1 : Value) : WP :=
  cal Pg R 177 ⟨[x0]⟩ fun v3 =>
  cal Pg R 177 ⟨[x1]⟩ fun v4 =>
  cnd v3 (
   cnd v4 (
    R (.returned (.int .i64 0))) (
    R (.returned (.int .i64 (-1))))) (
   F165_j1 R x0 x1 v4)
theorem F165_den (R : ER) (x0 x1 : Value) : den Pg R (cd Tryz.f165 []) (argsEnv [x0, x1]) (kont Pg R Tryz.f165) = F165 R x0 x1 :=
  have h : ∀ e, den Pg R (cd Tryz.f165 []) e (kont Pg R Tryz.f165) = F165 R (e 0) (e 1) := fun e => (den_join Pg R 3 (cd Tryz.f165 []) (cd Tryz.f165 [1,1,1,1]) e (kont Pg R Tryz.f165) (fun e => F165_j1 R (e 0) (e 1) (e 6)) _ (by kernel_rfl) (fun e => F165_j1_ok R e) (by kernel_rfl))
  h _
theorem F165_calls {R : ER} {x0 x1 : Value} {w : World} (h : F165 R x0 x1 w) : Calls Pg 165 ⟨[x0, x1]⟩ w R :=
  calls_of_den Tryz.func165 (by kernel_rfl) (by kernel_rfl) (F165_den R x0 x1) h
/-! ### 166: slices_IndexFunc_166 -/
def F166_j1 (R : ER) : WP :=
  R (.returned (.int .i64 (-1)))
theorem F166_j1_ok (R : ER) (e : Env) : den Pg R (cd Tryz.f166 [1,1]) e (kont Pg R Tryz.f166) = (F166_j1 R) := by kernel_rfl
def F166_j4 (R : ER) (k1 : V4) (x0 x1 x7 x8 : Value) : WP :=
  pv (ixS 1 x0 x8) fun v1 =>
  ld1 v1 fun v2 =>
  calD Pg R x1 ⟨[v2]⟩ fun v3 =>
  cnd v3 (
   R (.returned x8)) (
   pv (bin .add x8 (.int .i64 1)) fun v4 =>
  k1 x0 x1 x7 v4)
theorem F166_j4_ok (R : ER) (k1 : V4) (e : Env) : den Pg R (cd Tryz.f166 [1,0,1,0,0,1,1]) e (setN (inB 0 (setN (kont Pg R Tryz.f166) (fun e => F166_j1 R))) (fun e => k1 (e 0) (e 1) (e 7) (e 8))) = (F166_j4 R k1 (e 0) (e 1) (e 7) (e 8)) := by kernel_rfl
def F166_b1 (R : ER) (k1 : V4) (x0 x1 x7 x8 : Value) : WP :=
  pv (bin .lss x8 x7) fun v5 =>
  cnd v5 (
   F166_j4 R k1 x0 x1 x7 x8) (
   F166_j1 R)
theorem F166_b1_ok (R : ER) (k1 : V4) (e : Env) : den Pg R (cd Tryz.f166 [1,0,1,0,0]) e (setN (inB 0 (setN (kont Pg R Tryz.f166) (fun e => F166_j1 R))) (fun e => k1 (e 0) (e 1) (e 7) (e 8))) = (F166_b1 R k1 (e 0) (e 1) (e 7) (e 8)) := (den_join Pg R 1 (cd Tryz.f166 [1,0,1,0,0]) (cd Tryz.f166 [1,0,1,0,0,1,1]) e (setN (inB 0 (setN (kont Pg R Tryz.f166) (fun e => F166_j1 R))) (fun e => k1 (e 0) (e 1) (e 7) (e 8))) (fun e => F166_j4 R k1 (e 0) (e 1) (e 7) (e 8)) _ (by kernel_rfl) (fun e => F166_j4_ok R k1 e) (by kernel_rfl))
noncomputable def F166_l1 (R : ER) (n : Nat) : V4 := Nat.rec (motive := fun _ => V4) (fun _ _ _ _ => fun _ => False) (fun _ ih => fun x0 x1 x7 x8 => F166_b1 R ih x0 x1 x7 x8) n
theorem F166_l1_succ (R : ER) (n : Nat) (x0 x1 x7 x8 : Value) : F166_l1 R (n + 1) x0 x1 x7 x8 = F166_b1 R (F166_l1 R n) x0 x1 x7 x8 := rfl
theorem F166_l1_ok (R : ER) : ∀ (n : Nat) (e : Env), iterL (den Pg R (cd Tryz.f166 [1,0,1,0,0])) n e (inB 0 (setN (kont Pg R Tryz.f166) (fun e => F166_j1 R))) = F166_l1 R n (e 0) (e 1) (e 7) (e 8) :=
  iterL_join (den Pg R (cd Tryz.f166 [1,0,1,0,0])) (inB 0 (setN (kont Pg R Tryz.f166) (fun e => F166_j1 R))) (fun n e => F166_l1 R n (e 0) (e 1) (e 7) (e 8)) (fun _ => rfl) (fun n e => (F166_b1_ok R (F166_l1 R n) e).trans (F166_l1_succ R n (e 0) (e 1) (e 7) (e 8)).symm)
def F166_j3 (R : ER) (x0 x1 x7 x8 : Value) : WP :=
  exN fun n => F166_l1 R n x0 x1 x7 x8
theorem F166_j3_ok (R : ER) (e : Env) : den Pg R (cd Tryz.f166 [1,0,1]) e (setN (kont Pg R Tryz.f166) (fun e => F166_j1 R)) = (F166_j3 R (e 0) (e 1) (e 7) (e 8)) := (den_block Pg R (cd Tryz.f166 [1,0,1]) 0 (cd Tryz.f166 [1,0,1,0]) e (setN (kont Pg R Tryz.f166) (fun e => F166_j1 R)) _ (by kernel_rfl) (den_loop Pg R (cd Tryz.f166 [1,0,1,0]) (cd Tryz.f166 [1,0,1,0,0]) e (inB 0 (setN (kont Pg R Tryz.f166) (fun e => F166_j1 R))) (fun n e => F166_l1 R n (e 0) (e 1) (e 7) (e 8)) _ (by kernel_rfl) (F166_l1_ok R) (by kernel_rfl)))
def F166_j2 (R : ER) (x0 x1 : Value) : WP :=
  pv (lenS x0) fun v6 =>
  F166_j3 R x0 x1 v6 (.int .i64 0)
theorem F166_j2_ok (R : ER) (e : Env) : den Pg R (cd Tryz.f166 [1,0]) e (setN (kont Pg R Tryz.f166) (fun e => F166_j1 R)) = (F166_j2 R (e 0) (e 1)) := (den_join Pg R 0 (cd Tryz.f166 [1,0]) (cd Tryz.f166 [1,0,1]) e (setN (kont Pg R Tryz.f166) (fun e => F166_j1 R)) (fun e => F166_j3 R (e 0) (e 1) (e 7) (e 8)) _ (by kernel_rfl) (fun e => F166_j3_ok R e) (by kernel_rfl))
def F166 (R : ER) (x0 x1 : Value) : WP :=
  F166_j2 R x0 x1
theorem F166_den (R : ER) (x0 x1 : Value) : den Pg R (cd Tryz.f166 []) (argsEnv [x0, x1]) (kont Pg R Tryz.f166) = F166 R x0 x1 :=
  have h : ∀ e, den Pg R (cd Tryz.f166 []) e (kont Pg R Tryz.f166) = F166 R (e 0) (e 1) := fun e => (den_join Pg R 1 (cd Tryz.f166 []) (cd Tryz.f166 [1,1]) e (kont Pg R Tryz.f166) (fun e => F166_j1 R) _ (by kernel_rfl) (fun e => F166_j1_ok R e) (den_join Pg R 0 (pre 1 (cd Tryz.f166 [])) (cd Tryz.f166 [1,0]) e (setN (kont Pg R Tryz.f166) (fun e => F166_j1 R)) (fun e => F166_j2 R (e 0) (e 1)) _ (by kernel_rfl) (fun e => F166_j2_ok R e) (by kernel_rfl)))
  h _
theorem F166_calls {R : ER} {x0 x1 : Value} {w : World} (h : F166 R x0 x1 w) : Calls Pg 166 ⟨[x0, x1]⟩ w R :=
  calls_of_den Tryz.func166 (by kernel_rfl) (by kernel_rfl) (F166_den R x0 x1) h
/-! ### 177: cmp_isNaN_177 -/
def F177 (R : ER) (x0 : Value) : WP :=
  pv (bin .neq x0 x0) fun v1 =>
  R (.returned v1)
theorem F177_den (R : ER) (x0 : Value) : den Pg R (cd Tryz.f177 []) (argsEnv [x0]) (kont Pg R Tryz.f177) = F177 R x0 :=
  have h : ∀ e, den Pg R (cd Tryz.f177 []) e (kont Pg R Tryz.f177) = F177 R (e 0) := fun e => by kernel_rfl
  h _
theorem F177_calls {R : ER} {x0 : Value} {w : World} (h : F177 R x0 w) : Calls Pg 177 ⟨[x0]⟩ w R :=
  calls_of_den Tryz.func177 (by kernel_rfl) (by kernel_rfl) (F177_den R x0) h
end Go.Proofs.YtmkcjopacmadhaaGreat.Den
