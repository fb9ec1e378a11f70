/- Printed by a program of this session: what the functions mean, and that the model means just that. Conditions: none. -/
import Derived.Test.YtmnpndgmfmjfhaaQ4
section
set_option linter.unusedVariables false
set_option maxRecDepth 100000
namespace Go.Proofs.Ytmnpndgmfmjfhaa.Den
open Go
/-! ### 28: F28 -/
def F28_j1 (R : ER) (x0 x3 : Value) : WP :=
  pv (lenS x0) fun v1 =>
  pv (bin .gtr v1 (.int .i64 40)) fun v2 =>
  gd v2 false (pv (some x3)) fun v3 =>
  gd v2 false (pv (bin .gtr v3 (.int .i64 12000))) fun v4 =>
  pv (pickO v2 (.bool true) v4) fun v5 =>
  R (.returned v5)
theorem F28_j1_ok (R : ER) (e : Env) : den Pg R (cd Try.f28 [1,1,1]) e (kont Pg R Try.f28) = (F28_j1 R (e 0) (e 3)) := by kernel_rfl
def F28_j4 (R : ER) (k1 : V5) (x0 x3 x6 x7 x8 : Value) : WP :=
  pv (ixS 5 x6 x8) fun v6 =>
  ldN 5 v6 fun v7 =>
  al Pg 65 fun v8 =>
  stN 5 v8 v7 fun _ =>
  pv (faO 3 v8) fun v9 =>
  ld1 v9 fun v10 =>
  pv (lenS v10) fun v11 =>
  pv (bin .add x3 v11) fun v12 =>
  pv (bin .add x8 (.int .i64 1)) fun v13 =>
  k1 x0 v12 x6 x7 v13
theorem F28_j4_ok (R : ER) (k1 : V5) (e : Env) : den Pg R (cd Try.f28 [1,1,0,1,0,0,1,1]) e (setN (inB 0 (setN (kont Pg R Try.f28) (fun e => F28_j1 R (e 0) (e 3)))) (fun e => k1 (e 0) (e 3) (e 6) (e 7) (e 8))) = (F28_j4 R k1 (e 0) (e 3) (e 6) (e 7) (e 8)) := by kernel_rfl
def F28_b1 (R : ER) (k1 : V5) (x0 x3 x6 x7 x8 : Value) : WP :=
  pv (bin .lss x8 x7) fun v14 =>
  cnd v14 (
   F28_j4 R k1 x0 x3 x6 x7 x8) (
   F28_j1 R x0 x3)
theorem F28_b1_ok (R : ER) (k1 : V5) (e : Env) : den Pg R (cd Try.f28 [1,1,0,1,0,0]) e (setN (inB 0 (setN (kont Pg R Try.f28) (fun e => F28_j1 R (e 0) (e 3)))) (fun e => k1 (e 0) (e 3) (e 6) (e 7) (e 8))) = (F28_b1 R k1 (e 0) (e 3) (e 6) (e 7) (e 8)) := (den_join Pg R 1 (cd Try.f28 [1,1,0,1,0,0]) (cd Try.f28 [1,1,0,1,0,0,1,1]) e (setN (inB 0 (setN (kont Pg R Try.f28) (fun e => F28_j1 R (e 0) (e 3)))) (fun e => k1 (e 0) (e 3) (e 6) (e 7) (e 8))) (fun e => F28_j4 R k1 (e 0) (e 3) (e 6) (e 7) (e 8)) _ (by kernel_rfl) (fun e => F28_j4_ok R k1 e) (by kernel_rfl))
noncomputable def F28_l1 (R : ER) (n : Nat) : V5 := Nat.rec (motive := fun _ => V5) (fun _ _ _ _ _ => fun _ => False) (fun _ ih => fun x0 x3 x6 x7 x8 => F28_b1 R ih x0 x3 x6 x7 x8) n
theorem F28_l1_succ (R : ER) (n : Nat) (x0 x3 x6 x7 x8 : Value) : F28_l1 R (n + 1) x0 x3 x6 x7 x8 = F28_b1 R (F28_l1 R n) x0 x3 x6 x7 x8 := rfl
theorem F28_l1_ok (R : ER) : ∀ (n : Nat) (e : Env), iterL (den Pg R (cd Try.f28 [1,1,0,1,0,0])) n e (inB 0 (setN (kont Pg R Try.f28) (fun e => F28_j1 R (e 0) (e 3)))) = F28_l1 R n (e 0) (e 3) (e 6) (e 7) (e 8) :=
  iterL_join (den Pg R (cd Try.f28 [1,1,0,1,0,0])) (inB 0 (setN (kont Pg R Try.f28) (fun e => F28_j1 R (e 0) (e 3)))) (fun n e => F28_l1 R n (e 0) (e 3) (e 6) (e 7) (e 8)) (fun _ => rfl) (fun n e => (F28_b1_ok R (F28_l1 R n) e).trans (F28_l1_succ R n (e 0) (e 3) (e 6) (e 7) (e 8)).symm)
def F28_j3 (R : ER) (x0 x3 x6 x7 x8 : Value) : WP :=
  exN fun n => F28_l1 R n x0 x3 x6 x7 x8
theorem F28_j3_ok (R : ER) (e : Env) : den Pg R (cd Try.f28 [1,1,0,1]) e (setN (kont Pg R Try.f28) (fun e => F28_j1 R (e 0) (e 3))) = (F28_j3 R (e 0) (e 3) (e 6) (e 7) (e 8)) := (den_block Pg R (cd Try.f28 [1,1,0,1]) 0 (cd Try.f28 [1,1,0,1,0]) e (setN (kont Pg R Try.f28) (fun e => F28_j1 R (e 0) (e 3))) _ (by kernel_rfl) (den_loop Pg R (cd Try.f28 [1,1,0,1,0]) (cd Try.f28 [1,1,0,1,0,0]) e (inB 0 (setN (kont Pg R Try.f28) (fun e => F28_j1 R (e 0) (e 3)))) (fun n e => F28_l1 R n (e 0) (e 3) (e 6) (e 7) (e 8)) _ (by kernel_rfl) (F28_l1_ok R) (by kernel_rfl)))
def F28_j2 (R : ER) (x0 x3 : Value) : WP :=
  pv (lenS x0) fun v15 =>
  F28_j3 R x0 x3 x0 v15 (.int .i64 0)
theorem F28_j2_ok (R : ER) (e : Env) : den Pg R (cd Try.f28 [1,1,0]) e (setN (kont Pg R Try.f28) (fun e => F28_j1 R (e 0) (e 3))) = (F28_j2 R (e 0) (e 3)) := (den_join Pg R 0 (cd Try.f28 [1,1,0]) (cd Try.f28 [1,1,0,1]) e (setN (kont Pg R Try.f28) (fun e => F28_j1 R (e 0) (e 3))) (fun e => F28_j3 R (e 0) (e 3) (e 6) (e 7) (e 8)) _ (by kernel_rfl) (fun e => F28_j3_ok R e) (by kernel_rfl))
def F28 (R : ER) (x0 : Value) : WP :=
  F28_j2 R x0 (.int .i64 0)
theorem orpimentlaw35_long_den (R : ER) (x0 : Value) : den Pg R (cd Try.f28 []) (argsEnv [x0]) (kont Pg R Try.f28) = F28 R x0 :=
  have h : ∀ e, den Pg R (cd Try.f28 []) e (kont Pg R Try.f28) = F28 R (e 0) := fun e => (den_join Pg R 2 (cd Try.f28 []) (cd Try.f28 [1,1,1]) e (kont Pg R Try.f28) (fun e => F28_j1 R (e 0) (e 3)) _ (by kernel_rfl) (fun e => F28_j1_ok R e) (den_join Pg R 1 (pre 2 (cd Try.f28 [])) (cd Try.f28 [1,1,0]) e (setN (kont Pg R Try.f28) (fun e => F28_j1 R (e 0) (e 3))) (fun e => F28_j2 R (e 0) (e 3)) _ (by kernel_rfl) (fun e => F28_j2_ok R e) (by kernel_rfl)))
  h _
theorem F28_calls {R : ER} {x0 : Value} {w : World} (h : F28 R x0 w) : Calls Pg 28 ⟨[x0]⟩ w R :=
  calls_of_den Try.func28 (by kernel_rfl) (by kernel_rfl) (orpimentlaw35_long_den R x0) h
/-! ### 29: F29 -/
def F29_j2 (R : ER) (x0 x1 x2 x3 : Value) : WP :=
  valV Pg R (Instr.buildSlice 92 1 ⟨[(0, (.bool true))]⟩) fun v1 =>
  cal Pg R 48 ⟨[v1, x0]⟩ fun v2 =>
  pv (bldO [.int .i64 0, .bool false, .int .i64 0, .int .i64 0, .slice none 0 0] [(0,1, (.int .i64 2)), (2,1, (.int .i64 1))]) fun v3 =>
  pv (bldO [.slice none 0 0, .int .i64 0, .int .i64 0, .int .i64 0, .int .i64 0, .slice none 0 0, .int .i64 0, .int .i64 0, .int .i64 0, .int .i64 0, .bool false, .int .i64 0, .bool false, .int .i64 0, .int .i64 0, .slice none 0 0, .slice none 0 0, .slice none 0 0] [(0,1, v2), (1,1, x1), (2,1, x2), (3,1, x3), (11,5, v3)]) fun v4 =>
  bx 96 v4 fun v5 =>
  R (.returned (.tuple ⟨[v5, (.int .i64 0)]⟩))
theorem F29_j2_ok (R : ER) (e : Env) : den Pg R (cd Try.f29 [1,1,1]) e (kont Pg R Try.f29) = (F29_j2 R (e 0) (e 1) (e 2) (e 3)) := by kernel_rfl
def F29_j1 (R : ER) (x0 x1 x2 x3 : Value) : WP :=
  pv (bin .lss x2 (.int .i64 0)) fun v6 =>
  gd v6 false (pv (some x2)) fun v7 =>
  gd v6 false (pv (bin .gtr v7 (.int .i64 2))) fun v8 =>
  pv (pickO v6 (.bool true) v8) fun v9 =>
  cnd v9 (
   R (.returned (.tuple ⟨[(.pointer none), (.int .i64 17)]⟩))) (
   F29_j2 R x0 x1 x2 x3)
theorem F29_j1_ok (R : ER) (e : Env) : den Pg R (cd Try.f29 [1,1]) e (kont Pg R Try.f29) = (F29_j1 R (e 0) (e 1) (e 2) (e 3)) := (den_join Pg R 0 (cd Try.f29 [1,1]) (cd Try.f29 [1,1,1]) e (kont Pg R Try.f29) (fun e => F29_j2 R (e 0) (e 1) (e 2) (e 3)) _ (by kernel_rfl) (fun e => F29_j2_ok R e) (by kernel_rfl))
def F29_j3 (R : ER) (x0 x1 x2 x3 : Value) : WP :=
  pv (bin .lss x0 (.int .i64 1)) fun v10 =>
  gd v10 false (pv (some x0)) fun v11 =>
  gd v10 false (pv (bin .gtr v11 (.int .i64 8))) fun v12 =>
  pv (pickO v10 (.bool true) v12) fun v13 =>
  gd v13 false (pv (some x1)) fun v14 =>
  gd v13 false (pv (bin .lss v14 (.int .i64 32))) fun v15 =>
  pv (pickO v13 (.bool true) v15) fun v16 =>
  gd v16 false (pv (some x1)) fun v17 =>
  gd v16 false (pv (bin .gtr v17 (.int .i64 4096))) fun v18 =>
  pv (pickO v16 (.bool true) v18) fun v19 =>
  gd v19 false (pv (some x3)) fun v20 =>
  gd v19 false (pv (bin .lss v20 (.int .i64 1))) fun v21 =>
  pv (pickO v19 (.bool true) v21) fun v22 =>
  gd v22 false (pv (some x3)) fun v23 =>
  gd v22 false (pv (bin .gtr v23 (.int .i64 1099511627776))) fun v24 =>
  pv (pickO v22 (.bool true) v24) fun v25 =>
  cnd v25 (
   R (.returned (.tuple ⟨[(.pointer none), (.int .i64 34)]⟩))) (
   F29_j1 R x0 x1 x2 x3)
theorem F29_j3_ok (R : ER) (e : Env) : den Pg R (cd Try.f29 [1,0]) e (setN (kont Pg R Try.f29) (fun e => F29_j1 R (e 0) (e 1) (e 2) (e 3))) = (F29_j3 R (e 0) (e 1) (e 2) (e 3)) := (by kernel_rfl)
def F29 (R : ER) (x0 x1 x2 x3 : Value) : WP :=
  F29_j3 R x0 x1 x2 x3
theorem links_New_den (R : ER) (x0 x1 x2 x3 : Value) : den Pg R (cd Try.f29 []) (argsEnv [x0, x1, x2, x3]) (kont Pg R Try.f29) = F29 R x0 x1 x2 x3 :=
  have h : ∀ e, den Pg R (cd Try.f29 []) e (kont Pg R Try.f29) = F29 R (e 0) (e 1) (e 2) (e 3) := fun e => (den_join Pg R 1 (cd Try.f29 []) (cd Try.f29 [1,1]) e (kont Pg R Try.f29) (fun e => F29_j1 R (e 0) (e 1) (e 2) (e 3)) _ (by kernel_rfl) (fun e => F29_j1_ok R e) (den_join Pg R 0 (pre 1 (cd Try.f29 [])) (cd Try.f29 [1,0]) e (setN (kont Pg R Try.f29) (fun e => F29_j1 R (e 0) (e 1) (e 2) (e 3))) (fun e => F29_j3 R (e 0) (e 1) (e 2) (e 3)) _ (by kernel_rfl) (fun e => F29_j3_ok R e) (by kernel_rfl)))
  h _
theorem F29_calls {R : ER} {x0 x1 x2 x3 : Value} {w : World} (h : F29 R x0 x1 x2 x3 w) : Calls Pg 29 ⟨[x0, x1, x2, x3]⟩ w R :=
  calls_of_den Try.func29 (by kernel_rfl) (by kernel_rfl) (links_New_den R x0 x1 x2 x3) h
/-! ### 30: F30 -/
def F30_j3 (R : ER) (x10 : Value) : WP :=
  R (.returned (.tuple ⟨[x10, (.int .i64 0)]⟩))
theorem F30_j3_ok (R : ER) (e : Env) : den Pg R (cd Try.f30 [1,1,1,1,1]) e (kont Pg R Try.f30) = (F30_j3 R (e 10)) := by kernel_rfl
def F30_j6 (R : ER) (k1 : V3) (x0 x10 x11 : Value) : WP :=
  pv (nilO x10) fun v1 =>
  pv (faO 0 v1) fun v2 =>
  ld1 v2 fun v3 =>
  valV Pg R (Instr.buildSlice 92 1 ⟨[(0, (.bool true))]⟩) fun v4 =>
  blt Pg R .append ⟨[92,92]⟩ 92 ⟨[false, false]⟩ ⟨[v3, v4]⟩ fun v5 =>
  pv (nilO x10) fun v6 =>
  pv (faO 0 v6) fun v7 =>
  st1 v7 v5 fun _ =>
  pv (bin .add x11 (.int .i64 1)) fun v8 =>
  k1 x0 x10 v8
theorem F30_j6_ok (R : ER) (k1 : V3) (e : Env) : den Pg R (cd Try.f30 [1,1,1,1,0,1,0,0,1]) e (setN (inB 0 (setN (kont Pg R Try.f30) (fun e => F30_j3 R (e 10)))) (fun e => k1 (e 0) (e 10) (e 11))) = (F30_j6 R k1 (e 0) (e 10) (e 11)) := by kernel_rfl
def F30_b1 (R : ER) (k1 : V3) (x0 x10 x11 : Value) : WP :=
  pv (bin .lss x11 x0) fun v9 =>
  cnd v9 (
   F30_j6 R k1 x0 x10 x11) (
   F30_j3 R x10)
theorem F30_b1_ok (R : ER) (k1 : V3) (e : Env) : den Pg R (cd Try.f30 [1,1,1,1,0,1,0,0]) e (setN (inB 0 (setN (kont Pg R Try.f30) (fun e => F30_j3 R (e 10)))) (fun e => k1 (e 0) (e 10) (e 11))) = (F30_b1 R k1 (e 0) (e 10) (e 11)) := (den_join Pg R 0 (cd Try.f30 [1,1,1,1,0,1,0,0]) (cd Try.f30 [1,1,1,1,0,1,0,0,1]) e (setN (inB 0 (setN (kont Pg R Try.f30) (fun e => F30_j3 R (e 10)))) (fun e => k1 (e 0) (e 10) (e 11))) (fun e => F30_j6 R k1 (e 0) (e 10) (e 11)) _ (by kernel_rfl) (fun e => F30_j6_ok R k1 e) (by kernel_rfl))
noncomputable def F30_l1 (R : ER) (n : Nat) : V3 := Nat.rec (motive := fun _ => V3) (fun _ _ _ => fun _ => False) (fun _ ih => fun x0 x10 x11 => F30_b1 R ih x0 x10 x11) n
theorem F30_l1_succ (R : ER) (n : Nat) (x0 x10 x11 : Value) : F30_l1 R (n + 1) x0 x10 x11 = F30_b1 R (F30_l1 R n) x0 x10 x11 := rfl
theorem F30_l1_ok (R : ER) : ∀ (n : Nat) (e : Env), iterL (den Pg R (cd Try.f30 [1,1,1,1,0,1,0,0])) n e (inB 0 (setN (kont Pg R Try.f30) (fun e => F30_j3 R (e 10)))) = F30_l1 R n (e 0) (e 10) (e 11) :=
  iterL_join (den Pg R (cd Try.f30 [1,1,1,1,0,1,0,0])) (inB 0 (setN (kont Pg R Try.f30) (fun e => F30_j3 R (e 10)))) (fun n e => F30_l1 R n (e 0) (e 10) (e 11)) (fun _ => rfl) (fun n e => (F30_b1_ok R (F30_l1 R n) e).trans (F30_l1_succ R n (e 0) (e 10) (e 11)).symm)
def F30_j5 (R : ER) (x0 x10 x11 : Value) : WP :=
  exN fun n => F30_l1 R n x0 x10 x11
theorem F30_j5_ok (R : ER) (e : Env) : den Pg R (cd Try.f30 [1,1,1,1,0,1]) e (setN (kont Pg R Try.f30) (fun e => F30_j3 R (e 10))) = (F30_j5 R (e 0) (e 10) (e 11)) := (den_block Pg R (cd Try.f30 [1,1,1,1,0,1]) 0 (cd Try.f30 [1,1,1,1,0,1,0]) e (setN (kont Pg R Try.f30) (fun e => F30_j3 R (e 10))) _ (by kernel_rfl) (den_loop Pg R (cd Try.f30 [1,1,1,1,0,1,0]) (cd Try.f30 [1,1,1,1,0,1,0,0]) e (inB 0 (setN (kont Pg R Try.f30) (fun e => F30_j3 R (e 10)))) (fun n e => F30_l1 R n (e 0) (e 10) (e 11)) _ (by kernel_rfl) (F30_l1_ok R) (by kernel_rfl)))
def F30_j4 (R : ER) (x0 x10 : Value) : WP :=
  F30_j5 R x0 x10 (.int .i64 0)
theorem F30_j4_ok (R : ER) (e : Env) : den Pg R (cd Try.f30 [1,1,1,1,0]) e (setN (kont Pg R Try.f30) (fun e => F30_j3 R (e 10))) = (F30_j4 R (e 0) (e 10)) := (den_join Pg R 0 (cd Try.f30 [1,1,1,1,0]) (cd Try.f30 [1,1,1,1,0,1]) e (setN (kont Pg R Try.f30) (fun e => F30_j3 R (e 10))) (fun e => F30_j5 R (e 0) (e 10) (e 11)) _ (by kernel_rfl) (fun e => F30_j5_ok R e) (by kernel_rfl))
def F30_j2 (R : ER) (x0 x1 x2 x3 : Value) : WP :=
  pv (bldO [.slice none 0 0, .int .i64 0, .int .i64 0, .int .i64 0, .int .i64 0, .slice none 0 0, .int .i64 0, .int .i64 0, .int .i64 0, .int .i64 0, .bool false, .int .i64 0, .int .i64 0, .slice none 0 0, .slice none 0 0] [(1,1, x1), (2,1, x2), (3,1, x3), (11,1, (.int .i64 1))]) fun v10 =>
  bx 125 v10 fun v11 =>
  F30_j4 R x0 v11
theorem F30_j2_ok (R : ER) (e : Env) : den Pg R (cd Try.f30 [1,1,1]) e (kont Pg R Try.f30) = (F30_j2 R (e 0) (e 1) (e 2) (e 3)) := (den_join Pg R 1 (cd Try.f30 [1,1,1]) (cd Try.f30 [1,1,1,1,1]) e (kont Pg R Try.f30) (fun e => F30_j3 R (e 10)) _ (by kernel_rfl) (fun e => F30_j3_ok R e) (den_join Pg R 0 (pre 1 (cd Try.f30 [1,1,1])) (cd Try.f30 [1,1,1,1,0]) e (setN (kont Pg R Try.f30) (fun e => F30_j3 R (e 10))) (fun e => F30_j4 R (e 0) (e 10)) _ (by kernel_rfl) (fun e => F30_j4_ok R e) (by kernel_rfl)))
def F30_j1 (R : ER) (x0 x1 x2 x3 : Value) : WP :=
  pv (bin .lss x2 (.int .i64 0)) fun v12 =>
  gd v12 false (pv (some x2)) fun v13 =>
  gd v12 false (pv (bin .gtr v13 (.int .i64 2))) fun v14 =>
  pv (pickO v12 (.bool true) v14) fun v15 =>
  cnd v15 (
   R (.returned (.tuple ⟨[(.pointer none), (.int .i64 17)]⟩))) (
   F30_j2 R x0 x1 x2 x3)
theorem F30_j1_ok (R : ER) (e : Env) : den Pg R (cd Try.f30 [1,1]) e (kont Pg R Try.f30) = (F30_j1 R (e 0) (e 1) (e 2) (e 3)) := (den_join Pg R 0 (cd Try.f30 [1,1]) (cd Try.f30 [1,1,1]) e (kont Pg R Try.f30) (fun e => F30_j2 R (e 0) (e 1) (e 2) (e 3)) _ (by kernel_rfl) (fun e => F30_j2_ok R e) (by kernel_rfl))
def F30_j7 (R : ER) (x0 x1 x2 x3 : Value) : WP :=
  pv (bin .lss x0 (.int .i64 1)) fun v16 =>
  gd v16 false (pv (some x0)) fun v17 =>
  gd v16 false (pv (bin .gtr v17 (.int .i64 8))) fun v18 =>
  pv (pickO v16 (.bool true) v18) fun v19 =>
  gd v19 false (pv (some x1)) fun v20 =>
  gd v19 false (pv (bin .lss v20 (.int .i64 32))) fun v21 =>
  pv (pickO v19 (.bool true) v21) fun v22 =>
  gd v22 false (pv (some x1)) fun v23 =>
  gd v22 false (pv (bin .gtr v23 (.int .i64 4096))) fun v24 =>
  pv (pickO v22 (.bool true) v24) fun v25 =>
  gd v25 false (pv (some x3)) fun v26 =>
  gd v25 false (pv (bin .lss v26 (.int .i64 1))) fun v27 =>
  pv (pickO v25 (.bool true) v27) fun v28 =>
  gd v28 false (pv (some x3)) fun v29 =>
  gd v28 false (pv (bin .gtr v29 (.int .i64 1099511627776))) fun v30 =>
  pv (pickO v28 (.bool true) v30) fun v31 =>
  cnd v31 (
   R (.returned (.tuple ⟨[(.pointer none), (.int .i64 34)]⟩))) (
   F30_j1 R x0 x1 x2 x3)
theorem F30_j7_ok (R : ER) (e : Env) : den Pg R (cd Try.f30 [1,0]) e (setN (kont Pg R Try.f30) (fun e => F30_j1 R (e 0) (e 1) (e 2) (e 3))) = (F30_j7 R (e 0) (e 1) (e 2) (e 3)) := (by kernel_rfl)
def F30 (R : ER) (x0 x1 x2 x3 : Value) : WP :=
  F30_j7 R x0 x1 x2 x3
theorem orpimentref35_New_den (R : ER) (x0 x1 x2 x3 : Value) : den Pg R (cd Try.f30 []) (argsEnv [x0, x1, x2, x3]) (kont Pg R Try.f30) = F30 R x0 x1 x2 x3 :=
  have h : ∀ e, den Pg R (cd Try.f30 []) e (kont Pg R Try.f30) = F30 R (e 0) (e 1) (e 2) (e 3) := fun e => (den_join Pg R 1 (cd Try.f30 []) (cd Try.f30 [1,1]) e (kont Pg R Try.f30) (fun e => F30_j1 R (e 0) (e 1) (e 2) (e 3)) _ (by kernel_rfl) (fun e => F30_j1_ok R e) (den_join Pg R 0 (pre 1 (cd Try.f30 [])) (cd Try.f30 [1,0]) e (setN (kont Pg R Try.f30) (fun e => F30_j1 R (e 0) (e 1) (e 2) (e 3))) (fun e => F30_j7 R (e 0) (e 1) (e 2) (e 3)) _ (by kernel_rfl) (fun e => F30_j7_ok R e) (by kernel_rfl)))
  h _
theorem F30_calls {R : ER} {x0 x1 x2 x3 : Value} {w : World} (h : F30 R x0 x1 x2 x3 w) : Calls Pg 30 ⟨[x0, x1, x2, x3]⟩ w R :=
  calls_of_den Try.func30 (by kernel_rfl) (by kernel_rfl) (orpimentref35_New_den R x0 x1 x2 x3) h
/-! ### 31: F31 -/
def F31 (R : ER) (x0 x1 x2 : Value) : WP :=
  bx 65 x2 fun v1 =>
  pv (faO 0 v1) fun v2 =>
  ld1 v2 fun v3 =>
  pv (bin .eql v3 (.int .i64 0)) fun v4 =>
  cnd v4 (
   drewV (
   pv (faO 1 v1) fun v5 =>
   ld1 v5 fun v6 =>
   pv (faO 2 v1) fun v7 =>
   ld1 v7 fun v8 =>
   mem fun w10 => cal Pg noR 24 ⟨[x0, v6, v8]⟩ fun v9 =>
   pv (faO 1 v1) fun v11 =>
   ld1S [w10] v11 fun v12 =>
   pv (faO 2 v1) fun v13 =>
   ld1S [w10] v13 fun v14 =>
   mem fun w16 => cal Pg noR 49 ⟨[x1, v12, v14]⟩ fun v15 =>
   pv (bin .eql v9 v15) fun v17 =>
   R (.returned v17))) (
   pv (bin .eql v3 (.int .i64 1)) fun v18 =>
   cnd v18 (
    drewV (
    pv (faO 3 v1) fun v19 =>
    ld1 v19 fun v20 =>
    mem fun w22 => cal Pg noR 26 ⟨[v20]⟩ fun v21 =>
    pv (faO 4 v1) fun v23 =>
    ld1S [w22] v23 fun v24 =>
    mem fun w26 => cal Pg noR 12 ⟨[x0, v21, v24]⟩ fun v25 =>
    pv (extO 0 v25) fun v27 =>
    pv (extO 1 v25) fun v28 =>
    pv (faO 3 v1) fun v29 =>
    ld1 v29 fun v30 =>
    pv (faO 4 v1) fun v31 =>
    ld1 v31 fun v32 =>
    cal Pg R 50 ⟨[x1, v30, v32]⟩ fun v33 =>
    pv (extO 0 v33) fun v34 =>
    pv (extO 1 v33) fun v35 =>
    pv (bin .eql v27 v34) fun v36 =>
    gd v36 true (pv (some v28)) fun v37 =>
    gd v36 true (pv (some v35)) fun v38 =>
    gd v36 true (pv (bin .eql v37 v38)) fun v39 =>
    pv (pickO v36 v39 (.bool false)) fun v40 =>
    R (.returned v40))) (
    pv (bin .eql v3 (.int .i64 2)) fun v41 =>
    cnd v41 (
     drewV (
     pv (faO 1 v1) fun v42 =>
     ld1 v42 fun v43 =>
     pv (faO 3 v1) fun v44 =>
     ld1 v44 fun v45 =>
     mem fun w47 => cal Pg noR 26 ⟨[v45]⟩ fun v46 =>
     rd1 v42 v43 <|
     pv (faO 4 v1) fun v48 =>
     ld1S [w47] v48 fun v49 =>
     mem fun w51 => cal Pg noR 23 ⟨[x0, v43, v46, v49]⟩ fun v50 =>
     pv (extO 0 v50) fun v52 =>
     pv (extO 1 v50) fun v53 =>
     pv (faO 1 v1) fun v54 =>
     ld1 v54 fun v55 =>
     pv (faO 3 v1) fun v56 =>
     ld1 v56 fun v57 =>
     pv (faO 4 v1) fun v58 =>
     ld1 v58 fun v59 =>
     cal Pg R 51 ⟨[x1, v55, v57, v59]⟩ fun v60 =>
     pv (extO 0 v60) fun v61 =>
     pv (extO 1 v60) fun v62 =>
     pv (bin .eql v53 v62) fun v63 =>
     gd v63 true (pv (some v52)) fun v64 =>
     gd v63 true (pv (some v61)) fun v65 =>
     gd v63 true (cal Pg R 52 ⟨[v64, v65, (.func (.func 53) ⟨[]⟩ ⟨[]⟩)]⟩) fun v66 =>
     pv (pickO v63 v66 (.bool false)) fun v67 =>
     R (.returned v67))) (
     pv (bin .eql v3 (.int .i64 3)) fun v68 =>
     cnd v68 (
      pv (faO 4 v1) fun v69 =>
      ld1 v69 fun v70 =>
      cal Pg R 14 ⟨[x0, v70]⟩ fun v71 =>
      pv (extO 0 v71) fun v72 =>
      pv (extO 1 v71) fun v73 =>
      pv (faO 4 v1) fun v74 =>
      ld1 v74 fun v75 =>
      cal Pg R 54 ⟨[x1, v75]⟩ fun v76 =>
      pv (extO 0 v76) fun v77 =>
      pv (extO 1 v76) fun v78 =>
      pv (bin .eql v73 v78) fun v79 =>
      gd v79 true (pv (some v72)) fun v80 =>
      gd v79 true (pv (some v77)) fun v81 =>
      gd v79 true (cal Pg R 55 ⟨[v80, v81]⟩) fun v82 =>
      pv (pickO v79 v82 (.bool false)) fun v83 =>
      R (.returned v83)) (
      R (.returned (.bool true))))))
theorem orpimentlaw35_do_den (R : ER) (x0 x1 x2 : Value) : den Pg R (cd Try.f31 []) (argsEnv [x0, x1, x2]) (kont Pg R Try.f31) = F31 R x0 x1 x2 :=
  have h : ∀ e, den Pg R (cd Try.f31 []) e (kont Pg R Try.f31) = F31 R (e 0) (e 1) (e 2) := fun e => (by kernel_rfl)
  h _
theorem F31_calls {R : ER} {x0 x1 x2 : Value} {w : World} (h : F31 R x0 x1 x2 w) : Calls Pg 31 ⟨[x0, x1, x2]⟩ w R :=
  calls_of_den Try.func31 (by kernel_rfl) (by kernel_rfl) (orpimentlaw35_do_den R x0 x1 x2) h
/-! ### 32: F32 -/
def F32 (R : ER) (x0 x1 : Value) : WP :=
  cal Pg R 13 ⟨[x0]⟩ fun v1 =>
  pv (extO 0 v1) fun v2 =>
  pv (extO 1 v1) fun v3 =>
  cal Pg R 56 ⟨[x1]⟩ fun v4 =>
  pv (extO 0 v4) fun v5 =>
  pv (extO 1 v4) fun v6 =>
  pv (bin .eql v2 v5) fun v7 =>
  gd v7 true (pv (some v3)) fun v8 =>
  gd v7 true (pv (some v6)) fun v9 =>
  gd v7 true (pv (binB .eql v8 v9)) fun v10 =>
  pv (pickO v7 v10 (.bool false)) fun v11 =>
  gd v11 true (pv (some x0)) fun v12 =>
  gd v11 true (cal Pg R 25 ⟨[v12]⟩) fun v13 =>
  gd v11 true (pv (some x1)) fun v14 =>
  gd v11 true (cal Pg R 57 ⟨[v14]⟩) fun v15 =>
  gd v11 true (pv (bin .eql v13 v15)) fun v16 =>
  pv (pickO v11 v16 (.bool false)) fun v17 =>
  gd v17 true (pv (some x0)) fun v18 =>
  gd v17 true (cal Pg R 15 ⟨[v18]⟩) fun v19 =>
  gd v17 true (pv (some x1)) fun v20 =>
  gd v17 true (cal Pg R 58 ⟨[v20]⟩) fun v21 =>
  gd v17 true (pv (binB .eql v19 v21)) fun v22 =>
  pv (pickO v17 v22 (.bool false)) fun v23 =>
  R (.returned v23)
theorem orpimentlaw35_seen_den (R : ER) (x0 x1 : Value) : den Pg R (cd Try.f32 []) (argsEnv [x0, x1]) (kont Pg R Try.f32) = F32 R x0 x1 :=
  have h : ∀ e, den Pg R (cd Try.f32 []) e (kont Pg R Try.f32) = F32 R (e 0) (e 1) := fun e => by kernel_rfl
  h _
theorem F32_calls {R : ER} {x0 x1 : Value} {w : World} (h : F32 R x0 x1 w) : Calls Pg 32 ⟨[x0, x1]⟩ w R :=
  calls_of_den Try.func32 (by kernel_rfl) (by kernel_rfl) (orpimentlaw35_seen_den R x0 x1) h
/-! ### 33: F33 -/
def F33_j2 (R : ER) (x0 : Value) : WP :=
  drewV (
  pv (nilO x0) fun v1 =>
  pv (faO 0 v1) fun v2 =>
  pv (ixA 2 1 v2 (.int .i64 0)) fun v3 =>
  ld1 v3 fun v4 =>
  pv (nilO x0) fun v5 =>
  pv (faO 2 v5) fun v6 =>
  pv (ixA 2 1 v6 (.int .i64 0)) fun v7 =>
  ld1 v7 fun v8 =>
  mem fun w10 => cal Pg noR 32 ⟨[v4, v8]⟩ fun v9 =>
  gd v9 true (pv (some x0)) fun v11 =>
  gd v9 true (pv (nilO v11)) fun v12 =>
  gd v9 true (pv (faO 0 v12)) fun v13 =>
  gd v9 true (pv (ixA 2 1 v13 (.int .i64 1))) fun v14 =>
  gd v9 true (ld1 v14) fun v15 =>
  gd v9 true (pv (some x0)) fun v16 =>
  gd v9 true (pv (nilO v16)) fun v17 =>
  gd v9 true (pv (faO 2 v17)) fun v18 =>
  gd v9 true (pv (ixA 2 1 v18 (.int .i64 1))) fun v19 =>
  gd v9 true (ld1 v19) fun v20 =>
  mem fun w22 => gd v9 true (cal Pg noR 32 ⟨[v15, v20]⟩) fun v21 =>
  pv (pickO v9 v21 (.bool false)) fun v23 =>
  R (.returned v23))
theorem F33_j2_ok (R : ER) (e : Env) : den Pg R (cd Try.f33 [1,1,1,1,1,1,1]) e (kont Pg R Try.f33) = (F33_j2 R (e 0)) := by kernel_rfl
def F33_j6 (R : ER) (x0 x6 x8 : Value) : WP :=
  drewV (
  pv (nilO x0) fun v24 =>
  pv (faO 2 v24) fun v25 =>
  pv (ixA 2 1 v25 x6) fun v26 =>
  ld1 v26 fun v27 =>
  pv (nilO x0) fun v28 =>
  pv (faO 5 v28) fun v29 =>
  ld1 v29 fun v30 =>
  mem fun w32 => cal Pg noR 50 ⟨[v27, x8, v30]⟩ fun v31 =>
  F33_j2 R x0)
theorem F33_j6_ok (R : ER) (e : Env) : den Pg R (cd Try.f33 [1,1,1,1,1,1,0,0,1,0,1,1]) e (inB 0 (setN (kont Pg R Try.f33) (fun e => F33_j2 R (e 0)))) = (F33_j6 R (e 0) (e 6) (e 8)) := by kernel_rfl
def F33_j9 (R : ER) (x0 x6 x8 : Value) : WP :=
  drewV (
  pv (nilO x0) fun v33 =>
  pv (faO 6 v33) fun v34 =>
  pv (ixA 2 1 v34 x6) fun v35 =>
  ld1 v35 fun v36 =>
  mem fun w38 => valV Pg noR (Instr.buildSlice 36 1 ⟨[(0, x8)]⟩) fun v37 =>
  rd1 v35 v36 <|
  mem fun w40 => blt Pg noR .append ⟨[36,36]⟩ 36 ⟨[false, false]⟩ ⟨[v36, v37]⟩ fun v39 =>
  pv (nilO x0) fun v41 =>
  pv (faO 6 v41) fun v42 =>
  pv (ixA 2 1 v42 x6) fun v43 =>
  mem fun w45 => st1 v43 v39 fun v44 =>
  F33_j6 R x0 x6 x8)
theorem F33_j9_ok (R : ER) (e : Env) : den Pg R (cd Try.f33 [1,1,1,1,1,1,0,0,1,0,1,0,1,1,0]) e (setN (inB 0 (setN (kont Pg R Try.f33) (fun e => F33_j2 R (e 0)))) (fun e => F33_j6 R (e 0) (e 6) (e 8))) = (F33_j9 R (e 0) (e 6) (e 8)) := by kernel_rfl
def F33_j8 (R : ER) (x0 x6 x8 x82 : Value) : WP :=
  cnd x82 (F33_j9 R x0 x6 x8) (F33_j6 R x0 x6 x8)
theorem F33_j8_ok (R : ER) (e : Env) : den Pg R (cd Try.f33 [1,1,1,1,1,1,0,0,1,0,1,0,1,1]) e (setN (inB 0 (setN (kont Pg R Try.f33) (fun e => F33_j2 R (e 0)))) (fun e => F33_j6 R (e 0) (e 6) (e 8))) = (F33_j8 R (e 0) (e 6) (e 8) (e 82)) := (den_if Pg R (cd Try.f33 [1,1,1,1,1,1,0,0,1,0,1,0,1,1]) (cd Try.f33 [1,1,1,1,1,1,0,0,1,0,1,0,1,1,0]) (cd Try.f33 [1,1,1,1,1,1,0,0,1,0,1,0,1,1,1]) e (setN (inB 0 (setN (kont Pg R Try.f33) (fun e => F33_j2 R (e 0)))) (fun e => F33_j6 R (e 0) (e 6) (e 8))) (F33_j9 R (e 0) (e 6) (e 8)) _ _ (by kernel_rfl) (F33_j9_ok R e) rfl (by kernel_rfl))
def F33_j7 (R : ER) (x0 x6 x8 : Value) : WP :=
  drewV (
  pv (nilO x0) fun v46 =>
  pv (faO 0 v46) fun v47 =>
  pv (ixA 2 1 v47 x6) fun v48 =>
  ld1 v48 fun v49 =>
  mem fun w51 => cal Pg noR 26 ⟨[x8]⟩ fun v50 =>
  rd1 v48 v49 <|
  pv (nilO x0) fun v52 =>
  pv (faO 5 v52) fun v53 =>
  ld1S [w51] v53 fun v54 =>
  mem fun w56 => cal Pg noR 12 ⟨[v49, v50, v54]⟩ fun v55 =>
  pv (extO 0 v55) fun v57 =>
  pv (extO 1 v55) fun v58 =>
  pv (bin .eql v58 (.int .i64 0)) fun v59 =>
  F33_j8 R x0 x6 x8 v59)
theorem F33_j7_ok (R : ER) (e : Env) : den Pg R (cd Try.f33 [1,1,1,1,1,1,0,0,1,0,1,0]) e (setN (inB 0 (setN (kont Pg R Try.f33) (fun e => F33_j2 R (e 0)))) (fun e => F33_j6 R (e 0) (e 6) (e 8))) = (F33_j7 R (e 0) (e 6) (e 8)) := (den_join Pg R 1 (cd Try.f33 [1,1,1,1,1,1,0,0,1,0,1,0]) (cd Try.f33 [1,1,1,1,1,1,0,0,1,0,1,0,1,1]) e (setN (inB 0 (setN (kont Pg R Try.f33) (fun e => F33_j2 R (e 0)))) (fun e => F33_j6 R (e 0) (e 6) (e 8))) (fun e => F33_j8 R (e 0) (e 6) (e 8) (e 82)) _ (by kernel_rfl) (fun e => F33_j8_ok R e) (by kernel_rfl))
def F33_j5 (R : ER) (x0 x3 x6 : Value) : WP :=
  pv (faO 3 x3) fun v60 =>
  ld1 v60 fun v61 =>
  pv (faO 3 x3) fun v62 =>
  ld1 v62 fun v63 =>
  pv (lenS v63) fun v64 =>
  pv (min2I v64 (.int .i64 200)) fun v65 =>
  pv (slS 1 v61 none (some v65)) fun v66 =>
  F33_j7 R x0 x6 v66
theorem F33_j5_ok (R : ER) (e : Env) : den Pg R (cd Try.f33 [1,1,1,1,1,1,0,0,1,0]) e (inB 0 (setN (kont Pg R Try.f33) (fun e => F33_j2 R (e 0)))) = (F33_j5 R (e 0) (e 3) (e 6)) := (den_join Pg R 1 (cd Try.f33 [1,1,1,1,1,1,0,0,1,0]) (cd Try.f33 [1,1,1,1,1,1,0,0,1,0,1,1]) e (inB 0 (setN (kont Pg R Try.f33) (fun e => F33_j2 R (e 0)))) (fun e => F33_j6 R (e 0) (e 6) (e 8)) _ (by kernel_rfl) (fun e => F33_j6_ok R e) (den_join Pg R 0 (pre 1 (cd Try.f33 [1,1,1,1,1,1,0,0,1,0])) (cd Try.f33 [1,1,1,1,1,1,0,0,1,0,1,0]) e (setN (inB 0 (setN (kont Pg R Try.f33) (fun e => F33_j2 R (e 0)))) (fun e => F33_j6 R (e 0) (e 6) (e 8))) (fun e => F33_j7 R (e 0) (e 6) (e 8)) _ (by kernel_rfl) (fun e => F33_j7_ok R e) (by kernel_rfl)))
def F33_j15 (R : ER) (k1 : V5) (x0 x6 x149 x150 x151 : Value) : WP :=
  pv (ixS 2 x149 x151) fun v67 =>
  ldN 2 v67 fun v68 =>
  al Pg 90 fun v69 =>
  stN 2 v69 v68 fun _ =>
  drewV (
  pv (nilO x0) fun v70 =>
  pv (faO 4 v70) fun v71 =>
  ld1 v71 fun v72 =>
  pv (bin .sub (.int .i64 1) x6) fun v73 =>
  pv (faO 0 v69) fun v74 =>
  ld1 v74 fun v75 =>
  pv (faO 1 v69) fun v76 =>
  ld1 v76 fun v77 =>
  pv (bldO [.int .i64 0, .int .i64 0, .slice none 0 0, .bool false] [(0,1, v73), (1,1, v75), (2,1, v77)]) fun v78 =>
  mem fun w80 => valV Pg noR (Instr.buildSlice 35 1 ⟨[(0, v78)]⟩) fun v79 =>
  rd1 v71 v72 <|
  mem fun w82 => blt Pg noR .append ⟨[35,35]⟩ 35 ⟨[false, false]⟩ ⟨[v72, v79]⟩ fun v81 =>
  pv (nilO x0) fun v83 =>
  pv (faO 4 v83) fun v84 =>
  mem fun w86 => st1 v84 v81 fun v85 =>
  pv (bin .add x151 (.int .i64 1)) fun v87 =>
  k1 x0 x6 x149 x150 v87)
theorem F33_j15_ok (R : ER) (k1 : V5) (e : Env) : den Pg R (cd Try.f33 [1,1,1,1,1,1,0,0,1,1,1,0,1,1,1,1,0,0,1,1]) e (setN (inB 1 (inB 0 (setN (kont Pg R Try.f33) (fun e => F33_j2 R (e 0))))) (fun e => k1 (e 0) (e 6) (e 149) (e 150) (e 151))) = (F33_j15 R k1 (e 0) (e 6) (e 149) (e 150) (e 151)) := by kernel_rfl
def F33_b1 (R : ER) (k1 : V5) (x0 x6 x149 x150 x151 : Value) : WP :=
  pv (bin .lss x151 x150) fun v88 =>
  cnd v88 (
   F33_j15 R k1 x0 x6 x149 x150 x151) (
   F33_j2 R x0)
theorem F33_b1_ok (R : ER) (k1 : V5) (e : Env) : den Pg R (cd Try.f33 [1,1,1,1,1,1,0,0,1,1,1,0,1,1,1,1,0,0]) e (setN (inB 1 (inB 0 (setN (kont Pg R Try.f33) (fun e => F33_j2 R (e 0))))) (fun e => k1 (e 0) (e 6) (e 149) (e 150) (e 151))) = (F33_b1 R k1 (e 0) (e 6) (e 149) (e 150) (e 151)) := (den_join Pg R 1 (cd Try.f33 [1,1,1,1,1,1,0,0,1,1,1,0,1,1,1,1,0,0]) (cd Try.f33 [1,1,1,1,1,1,0,0,1,1,1,0,1,1,1,1,0,0,1,1]) e (setN (inB 1 (inB 0 (setN (kont Pg R Try.f33) (fun e => F33_j2 R (e 0))))) (fun e => k1 (e 0) (e 6) (e 149) (e 150) (e 151))) (fun e => F33_j15 R k1 (e 0) (e 6) (e 149) (e 150) (e 151)) _ (by kernel_rfl) (fun e => F33_j15_ok R k1 e) (by kernel_rfl))
noncomputable def F33_l1 (R : ER) (n : Nat) : V5 := Nat.rec (motive := fun _ => V5) (fun _ _ _ _ _ => fun _ => False) (fun _ ih => fun x0 x6 x149 x150 x151 => F33_b1 R ih x0 x6 x149 x150 x151) n
theorem F33_l1_succ (R : ER) (n : Nat) (x0 x6 x149 x150 x151 : Value) : F33_l1 R (n + 1) x0 x6 x149 x150 x151 = F33_b1 R (F33_l1 R n) x0 x6 x149 x150 x151 := rfl
theorem F33_l1_ok (R : ER) : ∀ (n : Nat) (e : Env), iterL (den Pg R (cd Try.f33 [1,1,1,1,1,1,0,0,1,1,1,0,1,1,1,1,0,0])) n e (inB 1 (inB 0 (setN (kont Pg R Try.f33) (fun e => F33_j2 R (e 0))))) = F33_l1 R n (e 0) (e 6) (e 149) (e 150) (e 151) :=
  iterL_join (den Pg R (cd Try.f33 [1,1,1,1,1,1,0,0,1,1,1,0,1,1,1,1,0,0])) (inB 1 (inB 0 (setN (kont Pg R Try.f33) (fun e => F33_j2 R (e 0))))) (fun n e => F33_l1 R n (e 0) (e 6) (e 149) (e 150) (e 151)) (fun _ => rfl) (fun n e => (F33_b1_ok R (F33_l1 R n) e).trans (F33_l1_succ R n (e 0) (e 6) (e 149) (e 150) (e 151)).symm)
def F33_j14 (R : ER) (x0 x6 x149 x150 x151 : Value) : WP :=
  exN fun n => F33_l1 R n x0 x6 x149 x150 x151
theorem F33_j14_ok (R : ER) (e : Env) : den Pg R (cd Try.f33 [1,1,1,1,1,1,0,0,1,1,1,0,1,1,1,1]) e (inB 0 (setN (kont Pg R Try.f33) (fun e => F33_j2 R (e 0)))) = (F33_j14 R (e 0) (e 6) (e 149) (e 150) (e 151)) := (den_block Pg R (cd Try.f33 [1,1,1,1,1,1,0,0,1,1,1,0,1,1,1,1]) 1 (cd Try.f33 [1,1,1,1,1,1,0,0,1,1,1,0,1,1,1,1,0]) e (inB 0 (setN (kont Pg R Try.f33) (fun e => F33_j2 R (e 0)))) _ (by kernel_rfl) (den_loop Pg R (cd Try.f33 [1,1,1,1,1,1,0,0,1,1,1,0,1,1,1,1,0]) (cd Try.f33 [1,1,1,1,1,1,0,0,1,1,1,0,1,1,1,1,0,0]) e (inB 1 (inB 0 (setN (kont Pg R Try.f33) (fun e => F33_j2 R (e 0))))) (fun n e => F33_l1 R n (e 0) (e 6) (e 149) (e 150) (e 151)) _ (by kernel_rfl) (F33_l1_ok R) (by kernel_rfl)))
def F33_j13 (R : ER) (x0 x6 x11 : Value) : WP :=
  pv (lenS x11) fun v89 =>
  F33_j14 R x0 x6 x11 v89 (.int .i64 0)
theorem F33_j13_ok (R : ER) (e : Env) : den Pg R (cd Try.f33 [1,1,1,1,1,1,0,0,1,1,1,0,1,1,1]) e (inB 0 (setN (kont Pg R Try.f33) (fun e => F33_j2 R (e 0)))) = (F33_j13 R (e 0) (e 6) (e 11)) := (den_join Pg R 0 (cd Try.f33 [1,1,1,1,1,1,0,0,1,1,1,0,1,1,1]) (cd Try.f33 [1,1,1,1,1,1,0,0,1,1,1,0,1,1,1,1]) e (inB 0 (setN (kont Pg R Try.f33) (fun e => F33_j2 R (e 0)))) (fun e => F33_j14 R (e 0) (e 6) (e 149) (e 150) (e 151)) _ (by kernel_rfl) (fun e => F33_j14_ok R e) (by kernel_rfl))
def F33_j12 (R : ER) (x0 x6 : Value) : WP :=
  drewV (
  pv (nilO x0) fun v90 =>
  pv (faO 0 v90) fun v91 =>
  pv (ixA 2 1 v91 x6) fun v92 =>
  ld1 v92 fun v93 =>
  pv (nilO x0) fun v94 =>
  pv (faO 5 v94) fun v95 =>
  ld1 v95 fun v96 =>
  mem fun w98 => cal Pg noR 14 ⟨[v93, v96]⟩ fun v97 =>
  pv (extO 0 v97) fun v99 =>
  pv (extO 1 v97) fun v100 =>
  drewV (
  pv (nilO x0) fun v101 =>
  pv (faO 2 v101) fun v102 =>
  pv (ixA 2 1 v102 x6) fun v103 =>
  ld1 v103 fun v104 =>
  pv (nilO x0) fun v105 =>
  pv (faO 5 v105) fun v106 =>
  ld1 v106 fun v107 =>
  mem fun w109 => cal Pg noR 54 ⟨[v104, v107]⟩ fun v108 =>
  pv (extO 0 v108) fun v110 =>
  pv (extO 1 v108) fun v111 =>
  pv (bin .neq v100 v111) fun v112 =>
  gd v112 false (pv (some v99)) fun v113 =>
  gd v112 false (pv (some v110)) fun v114 =>
  gd v112 false (cal Pg R 55 ⟨[v113, v114]⟩) fun v115 =>
  gd v112 false (pv (unO .not v115)) fun v116 =>
  pv (pickO v112 (.bool true) v116) fun v117 =>
  cnd v117 (
   R (.returned (.bool false))) (
   F33_j13 R x0 x6 v99)))
theorem F33_j12_ok (R : ER) (e : Env) : den Pg R (cd Try.f33 [1,1,1,1,1,1,0,0,1,1,1,0]) e (inB 0 (setN (kont Pg R Try.f33) (fun e => F33_j2 R (e 0)))) = (F33_j12 R (e 0) (e 6)) := (den_join Pg R 2 (cd Try.f33 [1,1,1,1,1,1,0,0,1,1,1,0]) (cd Try.f33 [1,1,1,1,1,1,0,0,1,1,1,0,1,1,1]) e (inB 0 (setN (kont Pg R Try.f33) (fun e => F33_j2 R (e 0)))) (fun e => F33_j13 R (e 0) (e 6) (e 11)) _ (by kernel_rfl) (fun e => F33_j13_ok R e) (by kernel_rfl))
def F33_j18 (R : ER) (x0 x3 x6 : Value) : WP :=
  pv (faO 1 x3) fun v118 =>
  ld1 v118 fun v119 =>
  pv (cvI .u64 v119) fun v120 =>
  pv (bin .rem v120 (.int .u64 3)) fun v121 =>
  pv (cvI .i64 v121) fun v122 =>
  drewV (
  pv (nilO x0) fun v123 =>
  pv (faO 0 v123) fun v124 =>
  pv (ixA 2 1 v124 x6) fun v125 =>
  ld1 v125 fun v126 =>
  pv (faO 2 x3) fun v127 =>
  ld1 v127 fun v128 =>
  pv (bin .rem v128 (.int .u8 2)) fun v129 =>
  pv (bin .eql v129 (.int .u8 0)) fun v130 =>
  mem fun w132 => cal Pg noR 24 ⟨[v126, v122, v130]⟩ fun v131 =>
  pv (nilO x0) fun v133 =>
  pv (faO 2 v133) fun v134 =>
  pv (ixA 2 1 v134 x6) fun v135 =>
  ld1S [w132] v135 fun v136 =>
  pv (faO 2 x3) fun v137 =>
  ld1S [w132] v137 fun v138 =>
  pv (bin .rem v138 (.int .u8 2)) fun v139 =>
  pv (bin .eql v139 (.int .u8 0)) fun v140 =>
  mem fun w142 => cal Pg noR 49 ⟨[v136, v122, v140]⟩ fun v141 =>
  pv (bin .neq v131 v141) fun v143 =>
  cnd v143 (
   R (.returned (.bool false))) (
   F33_j2 R x0))
theorem F33_j18_ok (R : ER) (e : Env) : den Pg R (cd Try.f33 [1,1,1,1,1,1,0,0,1,1,1,1,1,0]) e (inB 0 (setN (kont Pg R Try.f33) (fun e => F33_j2 R (e 0)))) = (F33_j18 R (e 0) (e 3) (e 6)) := (by kernel_rfl)
def F33_j24 (R : ER) (x18 : Value) : WP :=
  R (.returned x18)
theorem F33_j24_ok (R : ER) (e : Env) : den Pg R (cd Try.f33 [1,1,1,1,1,1,0,0,1,1,1,1,1,1,1,1,1,0,1,1]) e (inB 0 (setN (kont Pg R Try.f33) (fun e => F33_j2 R (e 0)))) = (F33_j24 R (e 18)) := by kernel_rfl
def F33_j25 (R : ER) (x0 x5 x7 x18 : Value) : WP :=
  pv (bin .eql x5 (.int .i64 4)) fun v144 =>
  cnd v144 (
   pv (nilO x0) fun v145 =>
   pv (faO 4 v145) fun v146 =>
   ld1 v146 fun v147 =>
   pv (bin .add x7 (.int .i64 1)) fun v148 =>
   cal Pg R 60 ⟨[v147, x7, v148]⟩ fun v149 =>
   pv (nilO x0) fun v150 =>
   pv (faO 4 v150) fun v151 =>
   st1 v151 v149 fun _ =>
   F33_j24 R x18) (
   F33_j24 R x18)
theorem F33_j25_ok (R : ER) (e : Env) : den Pg R (cd Try.f33 [1,1,1,1,1,1,0,0,1,1,1,1,1,1,1,1,1,0,1,0]) e (setN (inB 0 (setN (kont Pg R Try.f33) (fun e => F33_j2 R (e 0)))) (fun e => F33_j24 R (e 18))) = (F33_j25 R (e 0) (e 5) (e 7) (e 18)) := (by kernel_rfl)
def F33_j23 (R : ER) (x0 x5 x7 : Value) : WP :=
  pv (nilO x0) fun v152 =>
  pv (faO 4 v152) fun v153 =>
  ld1 v153 fun v154 =>
  pv (ixS 4 v154 x7) fun v155 =>
  ldN 4 v155 fun v156 =>
  cal Pg R 59 ⟨[x0, v156]⟩ fun v157 =>
  F33_j25 R x0 x5 x7 v157
theorem F33_j23_ok (R : ER) (e : Env) : den Pg R (cd Try.f33 [1,1,1,1,1,1,0,0,1,1,1,1,1,1,1,1,1,0]) e (inB 0 (setN (kont Pg R Try.f33) (fun e => F33_j2 R (e 0)))) = (F33_j23 R (e 0) (e 5) (e 7)) := (den_join Pg R 1 (cd Try.f33 [1,1,1,1,1,1,0,0,1,1,1,1,1,1,1,1,1,0]) (cd Try.f33 [1,1,1,1,1,1,0,0,1,1,1,1,1,1,1,1,1,0,1,1]) e (inB 0 (setN (kont Pg R Try.f33) (fun e => F33_j2 R (e 0)))) (fun e => F33_j24 R (e 18)) _ (by kernel_rfl) (fun e => F33_j24_ok R e) (den_join Pg R 0 (pre 1 (cd Try.f33 [1,1,1,1,1,1,0,0,1,1,1,1,1,1,1,1,1,0])) (cd Try.f33 [1,1,1,1,1,1,0,0,1,1,1,1,1,1,1,1,1,0,1,0]) e (setN (inB 0 (setN (kont Pg R Try.f33) (fun e => F33_j2 R (e 0)))) (fun e => F33_j24 R (e 18))) (fun e => F33_j25 R (e 0) (e 5) (e 7) (e 18)) _ (by kernel_rfl) (fun e => F33_j25_ok R e) (by kernel_rfl)))
def F33_j28 (R : ER) (x0 x7 : Value) : WP :=
  pv (nilO x0) fun v158 =>
  pv (faO 4 v158) fun v159 =>
  ld1 v159 fun v160 =>
  pv (bin .add x7 (.int .i64 1)) fun v161 =>
  cal Pg R 60 ⟨[v160, x7, v161]⟩ fun v162 =>
  pv (nilO x0) fun v163 =>
  pv (faO 4 v163) fun v164 =>
  st1 v164 v162 fun _ =>
  F33_j2 R x0
theorem F33_j28_ok (R : ER) (e : Env) : den Pg R (cd Try.f33 [1,1,1,1,1,1,0,0,1,1,1,1,1,1,1,1,1,1,1,0]) e (inB 0 (setN (kont Pg R Try.f33) (fun e => F33_j2 R (e 0)))) = (F33_j28 R (e 0) (e 7)) := by kernel_rfl
def F33_j31 (R : ER) (x0 x3 x7 : Value) : WP :=
  pv (nilO x0) fun v165 =>
  pv (faO 4 v165) fun v166 =>
  ld1 v166 fun v167 =>
  pv (ixS 4 v167 x7) fun v168 =>
  ldN 4 v168 fun v169 =>
  al Pg 132 fun v170 =>
  stN 4 v170 v169 fun _ =>
  pv (faO 2 v170) fun v171 =>
  ld1 v171 fun v172 =>
  cal Pg R 26 ⟨[v172]⟩ fun v173 =>
  pv (faO 3 v170) fun v174 =>
  st1 v174 (.bool true) fun _ =>
  pv (faO 2 v170) fun v175 =>
  st1 v175 v173 fun _ =>
  drewV (
  pv (faO 2 v170) fun v176 =>
  ld1 v176 fun v177 =>
  pv (faO 2 x3) fun v178 =>
  ld1 v178 fun v179 =>
  pv (cvI .i64 v179) fun v180 =>
  pv (faO 2 v170) fun v181 =>
  ld1 v181 fun v182 =>
  pv (lenS v182) fun v183 =>
  pv (bin .rem v180 v183) fun v184 =>
  pv (ixS 1 v177 v184) fun v185 =>
  ld1 v185 fun v186 =>
  pv (faO 2 x3) fun v187 =>
  ld1 v187 fun v188 =>
  pv (bin .rem v188 (.int .u8 7)) fun v189 =>
  pv (bin .add (.int .u8 1) v189) fun v190 =>
  pv (bin .xor v186 v190) fun v191 =>
  pv (ixS 1 v177 v184) fun v192 =>
  mem fun w194 => st1 v192 v191 fun v193 =>
  drewV (
  pv (nilO x0) fun v195 =>
  pv (faO 4 v195) fun v196 =>
  ld1 v196 fun v197 =>
  ldN 4 v170 fun v198 =>
  pv (ixS 4 v197 x7) fun v199 =>
  mem fun w201 => stN 4 v199 v198 fun v200 =>
  F33_j2 R x0))
theorem F33_j31_ok (R : ER) (e : Env) : den Pg R (cd Try.f33 [1,1,1,1,1,1,0,0,1,1,1,1,1,1,1,1,1,1,1,1,1,0]) e (inB 0 (setN (kont Pg R Try.f33) (fun e => F33_j2 R (e 0)))) = (F33_j31 R (e 0) (e 3) (e 7)) := by kernel_rfl
def F33_j30 (R : ER) (x0 x3 x7 x256 : Value) : WP :=
  cnd x256 (F33_j31 R x0 x3 x7) (F33_j2 R x0)
theorem F33_j30_ok (R : ER) (e : Env) : den Pg R (cd Try.f33 [1,1,1,1,1,1,0,0,1,1,1,1,1,1,1,1,1,1,1,1,1]) e (inB 0 (setN (kont Pg R Try.f33) (fun e => F33_j2 R (e 0)))) = (F33_j30 R (e 0) (e 3) (e 7) (e 256)) := (den_if Pg R (cd Try.f33 [1,1,1,1,1,1,0,0,1,1,1,1,1,1,1,1,1,1,1,1,1]) (cd Try.f33 [1,1,1,1,1,1,0,0,1,1,1,1,1,1,1,1,1,1,1,1,1,0]) (cd Try.f33 [1,1,1,1,1,1,0,0,1,1,1,1,1,1,1,1,1,1,1,1,1,1]) e (inB 0 (setN (kont Pg R Try.f33) (fun e => F33_j2 R (e 0)))) (F33_j31 R (e 0) (e 3) (e 7)) _ _ (by kernel_rfl) (F33_j31_ok R e) rfl (by kernel_rfl))
def F33_j29 (R : ER) (x0 x3 x5 x7 : Value) : WP :=
  pv (bin .eql x5 (.int .i64 7)) fun v202 =>
  gd v202 true (pv (some x0)) fun v203 =>
  gd v202 true (pv (nilO v203)) fun v204 =>
  gd v202 true (pv (faO 4 v204)) fun v205 =>
  gd v202 true (ld1 v205) fun v206 =>
  gd v202 true (pv (some x7)) fun v207 =>
  gd v202 true (pv (ixS 4 v206 v207)) fun v208 =>
  gd v202 true (pv (faO 3 v208)) fun v209 =>
  gd v202 true (ld1 v209) fun v210 =>
  gd v202 true (pv (unO .not v210)) fun v211 =>
  pv (pickO v202 v211 (.bool false)) fun v212 =>
  F33_j30 R x0 x3 x7 v212
theorem F33_j29_ok (R : ER) (e : Env) : den Pg R (cd Try.f33 [1,1,1,1,1,1,0,0,1,1,1,1,1,1,1,1,1,1,1,1]) e (inB 0 (setN (kont Pg R Try.f33) (fun e => F33_j2 R (e 0)))) = (F33_j29 R (e 0) (e 3) (e 5) (e 7)) := (den_join Pg R 0 (cd Try.f33 [1,1,1,1,1,1,0,0,1,1,1,1,1,1,1,1,1,1,1,1]) (cd Try.f33 [1,1,1,1,1,1,0,0,1,1,1,1,1,1,1,1,1,1,1,1,1]) e (inB 0 (setN (kont Pg R Try.f33) (fun e => F33_j2 R (e 0)))) (fun e => F33_j30 R (e 0) (e 3) (e 7) (e 256)) _ (by kernel_rfl) (fun e => F33_j30_ok R e) (by kernel_rfl))
def F33_j27 (R : ER) (x0 x3 x5 x7 x242 : Value) : WP :=
  cnd x242 (F33_j28 R x0 x7) (F33_j29 R x0 x3 x5 x7)
theorem F33_j27_ok (R : ER) (e : Env) : den Pg R (cd Try.f33 [1,1,1,1,1,1,0,0,1,1,1,1,1,1,1,1,1,1,1]) e (inB 0 (setN (kont Pg R Try.f33) (fun e => F33_j2 R (e 0)))) = (F33_j27 R (e 0) (e 3) (e 5) (e 7) (e 242)) := (den_if Pg R (cd Try.f33 [1,1,1,1,1,1,0,0,1,1,1,1,1,1,1,1,1,1,1]) (cd Try.f33 [1,1,1,1,1,1,0,0,1,1,1,1,1,1,1,1,1,1,1,0]) (cd Try.f33 [1,1,1,1,1,1,0,0,1,1,1,1,1,1,1,1,1,1,1,1]) e (inB 0 (setN (kont Pg R Try.f33) (fun e => F33_j2 R (e 0)))) (F33_j28 R (e 0) (e 7)) (F33_j29 R (e 0) (e 3) (e 5) (e 7)) _ (by kernel_rfl) (F33_j28_ok R e) (F33_j29_ok R e) (by kernel_rfl))
def F33_j26 (R : ER) (x0 x3 x5 x7 : Value) : WP :=
  pv (bin .eql x5 (.int .i64 5)) fun v213 =>
  F33_j27 R x0 x3 x5 x7 v213
theorem F33_j26_ok (R : ER) (e : Env) : den Pg R (cd Try.f33 [1,1,1,1,1,1,0,0,1,1,1,1,1,1,1,1,1,1]) e (inB 0 (setN (kont Pg R Try.f33) (fun e => F33_j2 R (e 0)))) = (F33_j26 R (e 0) (e 3) (e 5) (e 7)) := (den_join Pg R 0 (cd Try.f33 [1,1,1,1,1,1,0,0,1,1,1,1,1,1,1,1,1,1]) (cd Try.f33 [1,1,1,1,1,1,0,0,1,1,1,1,1,1,1,1,1,1,1]) e (inB 0 (setN (kont Pg R Try.f33) (fun e => F33_j2 R (e 0)))) (fun e => F33_j27 R (e 0) (e 3) (e 5) (e 7) (e 242)) _ (by kernel_rfl) (fun e => F33_j27_ok R e) (by kernel_rfl))
def F33_j22 (R : ER) (x0 x3 x5 x7 x212 : Value) : WP :=
  cnd x212 (F33_j23 R x0 x5 x7) (F33_j26 R x0 x3 x5 x7)
theorem F33_j22_ok (R : ER) (e : Env) : den Pg R (cd Try.f33 [1,1,1,1,1,1,0,0,1,1,1,1,1,1,1,1,1]) e (inB 0 (setN (kont Pg R Try.f33) (fun e => F33_j2 R (e 0)))) = (F33_j22 R (e 0) (e 3) (e 5) (e 7) (e 212)) := (den_if Pg R (cd Try.f33 [1,1,1,1,1,1,0,0,1,1,1,1,1,1,1,1,1]) (cd Try.f33 [1,1,1,1,1,1,0,0,1,1,1,1,1,1,1,1,1,0]) (cd Try.f33 [1,1,1,1,1,1,0,0,1,1,1,1,1,1,1,1,1,1]) e (inB 0 (setN (kont Pg R Try.f33) (fun e => F33_j2 R (e 0)))) (F33_j23 R (e 0) (e 5) (e 7)) (F33_j26 R (e 0) (e 3) (e 5) (e 7)) _ (by kernel_rfl) (F33_j23_ok R e) (F33_j26_ok R e) (by kernel_rfl))
def F33_j21 (R : ER) (x0 x3 x5 x7 : Value) : WP :=
  pv (bin .eql x5 (.int .i64 4)) fun v214 =>
  gd v214 false (pv (some x5)) fun v215 =>
  gd v214 false (pv (bin .eql v215 (.int .i64 6))) fun v216 =>
  pv (pickO v214 (.bool true) v216) fun v217 =>
  F33_j22 R x0 x3 x5 x7 v217
theorem F33_j21_ok (R : ER) (e : Env) : den Pg R (cd Try.f33 [1,1,1,1,1,1,0,0,1,1,1,1,1,1,1,1]) e (inB 0 (setN (kont Pg R Try.f33) (fun e => F33_j2 R (e 0)))) = (F33_j21 R (e 0) (e 3) (e 5) (e 7)) := (den_join Pg R 0 (cd Try.f33 [1,1,1,1,1,1,0,0,1,1,1,1,1,1,1,1]) (cd Try.f33 [1,1,1,1,1,1,0,0,1,1,1,1,1,1,1,1,1]) e (inB 0 (setN (kont Pg R Try.f33) (fun e => F33_j2 R (e 0)))) (fun e => F33_j22 R (e 0) (e 3) (e 5) (e 7) (e 212)) _ (by kernel_rfl) (fun e => F33_j22_ok R e) (by kernel_rfl))
def F33_j20 (R : ER) (x0 x3 x5 x7 x205 : Value) : WP :=
  cnd x205 (F33_j2 R x0) (F33_j21 R x0 x3 x5 x7)
theorem F33_j20_ok (R : ER) (e : Env) : den Pg R (cd Try.f33 [1,1,1,1,1,1,0,0,1,1,1,1,1,1,1]) e (inB 0 (setN (kont Pg R Try.f33) (fun e => F33_j2 R (e 0)))) = (F33_j20 R (e 0) (e 3) (e 5) (e 7) (e 205)) := (den_if Pg R (cd Try.f33 [1,1,1,1,1,1,0,0,1,1,1,1,1,1,1]) (cd Try.f33 [1,1,1,1,1,1,0,0,1,1,1,1,1,1,1,0]) (cd Try.f33 [1,1,1,1,1,1,0,0,1,1,1,1,1,1,1,1]) e (inB 0 (setN (kont Pg R Try.f33) (fun e => F33_j2 R (e 0)))) _ (F33_j21 R (e 0) (e 3) (e 5) (e 7)) _ (by kernel_rfl) rfl (F33_j21_ok R e) (by kernel_rfl))
def F33_j19 (R : ER) (x0 x3 x5 x7 : Value) : WP :=
  pv (nilO x0) fun v218 =>
  pv (faO 4 v218) fun v219 =>
  ld1 v219 fun v220 =>
  pv (lenS v220) fun v221 =>
  pv (bin .eql v221 (.int .i64 0)) fun v222 =>
  F33_j20 R x0 x3 x5 x7 v222
theorem F33_j19_ok (R : ER) (e : Env) : den Pg R (cd Try.f33 [1,1,1,1,1,1,0,0,1,1,1,1,1,1]) e (inB 0 (setN (kont Pg R Try.f33) (fun e => F33_j2 R (e 0)))) = (F33_j19 R (e 0) (e 3) (e 5) (e 7)) := (den_join Pg R 0 (cd Try.f33 [1,1,1,1,1,1,0,0,1,1,1,1,1,1]) (cd Try.f33 [1,1,1,1,1,1,0,0,1,1,1,1,1,1,1]) e (inB 0 (setN (kont Pg R Try.f33) (fun e => F33_j2 R (e 0)))) (fun e => F33_j20 R (e 0) (e 3) (e 5) (e 7) (e 205)) _ (by kernel_rfl) (fun e => F33_j20_ok R e) (by kernel_rfl))
def F33_j17 (R : ER) (x0 x3 x5 x6 x7 x172 : Value) : WP :=
  cnd x172 (F33_j18 R x0 x3 x6) (F33_j19 R x0 x3 x5 x7)
theorem F33_j17_ok (R : ER) (e : Env) : den Pg R (cd Try.f33 [1,1,1,1,1,1,0,0,1,1,1,1,1]) e (inB 0 (setN (kont Pg R Try.f33) (fun e => F33_j2 R (e 0)))) = (F33_j17 R (e 0) (e 3) (e 5) (e 6) (e 7) (e 172)) := (den_if Pg R (cd Try.f33 [1,1,1,1,1,1,0,0,1,1,1,1,1]) (cd Try.f33 [1,1,1,1,1,1,0,0,1,1,1,1,1,0]) (cd Try.f33 [1,1,1,1,1,1,0,0,1,1,1,1,1,1]) e (inB 0 (setN (kont Pg R Try.f33) (fun e => F33_j2 R (e 0)))) (F33_j18 R (e 0) (e 3) (e 6)) (F33_j19 R (e 0) (e 3) (e 5) (e 7)) _ (by kernel_rfl) (F33_j18_ok R e) (F33_j19_ok R e) (by kernel_rfl))
def F33_j16 (R : ER) (x0 x3 x5 x6 x7 : Value) : WP :=
  pv (bin .geq x5 (.int .i64 8)) fun v223 =>
  F33_j17 R x0 x3 x5 x6 x7 v223
theorem F33_j16_ok (R : ER) (e : Env) : den Pg R (cd Try.f33 [1,1,1,1,1,1,0,0,1,1,1,1]) e (inB 0 (setN (kont Pg R Try.f33) (fun e => F33_j2 R (e 0)))) = (F33_j16 R (e 0) (e 3) (e 5) (e 6) (e 7)) := (den_join Pg R 0 (cd Try.f33 [1,1,1,1,1,1,0,0,1,1,1,1]) (cd Try.f33 [1,1,1,1,1,1,0,0,1,1,1,1,1]) e (inB 0 (setN (kont Pg R Try.f33) (fun e => F33_j2 R (e 0)))) (fun e => F33_j17 R (e 0) (e 3) (e 5) (e 6) (e 7) (e 172)) _ (by kernel_rfl) (fun e => F33_j17_ok R e) (by kernel_rfl))
def F33_j11 (R : ER) (x0 x3 x5 x6 x7 x109 : Value) : WP :=
  cnd x109 (F33_j12 R x0 x6) (F33_j16 R x0 x3 x5 x6 x7)
theorem F33_j11_ok (R : ER) (e : Env) : den Pg R (cd Try.f33 [1,1,1,1,1,1,0,0,1,1,1]) e (inB 0 (setN (kont Pg R Try.f33) (fun e => F33_j2 R (e 0)))) = (F33_j11 R (e 0) (e 3) (e 5) (e 6) (e 7) (e 109)) := (den_if Pg R (cd Try.f33 [1,1,1,1,1,1,0,0,1,1,1]) (cd Try.f33 [1,1,1,1,1,1,0,0,1,1,1,0]) (cd Try.f33 [1,1,1,1,1,1,0,0,1,1,1,1]) e (inB 0 (setN (kont Pg R Try.f33) (fun e => F33_j2 R (e 0)))) (F33_j12 R (e 0) (e 6)) (F33_j16 R (e 0) (e 3) (e 5) (e 6) (e 7)) _ (by kernel_rfl) (F33_j12_ok R e) (F33_j16_ok R e) (by kernel_rfl))
def F33_j10 (R : ER) (x0 x3 x5 x6 x7 : Value) : WP :=
  pv (bin .lss x5 (.int .i64 4)) fun v224 =>
  F33_j11 R x0 x3 x5 x6 x7 v224
theorem F33_j10_ok (R : ER) (e : Env) : den Pg R (cd Try.f33 [1,1,1,1,1,1,0,0,1,1]) e (inB 0 (setN (kont Pg R Try.f33) (fun e => F33_j2 R (e 0)))) = (F33_j10 R (e 0) (e 3) (e 5) (e 6) (e 7)) := (den_join Pg R 0 (cd Try.f33 [1,1,1,1,1,1,0,0,1,1]) (cd Try.f33 [1,1,1,1,1,1,0,0,1,1,1]) e (inB 0 (setN (kont Pg R Try.f33) (fun e => F33_j2 R (e 0)))) (fun e => F33_j11 R (e 0) (e 3) (e 5) (e 6) (e 7) (e 109)) _ (by kernel_rfl) (fun e => F33_j11_ok R e) (by kernel_rfl))
def F33_j4 (R : ER) (x0 x3 x5 x6 x7 x55 : Value) : WP :=
  cnd x55 (F33_j5 R x0 x3 x6) (F33_j10 R x0 x3 x5 x6 x7)
theorem F33_j4_ok (R : ER) (e : Env) : den Pg R (cd Try.f33 [1,1,1,1,1,1,0,0,1]) e (inB 0 (setN (kont Pg R Try.f33) (fun e => F33_j2 R (e 0)))) = (F33_j4 R (e 0) (e 3) (e 5) (e 6) (e 7) (e 55)) := (den_if Pg R (cd Try.f33 [1,1,1,1,1,1,0,0,1]) (cd Try.f33 [1,1,1,1,1,1,0,0,1,0]) (cd Try.f33 [1,1,1,1,1,1,0,0,1,1]) e (inB 0 (setN (kont Pg R Try.f33) (fun e => F33_j2 R (e 0)))) (F33_j5 R (e 0) (e 3) (e 6)) (F33_j10 R (e 0) (e 3) (e 5) (e 6) (e 7)) _ (by kernel_rfl) (F33_j5_ok R e) (F33_j10_ok R e) (by kernel_rfl))
def F33_j3 (R : ER) (x0 x3 x5 x6 x7 : Value) : WP :=
  pv (bin .lss x5 (.int .i64 2)) fun v225 =>
  F33_j4 R x0 x3 x5 x6 x7 v225
theorem F33_j3_ok (R : ER) (e : Env) : den Pg R (cd Try.f33 [1,1,1,1,1,1,0]) e (setN (kont Pg R Try.f33) (fun e => F33_j2 R (e 0))) = (F33_j3 R (e 0) (e 3) (e 5) (e 6) (e 7)) := (den_block Pg R (cd Try.f33 [1,1,1,1,1,1,0]) 0 (cd Try.f33 [1,1,1,1,1,1,0,0]) e (setN (kont Pg R Try.f33) (fun e => F33_j2 R (e 0))) _ (by kernel_rfl) (den_join Pg R 0 (cd Try.f33 [1,1,1,1,1,1,0,0]) (cd Try.f33 [1,1,1,1,1,1,0,0,1]) e (inB 0 (setN (kont Pg R Try.f33) (fun e => F33_j2 R (e 0)))) (fun e => F33_j4 R (e 0) (e 3) (e 5) (e 6) (e 7) (e 55)) _ (by kernel_rfl) (fun e => F33_j4_ok R e) (by kernel_rfl)))
def F33_j1 (R : ER) (x0 x3 x5 x6 x7 : Value) : WP :=
  F33_j3 R x0 x3 x5 x6 x7
theorem F33_j1_ok (R : ER) (e : Env) : den Pg R (cd Try.f33 [1,1,1,1,1,1]) e (kont Pg R Try.f33) = (F33_j1 R (e 0) (e 3) (e 5) (e 6) (e 7)) := (den_join Pg R 0 (cd Try.f33 [1,1,1,1,1,1]) (cd Try.f33 [1,1,1,1,1,1,1]) e (kont Pg R Try.f33) (fun e => F33_j2 R (e 0)) _ (by kernel_rfl) (fun e => F33_j2_ok R e) (den_conv Pg R (pre 0 (cd Try.f33 [1,1,1,1,1,1])) (cd Try.f33 [1,1,1,1,1,1,0]) e (setN (kont Pg R Try.f33) (fun e => F33_j2 R (e 0))) _ (by kernel_rfl) (F33_j3_ok R e)))
def F33_j32 (R : ER) (x0 x3 x5 x6 x7 : Value) : WP :=
  pv (nilO x0) fun v226 =>
  pv (faO 4 v226) fun v227 =>
  ld1 v227 fun v228 =>
  pv (lenS v228) fun v229 =>
  pv (bin .gtr v229 (.int .i64 0)) fun v230 =>
  cnd v230 (
   drewV (
   pv (faO 1 x3) fun v231 =>
   ld1 v231 fun v232 =>
   pv (cvI .u64 v232) fun v233 =>
   pv (nilO x0) fun v234 =>
   pv (faO 4 v234) fun v235 =>
   ld1 v235 fun v236 =>
   pv (lenS v236) fun v237 =>
   pv (cvI .u64 v237) fun v238 =>
   pv (bin .rem v233 v238) fun v239 =>
   pv (cvI .i64 v239) fun v240 =>
   F33_j1 R x0 x3 x5 x6 v240)) (
   F33_j1 R x0 x3 x5 x6 x7)
theorem F33_j32_ok (R : ER) (e : Env) : den Pg R (cd Try.f33 [1,1,1,1,1,0]) e (setN (kont Pg R Try.f33) (fun e => F33_j1 R (e 0) (e 3) (e 5) (e 6) (e 7))) = (F33_j32 R (e 0) (e 3) (e 5) (e 6) (e 7)) := (by kernel_rfl)
def F33 (R : ER) (x0 x1 : Value) : WP :=
  bx 85 x1 fun v241 =>
  drewV (
  pv (nilO x0) fun v242 =>
  pv (faO 5 v242) fun v243 =>
  ld1 v243 fun v244 =>
  pv (faO 2 v241) fun v245 =>
  ld1 v245 fun v246 =>
  pv (bin .rem v246 (.int .u8 8)) fun v247 =>
  pv (cvI .i64 v247) fun v248 =>
  pv (bin .add v244 v248) fun v249 =>
  pv (nilO x0) fun v250 =>
  pv (faO 5 v250) fun v251 =>
  mem fun w253 => st1 v251 v249 fun v252 =>
  pv (faO 0 v241) fun v254 =>
  ld1 v254 fun v255 =>
  pv (cvI .u64 v255) fun v256 =>
  pv (bin .rem v256 (.int .u64 10)) fun v257 =>
  pv (cvI .i64 v257) fun v258 =>
  pv (bin .rem v258 (.int .i64 2)) fun v259 =>
  F33_j32 R x0 v241 v258 v259 (.int .i64 0))
theorem orpimentlaw35_talk_step_den (R : ER) (x0 x1 : Value) : den Pg R (cd Try.f33 []) (argsEnv [x0, x1]) (kont Pg R Try.f33) = F33 R x0 x1 :=
  have h : ∀ e, den Pg R (cd Try.f33 []) e (kont Pg R Try.f33) = F33 R (e 0) (e 1) := fun e => (den_join Pg R 5 (cd Try.f33 []) (cd Try.f33 [1,1,1,1,1,1]) e (kont Pg R Try.f33) (fun e => F33_j1 R (e 0) (e 3) (e 5) (e 6) (e 7)) _ (by kernel_rfl) (fun e => F33_j1_ok R e) (den_join Pg R 4 (pre 5 (cd Try.f33 [])) (cd Try.f33 [1,1,1,1,1,0]) e (setN (kont Pg R Try.f33) (fun e => F33_j1 R (e 0) (e 3) (e 5) (e 6) (e 7))) (fun e => F33_j32 R (e 0) (e 3) (e 5) (e 6) (e 7)) _ (by kernel_rfl) (fun e => F33_j32_ok R e) (by kernel_rfl)))
  h _
theorem F33_calls {R : ER} {x0 x1 : Value} {w : World} (h : F33 R x0 x1 w) : Calls Pg 33 ⟨[x0, x1]⟩ w R :=
  calls_of_den Try.func33 (by kernel_rfl) (by kernel_rfl) (orpimentlaw35_talk_step_den R x0 x1) h
/-! ### 34: F34 -/
def F34 (R : ER) (x0 x1 : Value) : WP :=
  pv (bin .lss x1 (.int .i64 0)) fun v1 =>
  gd v1 false (pv (some x1)) fun v2 =>
  gd v1 false (pv (bin .gtr v2 (.int .i64 1099511627776))) fun v3 =>
  pv (pickO v1 (.bool true) v3) fun v4 =>
  cnd v4 (
   R (.returned (.int .i64 34))) (
   pv (nilO x0) fun v5 =>
   pv (faO 4 v5) fun v6 =>
   ld1 v6 fun v7 =>
   pv (bin .lss x1 v7) fun v8 =>
   cnd v8 (
    R (.returned (.int .i64 30))) (
    pv (nilO x0) fun v9 =>
    pv (faO 10 v9) fun v10 =>
    ld1 v10 fun v11 =>
    cnd v11 (
     R (.returned (.int .i64 4))) (
     R (.returned (.int .i64 0)))))
theorem links_Link_time_den (R : ER) (x0 x1 : Value) : den Pg R (cd Try.f34 []) (argsEnv [x0, x1]) (kont Pg R Try.f34) = F34 R x0 x1 :=
  have h : ∀ e, den Pg R (cd Try.f34 []) e (kont Pg R Try.f34) = F34 R (e 0) (e 1) := fun e => (by kernel_rfl)
  h _
theorem F34_calls {R : ER} {x0 x1 : Value} {w : World} (h : F34 R x0 x1 w) : Calls Pg 34 ⟨[x0, x1]⟩ w R :=
  calls_of_den Try.func34 (by kernel_rfl) (by kernel_rfl) (links_Link_time_den R x0 x1) h
/-! ### 35: F35 -/
def F35 (R : ER) (x0 x1 : Value) : WP :=
  bx 24 x0 fun v1 =>
  bx 3 x1 fun v2 =>
  R (.returned (.func (.func 61) ⟨[]⟩ ⟨[v2, v1]⟩))
theorem links_pieces_den (R : ER) (x0 x1 : Value) : den Pg R (cd Try.f35 []) (argsEnv [x0, x1]) (kont Pg R Try.f35) = F35 R x0 x1 :=
  have h : ∀ e, den Pg R (cd Try.f35 []) e (kont Pg R Try.f35) = F35 R (e 0) (e 1) := fun e => by kernel_rfl
  h _
theorem F35_calls {R : ER} {x0 x1 : Value} {w : World} (h : F35 R x0 x1 w) : Calls Pg 35 ⟨[x0, x1]⟩ w R :=
  calls_of_den Try.func35 (by kernel_rfl) (by kernel_rfl) (links_pieces_den R x0 x1) h
/-! ### 36: F36 -/
def F36 (R : ER) (x0 x1 : Value) : WP :=
  cal Pg R 62 ⟨[x0, x1]⟩ fun v1 =>
  pv (bin .geq v1 (.int .i64 0)) fun v2 =>
  R (.returned v2)
theorem slices_ContainsFunc_den (R : ER) (x0 x1 : Value) : den Pg R (cd Try.f36 []) (argsEnv [x0, x1]) (kont Pg R Try.f36) = F36 R x0 x1 :=
  have h : ∀ e, den Pg R (cd Try.f36 []) e (kont Pg R Try.f36) = F36 R (e 0) (e 1) := fun e => by kernel_rfl
  h _
theorem F36_calls {R : ER} {x0 x1 : Value} {w : World} (h : F36 R x0 x1 w) : Calls Pg 36 ⟨[x0, x1]⟩ w R :=
  calls_of_den Try.func36 (by kernel_rfl) (by kernel_rfl) (slices_ContainsFunc_den R x0 x1) h
/-! ### 37: F37 -/
def F37 (R : ER) (x0 : Value) : WP :=
  bx 101 x0 fun v1 =>
  pv (faO 5 v1) fun v2 =>
  ld1 v2 fun v3 =>
  pv (bin .lss v3 (.int .i64 0)) fun v4 =>
  R (.returned v4)
theorem links_Link_Next_1_den (R : ER) (x0 : Value) : den Pg R (cd Try.f37 []) (argsEnv [x0]) (kont Pg R Try.f37) = F37 R x0 :=
  have h : ∀ e, den Pg R (cd Try.f37 []) e (kont Pg R Try.f37) = F37 R (e 0) := fun e => by kernel_rfl
  h _
theorem F37_calls {R : ER} {x0 : Value} {w : World} (h : F37 R x0 w) : Calls Pg 37 ⟨[x0]⟩ w R :=
  calls_of_den Try.func37 (by kernel_rfl) (by kernel_rfl) (links_Link_Next_1_den R x0) h
/-! ### 38: F38 -/
def F38_j1 (R : ER) (x3 : Value) : WP :=
  R (.returned x3)
theorem F38_j1_ok (R : ER) (e : Env) : den Pg R (cd Try.f38 [1,1,1]) e (kont Pg R Try.f38) = (F38_j1 R (e 3)) := by kernel_rfl
def F38_j5 (R : ER) (k1 : V4) (x3 x9 x10 x11 : Value) : WP :=
  pv (bin .add x11 (.int .i64 1)) fun v1 =>
  k1 x3 x9 x10 v1
theorem F38_j5_ok (R : ER) (k1 : V4) (e : Env) : den Pg R (cd Try.f38 [1,1,0,1,0,0,1,1,1]) e (setN (inB 0 (setN (kont Pg R Try.f38) (fun e => F38_j1 R (e 3)))) (fun e => k1 (e 3) (e 9) (e 10) (e 11))) = (F38_j5 R k1 (e 3) (e 9) (e 10) (e 11)) := by kernel_rfl
def F38_j4 (R : ER) (k1 : V4) (x3 x9 x10 x11 : Value) : WP :=
  pv (ixS 1 x9 x11) fun v2 =>
  ld1 v2 fun v3 =>
  cnd v3 (
   valV Pg R (Instr.buildSlice 104 1 ⟨[(0, x11)]⟩) fun v4 =>
   blt Pg R .append ⟨[104,104]⟩ 104 ⟨[false, false]⟩ ⟨[x3, v4]⟩ fun v5 =>
   F38_j5 R k1 v5 x9 x10 x11) (
   F38_j5 R k1 x3 x9 x10 x11)
theorem F38_j4_ok (R : ER) (k1 : V4) (e : Env) : den Pg R (cd Try.f38 [1,1,0,1,0,0,1,1]) e (setN (inB 0 (setN (kont Pg R Try.f38) (fun e => F38_j1 R (e 3)))) (fun e => k1 (e 3) (e 9) (e 10) (e 11))) = (F38_j4 R k1 (e 3) (e 9) (e 10) (e 11)) := (den_join Pg R 0 (cd Try.f38 [1,1,0,1,0,0,1,1]) (cd Try.f38 [1,1,0,1,0,0,1,1,1]) e (setN (inB 0 (setN (kont Pg R Try.f38) (fun e => F38_j1 R (e 3)))) (fun e => k1 (e 3) (e 9) (e 10) (e 11))) (fun e => F38_j5 R k1 (e 3) (e 9) (e 10) (e 11)) _ (by kernel_rfl) (fun e => F38_j5_ok R k1 e) (by kernel_rfl))
def F38_b1 (R : ER) (k1 : V4) (x3 x9 x10 x11 : Value) : WP :=
  pv (bin .lss x11 x10) fun v6 =>
  cnd v6 (
   F38_j4 R k1 x3 x9 x10 x11) (
   F38_j1 R x3)
theorem F38_b1_ok (R : ER) (k1 : V4) (e : Env) : den Pg R (cd Try.f38 [1,1,0,1,0,0]) e (setN (inB 0 (setN (kont Pg R Try.f38) (fun e => F38_j1 R (e 3)))) (fun e => k1 (e 3) (e 9) (e 10) (e 11))) = (F38_b1 R k1 (e 3) (e 9) (e 10) (e 11)) := (den_join Pg R 1 (cd Try.f38 [1,1,0,1,0,0]) (cd Try.f38 [1,1,0,1,0,0,1,1]) e (setN (inB 0 (setN (kont Pg R Try.f38) (fun e => F38_j1 R (e 3)))) (fun e => k1 (e 3) (e 9) (e 10) (e 11))) (fun e => F38_j4 R k1 (e 3) (e 9) (e 10) (e 11)) _ (by kernel_rfl) (fun e => F38_j4_ok R k1 e) (by kernel_rfl))
noncomputable def F38_l1 (R : ER) (n : Nat) : V4 := Nat.rec (motive := fun _ => V4) (fun _ _ _ _ => fun _ => False) (fun _ ih => fun x3 x9 x10 x11 => F38_b1 R ih x3 x9 x10 x11) n
theorem F38_l1_succ (R : ER) (n : Nat) (x3 x9 x10 x11 : Value) : F38_l1 R (n + 1) x3 x9 x10 x11 = F38_b1 R (F38_l1 R n) x3 x9 x10 x11 := rfl
theorem F38_l1_ok (R : ER) : ∀ (n : Nat) (e : Env), iterL (den Pg R (cd Try.f38 [1,1,0,1,0,0])) n e (inB 0 (setN (kont Pg R Try.f38) (fun e => F38_j1 R (e 3)))) = F38_l1 R n (e 3) (e 9) (e 10) (e 11) :=
  iterL_join (den Pg R (cd Try.f38 [1,1,0,1,0,0])) (inB 0 (setN (kont Pg R Try.f38) (fun e => F38_j1 R (e 3)))) (fun n e => F38_l1 R n (e 3) (e 9) (e 10) (e 11)) (fun _ => rfl) (fun n e => (F38_b1_ok R (F38_l1 R n) e).trans (F38_l1_succ R n (e 3) (e 9) (e 10) (e 11)).symm)
def F38_j3 (R : ER) (x3 x9 x10 x11 : Value) : WP :=
  exN fun n => F38_l1 R n x3 x9 x10 x11
theorem F38_j3_ok (R : ER) (e : Env) : den Pg R (cd Try.f38 [1,1,0,1]) e (setN (kont Pg R Try.f38) (fun e => F38_j1 R (e 3))) = (F38_j3 R (e 3) (e 9) (e 10) (e 11)) := (den_block Pg R (cd Try.f38 [1,1,0,1]) 0 (cd Try.f38 [1,1,0,1,0]) e (setN (kont Pg R Try.f38) (fun e => F38_j1 R (e 3))) _ (by kernel_rfl) (den_loop Pg R (cd Try.f38 [1,1,0,1,0]) (cd Try.f38 [1,1,0,1,0,0]) e (inB 0 (setN (kont Pg R Try.f38) (fun e => F38_j1 R (e 3)))) (fun n e => F38_l1 R n (e 3) (e 9) (e 10) (e 11)) _ (by kernel_rfl) (F38_l1_ok R) (by kernel_rfl)))
def F38_j2 (R : ER) (x0 x3 : Value) : WP :=
  pv (nilO x0) fun v7 =>
  pv (faO 0 v7) fun v8 =>
  ld1 v8 fun v9 =>
  pv (lenS v9) fun v10 =>
  F38_j3 R x3 v9 v10 (.int .i64 0)
theorem F38_j2_ok (R : ER) (e : Env) : den Pg R (cd Try.f38 [1,1,0]) e (setN (kont Pg R Try.f38) (fun e => F38_j1 R (e 3))) = (F38_j2 R (e 0) (e 3)) := (den_join Pg R 0 (cd Try.f38 [1,1,0]) (cd Try.f38 [1,1,0,1]) e (setN (kont Pg R Try.f38) (fun e => F38_j1 R (e 3))) (fun e => F38_j3 R (e 3) (e 9) (e 10) (e 11)) _ (by kernel_rfl) (fun e => F38_j3_ok R e) (by kernel_rfl))
def F38 (R : ER) (x0 : Value) : WP :=
  F38_j2 R x0 (.slice none 0 0)
theorem links_Link_usable_den (R : ER) (x0 : Value) : den Pg R (cd Try.f38 []) (argsEnv [x0]) (kont Pg R Try.f38) = F38 R x0 :=
  have h : ∀ e, den Pg R (cd Try.f38 []) e (kont Pg R Try.f38) = F38 R (e 0) := fun e => (den_join Pg R 2 (cd Try.f38 []) (cd Try.f38 [1,1,1]) e (kont Pg R Try.f38) (fun e => F38_j1 R (e 3)) _ (by kernel_rfl) (fun e => F38_j1_ok R e) (den_join Pg R 1 (pre 2 (cd Try.f38 [])) (cd Try.f38 [1,1,0]) e (setN (kont Pg R Try.f38) (fun e => F38_j1 R (e 3))) (fun e => F38_j2 R (e 0) (e 3)) _ (by kernel_rfl) (fun e => F38_j2_ok R e) (by kernel_rfl)))
  h _
theorem F38_calls {R : ER} {x0 : Value} {w : World} (h : F38 R x0 w) : Calls Pg 38 ⟨[x0]⟩ w R :=
  calls_of_den Try.func38 (by kernel_rfl) (by kernel_rfl) (links_Link_usable_den R x0) h
/-! ### 39: F39 -/
def F39 (R : ER) (x0 x1 : Value) : WP :=
  pv (nilO x0) fun v1 =>
  pv (faO 2 v1) fun v2 =>
  ld1 v2 fun v3 =>
  pv (bin .eql v3 (.int .i64 0)) fun v4 =>
  cnd v4 (
   pv (slS 1 x1 none (some (.int .i64 1))) fun v5 =>
   R (.returned v5)) (
   pv (bin .eql v3 (.int .i64 1)) fun v6 =>
   cnd v6 (
    pv (nilO x0) fun v7 =>
    pv (faO 9 v7) fun v8 =>
    ld1 v8 fun v9 =>
    pv (lenS x1) fun v10 =>
    pv (bin .rem v9 v10) fun v11 =>
    pv (nilO x0) fun v12 =>
    pv (faO 9 v12) fun v13 =>
    ld1 v13 fun v14 =>
    pv (bin .add v14 (.int .i64 1)) fun v15 =>
    pv (nilO x0) fun v16 =>
    pv (faO 9 v16) fun v17 =>
    st1 v17 v15 fun _ =>
    pv (bin .add v11 (.int .i64 1)) fun v18 =>
    pv (slS 1 x1 (some v11) (some v18)) fun v19 =>
    R (.returned v19)) (
    R (.returned x1)))
theorem links_Link_over_den (R : ER) (x0 x1 : Value) : den Pg R (cd Try.f39 []) (argsEnv [x0, x1]) (kont Pg R Try.f39) = F39 R x0 x1 :=
  have h : ∀ e, den Pg R (cd Try.f39 []) e (kont Pg R Try.f39) = F39 R (e 0) (e 1) := fun e => (by kernel_rfl)
  h _
theorem F39_calls {R : ER} {x0 x1 : Value} {w : World} (h : F39 R x0 x1 w) : Calls Pg 39 ⟨[x0, x1]⟩ w R :=
  calls_of_den Try.func39 (by kernel_rfl) (by kernel_rfl) (links_Link_over_den R x0 x1) h
/-! ### 40: F40 -/
def F40 (R : ER) : WP :=
  al Pg 112 fun v1 =>
  pv (bldO [.int .i64 0, .int .i64 0] [(0,1, (.int .i64 2)), (1,1, (.int .i64 2))]) fun v2 =>
  pv (bldO [.int .i64 0, .int .i64 0] [(0,1, (.int .i64 4)), (1,1, (.int .i64 8))]) fun v3 =>
  pv (bldO [.int .i64 0, .int .i64 0] [(0,1, (.int .i64 12)), (1,1, (.int .i64 4))]) fun v4 =>
  pv (bldO [.int .i64 0, .int .i64 0] [(0,1, (.int .i64 16)), (1,1, (.int .i64 8))]) fun v5 =>
  pv (bldO [.int .i64 0, .int .i64 0, .int .i64 0, .int .i64 0, .int .i64 0, .int .i64 0, .int .i64 0, .int .i64 0] [(0,2, v2), (2,2, v3), (4,2, v4), (6,2, v5)]) fun v6 =>
  stN 8 v1 v6 fun _ =>
  ldN 8 v1 fun v7 => R (.returned v7)
theorem links_fields_den (R : ER) : den Pg R (cd Try.f40 []) (argsEnv []) (kont Pg R Try.f40) = F40 R :=
  have h : ∀ e, den Pg R (cd Try.f40 []) e (kont Pg R Try.f40) = F40 R := fun e => by kernel_rfl
  h _
theorem F40_calls {R : ER} {w : World} (h : F40 R w) : Calls Pg 40 ⟨[]⟩ w R :=
  calls_of_den Try.func40 (by kernel_rfl) (by kernel_rfl) (links_fields_den R) h
/-! ### 41: F41 -/
def F41_j2 (R : ER) (k1 : V4) (x1 x2 x3 x6 : Value) : WP :=
  pv (faO 0 x3) fun v1 =>
  ld1 v1 fun v2 =>
  pv (bin .add v2 x6) fun v3 =>
  pv (cvI .u8 x2) fun v4 =>
  pv (ixS 1 x1 v3) fun v5 =>
  st1 v5 v4 fun _ =>
  pv (bin .shr x2 (.int .u64 8)) fun v6 =>
  pv (bin .sub x6 (.int .i64 1)) fun v7 =>
  k1 x1 v6 x3 v7
theorem F41_j2_ok (R : ER) (k1 : V4) (e : Env) : den Pg R (cd Try.f41 [1,1,0,0,1]) e (setN (inB 0 (kont Pg R Try.f41)) (fun e => k1 (e 1) (e 2) (e 3) (e 6))) = (F41_j2 R k1 (e 1) (e 2) (e 3) (e 6)) := by kernel_rfl
def F41_b1 (R : ER) (k1 : V4) (x1 x2 x3 x6 : Value) : WP :=
  pv (bin .geq x6 (.int .i64 0)) fun v8 =>
  cnd v8 (
   F41_j2 R k1 x1 x2 x3 x6) (
   R (.returned (.tuple ⟨[]⟩)))
theorem F41_b1_ok (R : ER) (k1 : V4) (e : Env) : den Pg R (cd Try.f41 [1,1,0,0]) e (setN (inB 0 (kont Pg R Try.f41)) (fun e => k1 (e 1) (e 2) (e 3) (e 6))) = (F41_b1 R k1 (e 1) (e 2) (e 3) (e 6)) := (den_join Pg R 0 (cd Try.f41 [1,1,0,0]) (cd Try.f41 [1,1,0,0,1]) e (setN (inB 0 (kont Pg R Try.f41)) (fun e => k1 (e 1) (e 2) (e 3) (e 6))) (fun e => F41_j2 R k1 (e 1) (e 2) (e 3) (e 6)) _ (by kernel_rfl) (fun e => F41_j2_ok R k1 e) (by kernel_rfl))
noncomputable def F41_l1 (R : ER) (n : Nat) : V4 := Nat.rec (motive := fun _ => V4) (fun _ _ _ _ => fun _ => False) (fun _ ih => fun x1 x2 x3 x6 => F41_b1 R ih x1 x2 x3 x6) n
theorem F41_l1_succ (R : ER) (n : Nat) (x1 x2 x3 x6 : Value) : F41_l1 R (n + 1) x1 x2 x3 x6 = F41_b1 R (F41_l1 R n) x1 x2 x3 x6 := rfl
theorem F41_l1_ok (R : ER) : ∀ (n : Nat) (e : Env), iterL (den Pg R (cd Try.f41 [1,1,0,0])) n e (inB 0 (kont Pg R Try.f41)) = F41_l1 R n (e 1) (e 2) (e 3) (e 6) :=
  iterL_join (den Pg R (cd Try.f41 [1,1,0,0])) (inB 0 (kont Pg R Try.f41)) (fun n e => F41_l1 R n (e 1) (e 2) (e 3) (e 6)) (fun _ => rfl) (fun n e => (F41_b1_ok R (F41_l1 R n) e).trans (F41_l1_succ R n (e 1) (e 2) (e 3) (e 6)).symm)
def F41_j1 (R : ER) (x1 x2 x3 x6 : Value) : WP :=
  exN fun n => F41_l1 R n x1 x2 x3 x6
theorem F41_j1_ok (R : ER) (e : Env) : den Pg R (cd Try.f41 [1,1]) e (kont Pg R Try.f41) = (F41_j1 R (e 1) (e 2) (e 3) (e 6)) := (den_block Pg R (cd Try.f41 [1,1]) 0 (cd Try.f41 [1,1,0]) e (kont Pg R Try.f41) _ (by kernel_rfl) (den_loop Pg R (cd Try.f41 [1,1,0]) (cd Try.f41 [1,1,0,0]) e (inB 0 (kont Pg R Try.f41)) (fun n e => F41_l1 R n (e 1) (e 2) (e 3) (e 6)) _ (by kernel_rfl) (F41_l1_ok R) (by kernel_rfl)))
def F41 (R : ER) (x0 x1 x2 : Value) : WP :=
  bx 111 x0 fun v9 =>
  pv (faO 1 v9) fun v10 =>
  ld1 v10 fun v11 =>
  pv (bin .sub v11 (.int .i64 1)) fun v12 =>
  F41_j1 R x1 x2 v9 v12
theorem links_field_put_den (R : ER) (x0 x1 x2 : Value) : den Pg R (cd Try.f41 []) (argsEnv [x0, x1, x2]) (kont Pg R Try.f41) = F41 R x0 x1 x2 :=
  have h : ∀ e, den Pg R (cd Try.f41 []) e (kont Pg R Try.f41) = F41 R (e 0) (e 1) (e 2) := fun e => (den_join Pg R 1 (cd Try.f41 []) (cd Try.f41 [1,1]) e (kont Pg R Try.f41) (fun e => F41_j1 R (e 1) (e 2) (e 3) (e 6)) _ (by kernel_rfl) (fun e => F41_j1_ok R e) (by kernel_rfl))
  h _
theorem F41_calls {R : ER} {x0 x1 x2 : Value} {w : World} (h : F41 R x0 x1 x2 w) : Calls Pg 41 ⟨[x0, x1, x2]⟩ w R :=
  calls_of_den Try.func41 (by kernel_rfl) (by kernel_rfl) (links_field_put_den R x0 x1 x2) h
/-! ### 42: F42 -/
def F42_j1 (R : ER) (x3 : Value) : WP :=
  R (.returned x3)
theorem F42_j1_ok (R : ER) (e : Env) : den Pg R (cd Try.f42 [1,1,1]) e (kont Pg R Try.f42) = (F42_j1 R (e 3)) := by kernel_rfl
def F42_j5 (R : ER) (k1 : V4) (x3 x6 x7 x8 : Value) : WP :=
  pv (bin .add x8 (.int .i64 1)) fun v1 =>
  k1 x3 x6 x7 v1
theorem F42_j5_ok (R : ER) (k1 : V4) (e : Env) : den Pg R (cd Try.f42 [1,1,0,1,0,0,1,1,1]) e (setN (inB 0 (setN (kont Pg R Try.f42) (fun e => F42_j1 R (e 3)))) (fun e => k1 (e 3) (e 6) (e 7) (e 8))) = (F42_j5 R k1 (e 3) (e 6) (e 7) (e 8)) := by kernel_rfl
def F42_j6 (R : ER) (k1 : V4) (x3 x6 x7 x8 : Value) : WP :=
  pv (ixS 1 x6 x8) fun v2 =>
  ld1 v2 fun v3 =>
  pv (bin .lss x8 (.int .i64 16)) fun v4 =>
  gd v4 false (pv (some x8)) fun v5 =>
  gd v4 false (pv (bin .geq v5 (.int .i64 24))) fun v6 =>
  pv (pickO v4 (.bool true) v6) fun v7 =>
  cnd v7 (
   pv (cvI .u64 v3) fun v8 =>
   pv (bin .xor x3 v8) fun v9 =>
   pv (bin .mul v9 (.int .u64 1099511628211)) fun v10 =>
   F42_j5 R k1 v10 x6 x7 x8) (
   F42_j5 R k1 x3 x6 x7 x8)
theorem F42_j6_ok (R : ER) (k1 : V4) (e : Env) : den Pg R (cd Try.f42 [1,1,0,1,0,0,1,1,0]) e (setN (setN (inB 0 (setN (kont Pg R Try.f42) (fun e => F42_j1 R (e 3)))) (fun e => k1 (e 3) (e 6) (e 7) (e 8))) (fun e => F42_j5 R k1 (e 3) (e 6) (e 7) (e 8))) = (F42_j6 R k1 (e 3) (e 6) (e 7) (e 8)) := (den_block Pg R (cd Try.f42 [1,1,0,1,0,0,1,1,0]) 1 (cd Try.f42 [1,1,0,1,0,0,1,1,0,0]) e (setN (setN (inB 0 (setN (kont Pg R Try.f42) (fun e => F42_j1 R (e 3)))) (fun e => k1 (e 3) (e 6) (e 7) (e 8))) (fun e => F42_j5 R k1 (e 3) (e 6) (e 7) (e 8))) _ (by kernel_rfl) (by kernel_rfl))
def F42_j4 (R : ER) (k1 : V4) (x3 x6 x7 x8 : Value) : WP :=
  F42_j6 R k1 x3 x6 x7 x8
theorem F42_j4_ok (R : ER) (k1 : V4) (e : Env) : den Pg R (cd Try.f42 [1,1,0,1,0,0,1,1]) e (setN (inB 0 (setN (kont Pg R Try.f42) (fun e => F42_j1 R (e 3)))) (fun e => k1 (e 3) (e 6) (e 7) (e 8))) = (F42_j4 R k1 (e 3) (e 6) (e 7) (e 8)) := (den_join Pg R 0 (cd Try.f42 [1,1,0,1,0,0,1,1]) (cd Try.f42 [1,1,0,1,0,0,1,1,1]) e (setN (inB 0 (setN (kont Pg R Try.f42) (fun e => F42_j1 R (e 3)))) (fun e => k1 (e 3) (e 6) (e 7) (e 8))) (fun e => F42_j5 R k1 (e 3) (e 6) (e 7) (e 8)) _ (by kernel_rfl) (fun e => F42_j5_ok R k1 e) (den_conv Pg R (pre 0 (cd Try.f42 [1,1,0,1,0,0,1,1])) (cd Try.f42 [1,1,0,1,0,0,1,1,0]) e (setN (setN (inB 0 (setN (kont Pg R Try.f42) (fun e => F42_j1 R (e 3)))) (fun e => k1 (e 3) (e 6) (e 7) (e 8))) (fun e => F42_j5 R k1 (e 3) (e 6) (e 7) (e 8))) _ (by kernel_rfl) (F42_j6_ok R k1 e)))
def F42_b1 (R : ER) (k1 : V4) (x3 x6 x7 x8 : Value) : WP :=
  pv (bin .lss x8 x7) fun v11 =>
  cnd v11 (
   F42_j4 R k1 x3 x6 x7 x8) (
   F42_j1 R x3)
theorem F42_b1_ok (R : ER) (k1 : V4) (e : Env) : den Pg R (cd Try.f42 [1,1,0,1,0,0]) e (setN (inB 0 (setN (kont Pg R Try.f42) (fun e => F42_j1 R (e 3)))) (fun e => k1 (e 3) (e 6) (e 7) (e 8))) = (F42_b1 R k1 (e 3) (e 6) (e 7) (e 8)) := (den_join Pg R 1 (cd Try.f42 [1,1,0,1,0,0]) (cd Try.f42 [1,1,0,1,0,0,1,1]) e (setN (inB 0 (setN (kont Pg R Try.f42) (fun e => F42_j1 R (e 3)))) (fun e => k1 (e 3) (e 6) (e 7) (e 8))) (fun e => F42_j4 R k1 (e 3) (e 6) (e 7) (e 8)) _ (by kernel_rfl) (fun e => F42_j4_ok R k1 e) (by kernel_rfl))
noncomputable def F42_l1 (R : ER) (n : Nat) : V4 := Nat.rec (motive := fun _ => V4) (fun _ _ _ _ => fun _ => False) (fun _ ih => fun x3 x6 x7 x8 => F42_b1 R ih x3 x6 x7 x8) n
theorem F42_l1_succ (R : ER) (n : Nat) (x3 x6 x7 x8 : Value) : F42_l1 R (n + 1) x3 x6 x7 x8 = F42_b1 R (F42_l1 R n) x3 x6 x7 x8 := rfl
theorem F42_l1_ok (R : ER) : ∀ (n : Nat) (e : Env), iterL (den Pg R (cd Try.f42 [1,1,0,1,0,0])) n e (inB 0 (setN (kont Pg R Try.f42) (fun e => F42_j1 R (e 3)))) = F42_l1 R n (e 3) (e 6) (e 7) (e 8) :=
  iterL_join (den Pg R (cd Try.f42 [1,1,0,1,0,0])) (inB 0 (setN (kont Pg R Try.f42) (fun e => F42_j1 R (e 3)))) (fun n e => F42_l1 R n (e 3) (e 6) (e 7) (e 8)) (fun _ => rfl) (fun n e => (F42_b1_ok R (F42_l1 R n) e).trans (F42_l1_succ R n (e 3) (e 6) (e 7) (e 8)).symm)
def F42_j3 (R : ER) (x3 x6 x7 x8 : Value) : WP :=
  exN fun n => F42_l1 R n x3 x6 x7 x8
theorem F42_j3_ok (R : ER) (e : Env) : den Pg R (cd Try.f42 [1,1,0,1]) e (setN (kont Pg R Try.f42) (fun e => F42_j1 R (e 3))) = (F42_j3 R (e 3) (e 6) (e 7) (e 8)) := (den_block Pg R (cd Try.f42 [1,1,0,1]) 0 (cd Try.f42 [1,1,0,1,0]) e (setN (kont Pg R Try.f42) (fun e => F42_j1 R (e 3))) _ (by kernel_rfl) (den_loop Pg R (cd Try.f42 [1,1,0,1,0]) (cd Try.f42 [1,1,0,1,0,0]) e (inB 0 (setN (kont Pg R Try.f42) (fun e => F42_j1 R (e 3)))) (fun n e => F42_l1 R n (e 3) (e 6) (e 7) (e 8)) _ (by kernel_rfl) (F42_l1_ok R) (by kernel_rfl)))
def F42_j2 (R : ER) (x0 x3 : Value) : WP :=
  pv (lenS x0) fun v12 =>
  F42_j3 R x3 x0 v12 (.int .i64 0)
theorem F42_j2_ok (R : ER) (e : Env) : den Pg R (cd Try.f42 [1,1,0]) e (setN (kont Pg R Try.f42) (fun e => F42_j1 R (e 3))) = (F42_j2 R (e 0) (e 3)) := (den_join Pg R 0 (cd Try.f42 [1,1,0]) (cd Try.f42 [1,1,0,1]) e (setN (kont Pg R Try.f42) (fun e => F42_j1 R (e 3))) (fun e => F42_j3 R (e 3) (e 6) (e 7) (e 8)) _ (by kernel_rfl) (fun e => F42_j3_ok R e) (by kernel_rfl))
def F42 (R : ER) (x0 : Value) : WP :=
  F42_j2 R x0 (.int .u64 14695981039346656037)
theorem links_digest_den (R : ER) (x0 : Value) : den Pg R (cd Try.f42 []) (argsEnv [x0]) (kont Pg R Try.f42) = F42 R x0 :=
  have h : ∀ e, den Pg R (cd Try.f42 []) e (kont Pg R Try.f42) = F42 R (e 0) := fun e => (den_join Pg R 2 (cd Try.f42 []) (cd Try.f42 [1,1,1]) e (kont Pg R Try.f42) (fun e => F42_j1 R (e 3)) _ (by kernel_rfl) (fun e => F42_j1_ok R e) (den_join Pg R 1 (pre 2 (cd Try.f42 [])) (cd Try.f42 [1,1,0]) e (setN (kont Pg R Try.f42) (fun e => F42_j1 R (e 3))) (fun e => F42_j2 R (e 0) (e 3)) _ (by kernel_rfl) (fun e => F42_j2_ok R e) (by kernel_rfl)))
  h _
theorem F42_calls {R : ER} {x0 : Value} {w : World} (h : F42 R x0 w) : Calls Pg 42 ⟨[x0]⟩ w R :=
  calls_of_den Try.func42 (by kernel_rfl) (by kernel_rfl) (links_digest_den R x0) h
/-! ### 43: F43 -/
def F43_j1 (R : ER) (x5 : Value) : WP :=
  R (.returned x5)
theorem F43_j1_ok (R : ER) (e : Env) : den Pg R (cd Try.f43 [1,1,1]) e (kont Pg R Try.f43) = (F43_j1 R (e 5)) := by kernel_rfl
def F43_j4 (R : ER) (k1 : V3) (x0 x5 x6 : Value) : WP :=
  pv (bin .mul (.int .i64 8) x6) fun v1 =>
  pv (cvI .u64 v1) fun v2 =>
  pv (bin .shr x0 v2) fun v3 =>
  pv (cvI .u8 v3) fun v4 =>
  valV Pg R (Instr.buildSlice 24 1 ⟨[(0, v4)]⟩) fun v5 =>
  blt Pg R .append ⟨[24,24]⟩ 24 ⟨[false, false]⟩ ⟨[x5, v5]⟩ fun v6 =>
  pv (bin .sub x6 (.int .i64 1)) fun v7 =>
  k1 x0 v6 v7
theorem F43_j4_ok (R : ER) (k1 : V3) (e : Env) : den Pg R (cd Try.f43 [1,1,0,1,0,0,1]) e (setN (inB 0 (setN (kont Pg R Try.f43) (fun e => F43_j1 R (e 5)))) (fun e => k1 (e 0) (e 5) (e 6))) = (F43_j4 R k1 (e 0) (e 5) (e 6)) := by kernel_rfl
def F43_b1 (R : ER) (k1 : V3) (x0 x5 x6 : Value) : WP :=
  pv (bin .geq x6 (.int .i64 0)) fun v8 =>
  cnd v8 (
   F43_j4 R k1 x0 x5 x6) (
   F43_j1 R x5)
theorem F43_b1_ok (R : ER) (k1 : V3) (e : Env) : den Pg R (cd Try.f43 [1,1,0,1,0,0]) e (setN (inB 0 (setN (kont Pg R Try.f43) (fun e => F43_j1 R (e 5)))) (fun e => k1 (e 0) (e 5) (e 6))) = (F43_b1 R k1 (e 0) (e 5) (e 6)) := (den_join Pg R 0 (cd Try.f43 [1,1,0,1,0,0]) (cd Try.f43 [1,1,0,1,0,0,1]) e (setN (inB 0 (setN (kont Pg R Try.f43) (fun e => F43_j1 R (e 5)))) (fun e => k1 (e 0) (e 5) (e 6))) (fun e => F43_j4 R k1 (e 0) (e 5) (e 6)) _ (by kernel_rfl) (fun e => F43_j4_ok R k1 e) (by kernel_rfl))
noncomputable def F43_l1 (R : ER) (n : Nat) : V3 := Nat.rec (motive := fun _ => V3) (fun _ _ _ => fun _ => False) (fun _ ih => fun x0 x5 x6 => F43_b1 R ih x0 x5 x6) n
theorem F43_l1_succ (R : ER) (n : Nat) (x0 x5 x6 : Value) : F43_l1 R (n + 1) x0 x5 x6 = F43_b1 R (F43_l1 R n) x0 x5 x6 := rfl
theorem F43_l1_ok (R : ER) : ∀ (n : Nat) (e : Env), iterL (den Pg R (cd Try.f43 [1,1,0,1,0,0])) n e (inB 0 (setN (kont Pg R Try.f43) (fun e => F43_j1 R (e 5)))) = F43_l1 R n (e 0) (e 5) (e 6) :=
  iterL_join (den Pg R (cd Try.f43 [1,1,0,1,0,0])) (inB 0 (setN (kont Pg R Try.f43) (fun e => F43_j1 R (e 5)))) (fun n e => F43_l1 R n (e 0) (e 5) (e 6)) (fun _ => rfl) (fun n e => (F43_b1_ok R (F43_l1 R n) e).trans (F43_l1_succ R n (e 0) (e 5) (e 6)).symm)
def F43_j3 (R : ER) (x0 x5 x6 : Value) : WP :=
  exN fun n => F43_l1 R n x0 x5 x6
theorem F43_j3_ok (R : ER) (e : Env) : den Pg R (cd Try.f43 [1,1,0,1]) e (setN (kont Pg R Try.f43) (fun e => F43_j1 R (e 5))) = (F43_j3 R (e 0) (e 5) (e 6)) := (den_block Pg R (cd Try.f43 [1,1,0,1]) 0 (cd Try.f43 [1,1,0,1,0]) e (setN (kont Pg R Try.f43) (fun e => F43_j1 R (e 5))) _ (by kernel_rfl) (den_loop Pg R (cd Try.f43 [1,1,0,1,0]) (cd Try.f43 [1,1,0,1,0,0]) e (inB 0 (setN (kont Pg R Try.f43) (fun e => F43_j1 R (e 5)))) (fun n e => F43_l1 R n (e 0) (e 5) (e 6)) _ (by kernel_rfl) (F43_l1_ok R) (by kernel_rfl)))
def F43_j2 (R : ER) (x0 x1 x5 : Value) : WP :=
  pv (bin .sub x1 (.int .i64 1)) fun v9 =>
  F43_j3 R x0 x5 v9
theorem F43_j2_ok (R : ER) (e : Env) : den Pg R (cd Try.f43 [1,1,0]) e (setN (kont Pg R Try.f43) (fun e => F43_j1 R (e 5))) = (F43_j2 R (e 0) (e 1) (e 5)) := (den_join Pg R 0 (cd Try.f43 [1,1,0]) (cd Try.f43 [1,1,0,1]) e (setN (kont Pg R Try.f43) (fun e => F43_j1 R (e 5))) (fun e => F43_j3 R (e 0) (e 5) (e 6)) _ (by kernel_rfl) (fun e => F43_j3_ok R e) (by kernel_rfl))
def F43 (R : ER) (x0 x1 : Value) : WP :=
  valV Pg R (Instr.buildSlice 24 0 ⟨[]⟩) fun v10 =>
  F43_j2 R x0 x1 v10
theorem orpimentref35_put_den (R : ER) (x0 x1 : Value) : den Pg R (cd Try.f43 []) (argsEnv [x0, x1]) (kont Pg R Try.f43) = F43 R x0 x1 :=
  have h : ∀ e, den Pg R (cd Try.f43 []) e (kont Pg R Try.f43) = F43 R (e 0) (e 1) := fun e => (den_join Pg R 2 (cd Try.f43 []) (cd Try.f43 [1,1,1]) e (kont Pg R Try.f43) (fun e => F43_j1 R (e 5)) _ (by kernel_rfl) (fun e => F43_j1_ok R e) (den_join Pg R 1 (pre 2 (cd Try.f43 [])) (cd Try.f43 [1,1,0]) e (setN (kont Pg R Try.f43) (fun e => F43_j1 R (e 5))) (fun e => F43_j2 R (e 0) (e 1) (e 5)) _ (by kernel_rfl) (fun e => F43_j2_ok R e) (by kernel_rfl)))
  h _
theorem F43_calls {R : ER} {x0 x1 : Value} {w : World} (h : F43 R x0 x1 w) : Calls Pg 43 ⟨[x0, x1]⟩ w R :=
  calls_of_den Try.func43 (by kernel_rfl) (by kernel_rfl) (orpimentref35_put_den R x0 x1) h
/-! ### 44: F44 -/
def F44_j1 (R : ER) (x3 : Value) : WP :=
  R (.returned x3)
theorem F44_j1_ok (R : ER) (e : Env) : den Pg R (cd Try.f44 [1,1,1]) e (kont Pg R Try.f44) = (F44_j1 R (e 3)) := by kernel_rfl
def F44_j4 (R : ER) (k1 : V3) (x0 x3 x4 : Value) : WP :=
  pv (ixS 1 x0 x4) fun v1 =>
  ld1 v1 fun v2 =>
  pv (cvI .u64 v2) fun v3 =>
  pv (bin .xor x3 v3) fun v4 =>
  pv (bin .mul v4 (.int .u64 1099511628211)) fun v5 =>
  pv (bin .add x4 (.int .i64 1)) fun v6 =>
  k1 x0 v5 v6
theorem F44_j4_ok (R : ER) (k1 : V3) (e : Env) : den Pg R (cd Try.f44 [1,1,0,1,0,0,1]) e (setN (inB 0 (setN (kont Pg R Try.f44) (fun e => F44_j1 R (e 3)))) (fun e => k1 (e 0) (e 3) (e 4))) = (F44_j4 R k1 (e 0) (e 3) (e 4)) := by kernel_rfl
def F44_b1 (R : ER) (k1 : V3) (x0 x3 x4 : Value) : WP :=
  pv (lenS x0) fun v7 =>
  pv (bin .lss x4 v7) fun v8 =>
  cnd v8 (
   F44_j4 R k1 x0 x3 x4) (
   F44_j1 R x3)
theorem F44_b1_ok (R : ER) (k1 : V3) (e : Env) : den Pg R (cd Try.f44 [1,1,0,1,0,0]) e (setN (inB 0 (setN (kont Pg R Try.f44) (fun e => F44_j1 R (e 3)))) (fun e => k1 (e 0) (e 3) (e 4))) = (F44_b1 R k1 (e 0) (e 3) (e 4)) := (den_join Pg R 0 (cd Try.f44 [1,1,0,1,0,0]) (cd Try.f44 [1,1,0,1,0,0,1]) e (setN (inB 0 (setN (kont Pg R Try.f44) (fun e => F44_j1 R (e 3)))) (fun e => k1 (e 0) (e 3) (e 4))) (fun e => F44_j4 R k1 (e 0) (e 3) (e 4)) _ (by kernel_rfl) (fun e => F44_j4_ok R k1 e) (by kernel_rfl))
noncomputable def F44_l1 (R : ER) (n : Nat) : V3 := Nat.rec (motive := fun _ => V3) (fun _ _ _ => fun _ => False) (fun _ ih => fun x0 x3 x4 => F44_b1 R ih x0 x3 x4) n
theorem F44_l1_succ (R : ER) (n : Nat) (x0 x3 x4 : Value) : F44_l1 R (n + 1) x0 x3 x4 = F44_b1 R (F44_l1 R n) x0 x3 x4 := rfl
theorem F44_l1_ok (R : ER) : ∀ (n : Nat) (e : Env), iterL (den Pg R (cd Try.f44 [1,1,0,1,0,0])) n e (inB 0 (setN (kont Pg R Try.f44) (fun e => F44_j1 R (e 3)))) = F44_l1 R n (e 0) (e 3) (e 4) :=
  iterL_join (den Pg R (cd Try.f44 [1,1,0,1,0,0])) (inB 0 (setN (kont Pg R Try.f44) (fun e => F44_j1 R (e 3)))) (fun n e => F44_l1 R n (e 0) (e 3) (e 4)) (fun _ => rfl) (fun n e => (F44_b1_ok R (F44_l1 R n) e).trans (F44_l1_succ R n (e 0) (e 3) (e 4)).symm)
def F44_j3 (R : ER) (x0 x3 x4 : Value) : WP :=
  exN fun n => F44_l1 R n x0 x3 x4
theorem F44_j3_ok (R : ER) (e : Env) : den Pg R (cd Try.f44 [1,1,0,1]) e (setN (kont Pg R Try.f44) (fun e => F44_j1 R (e 3))) = (F44_j3 R (e 0) (e 3) (e 4)) := (den_block Pg R (cd Try.f44 [1,1,0,1]) 0 (cd Try.f44 [1,1,0,1,0]) e (setN (kont Pg R Try.f44) (fun e => F44_j1 R (e 3))) _ (by kernel_rfl) (den_loop Pg R (cd Try.f44 [1,1,0,1,0]) (cd Try.f44 [1,1,0,1,0,0]) e (inB 0 (setN (kont Pg R Try.f44) (fun e => F44_j1 R (e 3)))) (fun n e => F44_l1 R n (e 0) (e 3) (e 4)) _ (by kernel_rfl) (F44_l1_ok R) (by kernel_rfl)))
def F44_j2 (R : ER) (x0 x3 : Value) : WP :=
  F44_j3 R x0 x3 (.int .i64 0)
theorem F44_j2_ok (R : ER) (e : Env) : den Pg R (cd Try.f44 [1,1,0]) e (setN (kont Pg R Try.f44) (fun e => F44_j1 R (e 3))) = (F44_j2 R (e 0) (e 3)) := (den_join Pg R 0 (cd Try.f44 [1,1,0]) (cd Try.f44 [1,1,0,1]) e (setN (kont Pg R Try.f44) (fun e => F44_j1 R (e 3))) (fun e => F44_j3 R (e 0) (e 3) (e 4)) _ (by kernel_rfl) (fun e => F44_j3_ok R e) (by kernel_rfl))
def F44 (R : ER) (x0 : Value) : WP :=
  F44_j2 R x0 (.int .u64 14695981039346656037)
theorem orpimentref35_Digest_den (R : ER) (x0 : Value) : den Pg R (cd Try.f44 []) (argsEnv [x0]) (kont Pg R Try.f44) = F44 R x0 :=
  have h : ∀ e, den Pg R (cd Try.f44 []) e (kont Pg R Try.f44) = F44 R (e 0) := fun e => (den_join Pg R 2 (cd Try.f44 []) (cd Try.f44 [1,1,1]) e (kont Pg R Try.f44) (fun e => F44_j1 R (e 3)) _ (by kernel_rfl) (fun e => F44_j1_ok R e) (den_join Pg R 1 (pre 2 (cd Try.f44 [])) (cd Try.f44 [1,1,0]) e (setN (kont Pg R Try.f44) (fun e => F44_j1 R (e 3))) (fun e => F44_j2 R (e 0) (e 3)) _ (by kernel_rfl) (fun e => F44_j2_ok R e) (by kernel_rfl)))
  h _
theorem F44_calls {R : ER} {x0 : Value} {w : World} (h : F44 R x0 w) : Calls Pg 44 ⟨[x0]⟩ w R :=
  calls_of_den Try.func44 (by kernel_rfl) (by kernel_rfl) (orpimentref35_Digest_den R x0) h
/-! ### 45: F45 -/
def F45_j1 (R : ER) (x5 : Value) : WP :=
  R (.returned x5)
theorem F45_j1_ok (R : ER) (e : Env) : den Pg R (cd Try.f45 [1,1,1]) e (kont Pg R Try.f45) = (F45_j1 R (e 5)) := by kernel_rfl
def F45_b1 (R : ER) (k1 : V4) (x5 x15 x16 x17 : Value) : WP :=
  pv (bin .lss x17 x16) fun v1 =>
  cnd v1 (
   pv (ixS 1 x15 x17) fun v2 =>
  ld1 v2 fun v3 =>
  pv (bin .shl x5 (.int .u64 8)) fun v4 =>
  pv (cvI .u64 v3) fun v5 =>
  pv (bin .or v4 v5) fun v6 =>
  pv (bin .add x17 (.int .i64 1)) fun v7 =>
  k1 v6 x15 x16 v7) (
   F45_j1 R x5)
theorem F45_b1_ok (R : ER) (k1 : V4) (e : Env) : den Pg R (cd Try.f45 [1,1,0,1,0,0]) e (setN (inB 0 (setN (kont Pg R Try.f45) (fun e => F45_j1 R (e 5)))) (fun e => k1 (e 5) (e 15) (e 16) (e 17))) = (F45_b1 R k1 (e 5) (e 15) (e 16) (e 17)) := by kernel_rfl
noncomputable def F45_l1 (R : ER) (n : Nat) : V4 := Nat.rec (motive := fun _ => V4) (fun _ _ _ _ => fun _ => False) (fun _ ih => fun x5 x15 x16 x17 => F45_b1 R ih x5 x15 x16 x17) n
theorem F45_l1_succ (R : ER) (n : Nat) (x5 x15 x16 x17 : Value) : F45_l1 R (n + 1) x5 x15 x16 x17 = F45_b1 R (F45_l1 R n) x5 x15 x16 x17 := rfl
theorem F45_l1_ok (R : ER) : ∀ (n : Nat) (e : Env), iterL (den Pg R (cd Try.f45 [1,1,0,1,0,0])) n e (inB 0 (setN (kont Pg R Try.f45) (fun e => F45_j1 R (e 5)))) = F45_l1 R n (e 5) (e 15) (e 16) (e 17) :=
  iterL_join (den Pg R (cd Try.f45 [1,1,0,1,0,0])) (inB 0 (setN (kont Pg R Try.f45) (fun e => F45_j1 R (e 5)))) (fun n e => F45_l1 R n (e 5) (e 15) (e 16) (e 17)) (fun _ => rfl) (fun n e => (F45_b1_ok R (F45_l1 R n) e).trans (F45_l1_succ R n (e 5) (e 15) (e 16) (e 17)).symm)
def F45_j3 (R : ER) (x5 x15 x16 x17 : Value) : WP :=
  exN fun n => F45_l1 R n x5 x15 x16 x17
theorem F45_j3_ok (R : ER) (e : Env) : den Pg R (cd Try.f45 [1,1,0,1]) e (setN (kont Pg R Try.f45) (fun e => F45_j1 R (e 5))) = (F45_j3 R (e 5) (e 15) (e 16) (e 17)) := (den_block Pg R (cd Try.f45 [1,1,0,1]) 0 (cd Try.f45 [1,1,0,1,0]) e (setN (kont Pg R Try.f45) (fun e => F45_j1 R (e 5))) _ (by kernel_rfl) (den_loop Pg R (cd Try.f45 [1,1,0,1,0]) (cd Try.f45 [1,1,0,1,0,0]) e (inB 0 (setN (kont Pg R Try.f45) (fun e => F45_j1 R (e 5)))) (fun n e => F45_l1 R n (e 5) (e 15) (e 16) (e 17)) _ (by kernel_rfl) (F45_l1_ok R) (by kernel_rfl)))
def F45_j2 (R : ER) (x2 x3 x5 : Value) : WP :=
  pv (faO 0 x2) fun v8 =>
  ld1 v8 fun v9 =>
  pv (faO 0 x2) fun v10 =>
  ld1 v10 fun v11 =>
  pv (faO 1 x2) fun v12 =>
  ld1 v12 fun v13 =>
  pv (bin .add v11 v13) fun v14 =>
  pv (slA 24 1 x3 (some v9) (some v14)) fun v15 =>
  pv (lenS v15) fun v16 =>
  F45_j3 R x5 v15 v16 (.int .i64 0)
theorem F45_j2_ok (R : ER) (e : Env) : den Pg R (cd Try.f45 [1,1,0]) e (setN (kont Pg R Try.f45) (fun e => F45_j1 R (e 5))) = (F45_j2 R (e 2) (e 3) (e 5)) := (den_join Pg R 0 (cd Try.f45 [1,1,0]) (cd Try.f45 [1,1,0,1]) e (setN (kont Pg R Try.f45) (fun e => F45_j1 R (e 5))) (fun e => F45_j3 R (e 5) (e 15) (e 16) (e 17)) _ (by kernel_rfl) (fun e => F45_j3_ok R e) (by kernel_rfl))
def F45 (R : ER) (x0 x1 : Value) : WP :=
  bx 111 x0 fun v17 =>
  bx 117 x1 fun v18 =>
  F45_j2 R v17 v18 (.int .u64 0)
theorem links_field_get_den (R : ER) (x0 x1 : Value) : den Pg R (cd Try.f45 []) (argsEnv [x0, x1]) (kont Pg R Try.f45) = F45 R x0 x1 :=
  have h : ∀ e, den Pg R (cd Try.f45 []) e (kont Pg R Try.f45) = F45 R (e 0) (e 1) := fun e => (den_join Pg R 2 (cd Try.f45 []) (cd Try.f45 [1,1,1]) e (kont Pg R Try.f45) (fun e => F45_j1 R (e 5)) _ (by kernel_rfl) (fun e => F45_j1_ok R e) (den_join Pg R 1 (pre 2 (cd Try.f45 [])) (cd Try.f45 [1,1,0]) e (setN (kont Pg R Try.f45) (fun e => F45_j1 R (e 5))) (fun e => F45_j2 R (e 2) (e 3) (e 5)) _ (by kernel_rfl) (fun e => F45_j2_ok R e) (by kernel_rfl)))
  h _
theorem F45_calls {R : ER} {x0 x1 : Value} {w : World} (h : F45 R x0 x1 w) : Calls Pg 45 ⟨[x0, x1]⟩ w R :=
  calls_of_den Try.func45 (by kernel_rfl) (by kernel_rfl) (links_field_get_den R x0 x1) h
/-! ### 46: F46 -/
def F46_j1 (R : ER) (x3 : Value) : WP :=
  R (.returned x3)
theorem F46_j1_ok (R : ER) (e : Env) : den Pg R (cd Try.f46 [1,1,1]) e (kont Pg R Try.f46) = (F46_j1 R (e 3)) := by kernel_rfl
def F46_j4 (R : ER) (k1 : V3) (x0 x3 x4 : Value) : WP :=
  pv (bin .shl x3 (.int .u64 8)) fun v1 =>
  pv (ixS 1 x0 x4) fun v2 =>
  ld1 v2 fun v3 =>
  pv (cvI .u64 v3) fun v4 =>
  pv (bin .or v1 v4) fun v5 =>
  pv (bin .add x4 (.int .i64 1)) fun v6 =>
  k1 x0 v5 v6
theorem F46_j4_ok (R : ER) (k1 : V3) (e : Env) : den Pg R (cd Try.f46 [1,1,0,1,0,0,1]) e (setN (inB 0 (setN (kont Pg R Try.f46) (fun e => F46_j1 R (e 3)))) (fun e => k1 (e 0) (e 3) (e 4))) = (F46_j4 R k1 (e 0) (e 3) (e 4)) := by kernel_rfl
def F46_b1 (R : ER) (k1 : V3) (x0 x3 x4 : Value) : WP :=
  pv (lenS x0) fun v7 =>
  pv (bin .lss x4 v7) fun v8 =>
  cnd v8 (
   F46_j4 R k1 x0 x3 x4) (
   F46_j1 R x3)
theorem F46_b1_ok (R : ER) (k1 : V3) (e : Env) : den Pg R (cd Try.f46 [1,1,0,1,0,0]) e (setN (inB 0 (setN (kont Pg R Try.f46) (fun e => F46_j1 R (e 3)))) (fun e => k1 (e 0) (e 3) (e 4))) = (F46_b1 R k1 (e 0) (e 3) (e 4)) := (den_join Pg R 0 (cd Try.f46 [1,1,0,1,0,0]) (cd Try.f46 [1,1,0,1,0,0,1]) e (setN (inB 0 (setN (kont Pg R Try.f46) (fun e => F46_j1 R (e 3)))) (fun e => k1 (e 0) (e 3) (e 4))) (fun e => F46_j4 R k1 (e 0) (e 3) (e 4)) _ (by kernel_rfl) (fun e => F46_j4_ok R k1 e) (by kernel_rfl))
noncomputable def F46_l1 (R : ER) (n : Nat) : V3 := Nat.rec (motive := fun _ => V3) (fun _ _ _ => fun _ => False) (fun _ ih => fun x0 x3 x4 => F46_b1 R ih x0 x3 x4) n
theorem F46_l1_succ (R : ER) (n : Nat) (x0 x3 x4 : Value) : F46_l1 R (n + 1) x0 x3 x4 = F46_b1 R (F46_l1 R n) x0 x3 x4 := rfl
theorem F46_l1_ok (R : ER) : ∀ (n : Nat) (e : Env), iterL (den Pg R (cd Try.f46 [1,1,0,1,0,0])) n e (inB 0 (setN (kont Pg R Try.f46) (fun e => F46_j1 R (e 3)))) = F46_l1 R n (e 0) (e 3) (e 4) :=
  iterL_join (den Pg R (cd Try.f46 [1,1,0,1,0,0])) (inB 0 (setN (kont Pg R Try.f46) (fun e => F46_j1 R (e 3)))) (fun n e => F46_l1 R n (e 0) (e 3) (e 4)) (fun _ => rfl) (fun n e => (F46_b1_ok R (F46_l1 R n) e).trans (F46_l1_succ R n (e 0) (e 3) (e 4)).symm)
def F46_j3 (R : ER) (x0 x3 x4 : Value) : WP :=
  exN fun n => F46_l1 R n x0 x3 x4
theorem F46_j3_ok (R : ER) (e : Env) : den Pg R (cd Try.f46 [1,1,0,1]) e (setN (kont Pg R Try.f46) (fun e => F46_j1 R (e 3))) = (F46_j3 R (e 0) (e 3) (e 4)) := (den_block Pg R (cd Try.f46 [1,1,0,1]) 0 (cd Try.f46 [1,1,0,1,0]) e (setN (kont Pg R Try.f46) (fun e => F46_j1 R (e 3))) _ (by kernel_rfl) (den_loop Pg R (cd Try.f46 [1,1,0,1,0]) (cd Try.f46 [1,1,0,1,0,0]) e (inB 0 (setN (kont Pg R Try.f46) (fun e => F46_j1 R (e 3)))) (fun n e => F46_l1 R n (e 0) (e 3) (e 4)) _ (by kernel_rfl) (F46_l1_ok R) (by kernel_rfl)))
def F46_j2 (R : ER) (x0 x3 : Value) : WP :=
  F46_j3 R x0 x3 (.int .i64 0)
theorem F46_j2_ok (R : ER) (e : Env) : den Pg R (cd Try.f46 [1,1,0]) e (setN (kont Pg R Try.f46) (fun e => F46_j1 R (e 3))) = (F46_j2 R (e 0) (e 3)) := (den_join Pg R 0 (cd Try.f46 [1,1,0]) (cd Try.f46 [1,1,0,1]) e (setN (kont Pg R Try.f46) (fun e => F46_j1 R (e 3))) (fun e => F46_j3 R (e 0) (e 3) (e 4)) _ (by kernel_rfl) (fun e => F46_j3_ok R e) (by kernel_rfl))
def F46 (R : ER) (x0 : Value) : WP :=
  F46_j2 R x0 (.int .u64 0)
theorem orpimentref35_get_den (R : ER) (x0 : Value) : den Pg R (cd Try.f46 []) (argsEnv [x0]) (kont Pg R Try.f46) = F46 R x0 :=
  have h : ∀ e, den Pg R (cd Try.f46 []) e (kont Pg R Try.f46) = F46 R (e 0) := fun e => (den_join Pg R 2 (cd Try.f46 []) (cd Try.f46 [1,1,1]) e (kont Pg R Try.f46) (fun e => F46_j1 R (e 3)) _ (by kernel_rfl) (fun e => F46_j1_ok R e) (den_join Pg R 1 (pre 2 (cd Try.f46 [])) (cd Try.f46 [1,1,0]) e (setN (kont Pg R Try.f46) (fun e => F46_j1 R (e 3))) (fun e => F46_j2 R (e 0) (e 3)) _ (by kernel_rfl) (fun e => F46_j2_ok R e) (by kernel_rfl)))
  h _
theorem F46_calls {R : ER} {x0 : Value} {w : World} (h : F46 R x0 w) : Calls Pg 46 ⟨[x0]⟩ w R :=
  calls_of_den Try.func46 (by kernel_rfl) (by kernel_rfl) (orpimentref35_get_den R x0) h
/-! ### 47: F47 -/
def F47_j2 (R : ER) (x0 x4 : Value) : WP :=
  pv (nilO x0) fun v1 =>
  pv (faO 5 v1) fun v2 =>
  ld1 v2 fun v3 =>
  pv (bin .add x4 (.int .i64 1)) fun v4 =>
  cal Pg R 64 ⟨[v3, (.int .i64 0), v4]⟩ fun v5 =>
  pv (nilO x0) fun v6 =>
  pv (faO 5 v6) fun v7 =>
  st1 v7 v5 fun _ =>
  pv (nilO x0) fun v8 =>
  pv (faO 8 v8) fun v9 =>
  st1 v9 (.int .i64 0) fun _ =>
  R (.returned (.tuple ⟨[]⟩))
theorem F47_j2_ok (R : ER) (e : Env) : den Pg R (cd Try.f47 [1,1,1,1]) e (kont Pg R Try.f47) = (F47_j2 R (e 0) (e 4)) := by kernel_rfl
def F47_j6 (R : ER) (k1 : V5) (x0 x4 x32 x33 x34 : Value) : WP :=
  pv (bin .add x34 (.int .i64 1)) fun v10 =>
  k1 x0 x4 x32 x33 v10
theorem F47_j6_ok (R : ER) (k1 : V5) (e : Env) : den Pg R (cd Try.f47 [1,1,1,0,1,0,0,1,1,1]) e (setN (inB 0 (setN (kont Pg R Try.f47) (fun e => F47_j2 R (e 0) (e 4)))) (fun e => k1 (e 0) (e 4) (e 32) (e 33) (e 34))) = (F47_j6 R k1 (e 0) (e 4) (e 32) (e 33) (e 34)) := by kernel_rfl
def F47_j7 (R : ER) (k1 : V5) (x0 x4 x32 x33 x34 : Value) : WP :=
  pv (ixS 6 x32 x34) fun v11 =>
  ldN 6 v11 fun v12 =>
  al Pg 101 fun v13 =>
  stN 6 v13 v12 fun _ =>
  pv (faO 0 v13) fun v14 =>
  pv (faO 1 v14) fun v15 =>
  ld1 v15 fun v16 =>
  cnd v16 (
   pv (faO 0 v13) fun v17 =>
   pv (faO 2 v17) fun v18 =>
   ld1 v18 fun v19 =>
   pv (nilO x0) fun v20 =>
   pv (faO 7 v20) fun v21 =>
   st1 v21 v19 fun _ =>
   F47_j6 R k1 x0 x4 x32 x33 x34) (
   F47_j6 R k1 x0 x4 x32 x33 x34)
theorem F47_j7_ok (R : ER) (k1 : V5) (e : Env) : den Pg R (cd Try.f47 [1,1,1,0,1,0,0,1,1,0]) e (setN (setN (inB 0 (setN (kont Pg R Try.f47) (fun e => F47_j2 R (e 0) (e 4)))) (fun e => k1 (e 0) (e 4) (e 32) (e 33) (e 34))) (fun e => F47_j6 R k1 (e 0) (e 4) (e 32) (e 33) (e 34))) = (F47_j7 R k1 (e 0) (e 4) (e 32) (e 33) (e 34)) := (den_block Pg R (cd Try.f47 [1,1,1,0,1,0,0,1,1,0]) 1 (cd Try.f47 [1,1,1,0,1,0,0,1,1,0,0]) e (setN (setN (inB 0 (setN (kont Pg R Try.f47) (fun e => F47_j2 R (e 0) (e 4)))) (fun e => k1 (e 0) (e 4) (e 32) (e 33) (e 34))) (fun e => F47_j6 R k1 (e 0) (e 4) (e 32) (e 33) (e 34))) _ (by kernel_rfl) (by kernel_rfl))
def F47_j5 (R : ER) (k1 : V5) (x0 x4 x32 x33 x34 : Value) : WP :=
  F47_j7 R k1 x0 x4 x32 x33 x34
theorem F47_j5_ok (R : ER) (k1 : V5) (e : Env) : den Pg R (cd Try.f47 [1,1,1,0,1,0,0,1,1]) e (setN (inB 0 (setN (kont Pg R Try.f47) (fun e => F47_j2 R (e 0) (e 4)))) (fun e => k1 (e 0) (e 4) (e 32) (e 33) (e 34))) = (F47_j5 R k1 (e 0) (e 4) (e 32) (e 33) (e 34)) := (den_join Pg R 0 (cd Try.f47 [1,1,1,0,1,0,0,1,1]) (cd Try.f47 [1,1,1,0,1,0,0,1,1,1]) e (setN (inB 0 (setN (kont Pg R Try.f47) (fun e => F47_j2 R (e 0) (e 4)))) (fun e => k1 (e 0) (e 4) (e 32) (e 33) (e 34))) (fun e => F47_j6 R k1 (e 0) (e 4) (e 32) (e 33) (e 34)) _ (by kernel_rfl) (fun e => F47_j6_ok R k1 e) (den_conv Pg R (pre 0 (cd Try.f47 [1,1,1,0,1,0,0,1,1])) (cd Try.f47 [1,1,1,0,1,0,0,1,1,0]) e (setN (setN (inB 0 (setN (kont Pg R Try.f47) (fun e => F47_j2 R (e 0) (e 4)))) (fun e => k1 (e 0) (e 4) (e 32) (e 33) (e 34))) (fun e => F47_j6 R k1 (e 0) (e 4) (e 32) (e 33) (e 34))) _ (by kernel_rfl) (F47_j7_ok R k1 e)))
def F47_b1 (R : ER) (k1 : V5) (x0 x4 x32 x33 x34 : Value) : WP :=
  pv (bin .lss x34 x33) fun v22 =>
  cnd v22 (
   F47_j5 R k1 x0 x4 x32 x33 x34) (
   F47_j2 R x0 x4)
theorem F47_b1_ok (R : ER) (k1 : V5) (e : Env) : den Pg R (cd Try.f47 [1,1,1,0,1,0,0]) e (setN (inB 0 (setN (kont Pg R Try.f47) (fun e => F47_j2 R (e 0) (e 4)))) (fun e => k1 (e 0) (e 4) (e 32) (e 33) (e 34))) = (F47_b1 R k1 (e 0) (e 4) (e 32) (e 33) (e 34)) := (den_join Pg R 1 (cd Try.f47 [1,1,1,0,1,0,0]) (cd Try.f47 [1,1,1,0,1,0,0,1,1]) e (setN (inB 0 (setN (kont Pg R Try.f47) (fun e => F47_j2 R (e 0) (e 4)))) (fun e => k1 (e 0) (e 4) (e 32) (e 33) (e 34))) (fun e => F47_j5 R k1 (e 0) (e 4) (e 32) (e 33) (e 34)) _ (by kernel_rfl) (fun e => F47_j5_ok R k1 e) (by kernel_rfl))
noncomputable def F47_l1 (R : ER) (n : Nat) : V5 := Nat.rec (motive := fun _ => V5) (fun _ _ _ _ _ => fun _ => False) (fun _ ih => fun x0 x4 x32 x33 x34 => F47_b1 R ih x0 x4 x32 x33 x34) n
theorem F47_l1_succ (R : ER) (n : Nat) (x0 x4 x32 x33 x34 : Value) : F47_l1 R (n + 1) x0 x4 x32 x33 x34 = F47_b1 R (F47_l1 R n) x0 x4 x32 x33 x34 := rfl
theorem F47_l1_ok (R : ER) : ∀ (n : Nat) (e : Env), iterL (den Pg R (cd Try.f47 [1,1,1,0,1,0,0])) n e (inB 0 (setN (kont Pg R Try.f47) (fun e => F47_j2 R (e 0) (e 4)))) = F47_l1 R n (e 0) (e 4) (e 32) (e 33) (e 34) :=
  iterL_join (den Pg R (cd Try.f47 [1,1,1,0,1,0,0])) (inB 0 (setN (kont Pg R Try.f47) (fun e => F47_j2 R (e 0) (e 4)))) (fun n e => F47_l1 R n (e 0) (e 4) (e 32) (e 33) (e 34)) (fun _ => rfl) (fun n e => (F47_b1_ok R (F47_l1 R n) e).trans (F47_l1_succ R n (e 0) (e 4) (e 32) (e 33) (e 34)).symm)
def F47_j4 (R : ER) (x0 x4 x32 x33 x34 : Value) : WP :=
  exN fun n => F47_l1 R n x0 x4 x32 x33 x34
theorem F47_j4_ok (R : ER) (e : Env) : den Pg R (cd Try.f47 [1,1,1,0,1]) e (setN (kont Pg R Try.f47) (fun e => F47_j2 R (e 0) (e 4))) = (F47_j4 R (e 0) (e 4) (e 32) (e 33) (e 34)) := (den_block Pg R (cd Try.f47 [1,1,1,0,1]) 0 (cd Try.f47 [1,1,1,0,1,0]) e (setN (kont Pg R Try.f47) (fun e => F47_j2 R (e 0) (e 4))) _ (by kernel_rfl) (den_loop Pg R (cd Try.f47 [1,1,1,0,1,0]) (cd Try.f47 [1,1,1,0,1,0,0]) e (inB 0 (setN (kont Pg R Try.f47) (fun e => F47_j2 R (e 0) (e 4)))) (fun n e => F47_l1 R n (e 0) (e 4) (e 32) (e 33) (e 34)) _ (by kernel_rfl) (F47_l1_ok R) (by kernel_rfl)))
def F47_j3 (R : ER) (x0 x4 : Value) : WP :=
  pv (nilO x0) fun v23 =>
  pv (faO 5 v23) fun v24 =>
  ld1 v24 fun v25 =>
  pv (bin .add x4 (.int .i64 1)) fun v26 =>
  pv (slS 6 v25 none (some v26)) fun v27 =>
  pv (lenS v27) fun v28 =>
  F47_j4 R x0 x4 v27 v28 (.int .i64 0)
theorem F47_j3_ok (R : ER) (e : Env) : den Pg R (cd Try.f47 [1,1,1,0]) e (setN (kont Pg R Try.f47) (fun e => F47_j2 R (e 0) (e 4))) = (F47_j3 R (e 0) (e 4)) := (den_join Pg R 0 (cd Try.f47 [1,1,1,0]) (cd Try.f47 [1,1,1,0,1]) e (setN (kont Pg R Try.f47) (fun e => F47_j2 R (e 0) (e 4))) (fun e => F47_j4 R (e 0) (e 4) (e 32) (e 33) (e 34)) _ (by kernel_rfl) (fun e => F47_j4_ok R e) (by kernel_rfl))
def F47_j1 (R : ER) (x0 x4 : Value) : WP :=
  F47_j3 R x0 x4
theorem F47_j1_ok (R : ER) (e : Env) : den Pg R (cd Try.f47 [1,1,1]) e (kont Pg R Try.f47) = (F47_j1 R (e 0) (e 4)) := (den_join Pg R 0 (cd Try.f47 [1,1,1]) (cd Try.f47 [1,1,1,1]) e (kont Pg R Try.f47) (fun e => F47_j2 R (e 0) (e 4)) _ (by kernel_rfl) (fun e => F47_j2_ok R e) (den_conv Pg R (pre 0 (cd Try.f47 [1,1,1])) (cd Try.f47 [1,1,1,0]) e (setN (kont Pg R Try.f47) (fun e => F47_j2 R (e 0) (e 4))) _ (by kernel_rfl) (F47_j3_ok R e)))
def F47_j8 (R : ER) (x0 x4 : Value) : WP :=
  pv (bin .lss x4 (.int .i64 0)) fun v29 =>
  gd v29 false (pv (some x0)) fun v30 =>
  gd v29 false (pv (nilO v30)) fun v31 =>
  gd v29 false (pv (faO 5 v31)) fun v32 =>
  gd v29 false (ld1 v32) fun v33 =>
  gd v29 false (pv (some x4)) fun v34 =>
  gd v29 false (pv (ixS 6 v33 v34)) fun v35 =>
  gd v29 false (pv (faO 5 v35)) fun v36 =>
  gd v29 false (ld1 v36) fun v37 =>
  gd v29 false (pv (bin .lss v37 (.int .i64 0))) fun v38 =>
  pv (pickO v29 (.bool true) v38) fun v39 =>
  cnd v39 (
   R (.returned (.tuple ⟨[]⟩))) (
   F47_j1 R x0 x4)
theorem F47_j8_ok (R : ER) (e : Env) : den Pg R (cd Try.f47 [1,1,0]) e (setN (kont Pg R Try.f47) (fun e => F47_j1 R (e 0) (e 4))) = (F47_j8 R (e 0) (e 4)) := (by kernel_rfl)
def F47 (R : ER) (x0 x1 : Value) : WP :=
  bx 48 x1 fun v40 =>
  pv (nilO x0) fun v41 =>
  pv (faO 5 v41) fun v42 =>
  ld1 v42 fun v43 =>
  cal Pg R 62 ⟨[v43, (.func (.func 63) ⟨[]⟩ ⟨[v40]⟩)]⟩ fun v44 =>
  F47_j8 R x0 v44
theorem links_Link_acknowledge_den (R : ER) (x0 x1 : Value) : den Pg R (cd Try.f47 []) (argsEnv [x0, x1]) (kont Pg R Try.f47) = F47 R x0 x1 :=
  have h : ∀ e, den Pg R (cd Try.f47 []) e (kont Pg R Try.f47) = F47 R (e 0) (e 1) := fun e => (den_join Pg R 2 (cd Try.f47 []) (cd Try.f47 [1,1,1]) e (kont Pg R Try.f47) (fun e => F47_j1 R (e 0) (e 4)) _ (by kernel_rfl) (fun e => F47_j1_ok R e) (den_join Pg R 1 (pre 2 (cd Try.f47 [])) (cd Try.f47 [1,1,0]) e (setN (kont Pg R Try.f47) (fun e => F47_j1 R (e 0) (e 4))) (fun e => F47_j8 R (e 0) (e 4)) _ (by kernel_rfl) (fun e => F47_j8_ok R e) (by kernel_rfl)))
  h _
theorem F47_calls {R : ER} {x0 x1 : Value} {w : World} (h : F47 R x0 x1 w) : Calls Pg 47 ⟨[x0, x1]⟩ w R :=
  calls_of_den Try.func47 (by kernel_rfl) (by kernel_rfl) (links_Link_acknowledge_den R x0 x1) h
/-! ### 48: F48 -/
def F48_j3 (R : ER) (x7 : Value) : WP :=
  R (.returned x7)
theorem F48_j3_ok (R : ER) (e : Env) : den Pg R (cd Try.f48 [1,1,1,1,1,1,1]) e (kont Pg R Try.f48) = (F48_j3 R (e 7)) := by kernel_rfl
def F48_j5 (R : ER) (k1 : V2) (x7 x8 : Value) : WP :=
  drewV (
  pv (slS 1 x7 (some x8) none) fun v1 =>
  pv (slS 1 x7 none (some x8)) fun v2 =>
  mem fun w4 => blt Pg noR .copy ⟨[92,92]⟩ 3 ⟨[false, false]⟩ ⟨[v1, v2]⟩ fun v3 =>
  pv (bin .add x8 v3) fun v5 =>
  k1 x7 v5)
theorem F48_j5_ok (R : ER) (k1 : V2) (e : Env) : den Pg R (cd Try.f48 [1,1,1,1,1,1,0,0,0,1]) e (setN (inB 0 (setN (kont Pg R Try.f48) (fun e => F48_j3 R (e 7)))) (fun e => k1 (e 7) (e 8))) = (F48_j5 R k1 (e 7) (e 8)) := by kernel_rfl
def F48_b1 (R : ER) (k1 : V2) (x7 x8 : Value) : WP :=
  pv (lenS x7) fun v6 =>
  pv (bin .lss x8 v6) fun v7 =>
  cnd v7 (
   F48_j5 R k1 x7 x8) (
   F48_j3 R x7)
theorem F48_b1_ok (R : ER) (k1 : V2) (e : Env) : den Pg R (cd Try.f48 [1,1,1,1,1,1,0,0,0]) e (setN (inB 0 (setN (kont Pg R Try.f48) (fun e => F48_j3 R (e 7)))) (fun e => k1 (e 7) (e 8))) = (F48_b1 R k1 (e 7) (e 8)) := (den_join Pg R 0 (cd Try.f48 [1,1,1,1,1,1,0,0,0]) (cd Try.f48 [1,1,1,1,1,1,0,0,0,1]) e (setN (inB 0 (setN (kont Pg R Try.f48) (fun e => F48_j3 R (e 7)))) (fun e => k1 (e 7) (e 8))) (fun e => F48_j5 R k1 (e 7) (e 8)) _ (by kernel_rfl) (fun e => F48_j5_ok R k1 e) (by kernel_rfl))
noncomputable def F48_l1 (R : ER) (n : Nat) : V2 := Nat.rec (motive := fun _ => V2) (fun _ _ => fun _ => False) (fun _ ih => fun x7 x8 => F48_b1 R ih x7 x8) n
theorem F48_l1_succ (R : ER) (n : Nat) (x7 x8 : Value) : F48_l1 R (n + 1) x7 x8 = F48_b1 R (F48_l1 R n) x7 x8 := rfl
theorem F48_l1_ok (R : ER) : ∀ (n : Nat) (e : Env), iterL (den Pg R (cd Try.f48 [1,1,1,1,1,1,0,0,0])) n e (inB 0 (setN (kont Pg R Try.f48) (fun e => F48_j3 R (e 7)))) = F48_l1 R n (e 7) (e 8) :=
  iterL_join (den Pg R (cd Try.f48 [1,1,1,1,1,1,0,0,0])) (inB 0 (setN (kont Pg R Try.f48) (fun e => F48_j3 R (e 7)))) (fun n e => F48_l1 R n (e 7) (e 8)) (fun _ => rfl) (fun n e => (F48_b1_ok R (F48_l1 R n) e).trans (F48_l1_succ R n (e 7) (e 8)).symm)
def F48_j4 (R : ER) (x7 x8 : Value) : WP :=
  exN fun n => F48_l1 R n x7 x8
theorem F48_j4_ok (R : ER) (e : Env) : den Pg R (cd Try.f48 [1,1,1,1,1,1,0]) e (setN (kont Pg R Try.f48) (fun e => F48_j3 R (e 7))) = (F48_j4 R (e 7) (e 8)) := (den_block Pg R (cd Try.f48 [1,1,1,1,1,1,0]) 0 (cd Try.f48 [1,1,1,1,1,1,0,0]) e (setN (kont Pg R Try.f48) (fun e => F48_j3 R (e 7))) _ (by kernel_rfl) (den_loop Pg R (cd Try.f48 [1,1,1,1,1,1,0,0]) (cd Try.f48 [1,1,1,1,1,1,0,0,0]) e (inB 0 (setN (kont Pg R Try.f48) (fun e => F48_j3 R (e 7)))) (fun n e => F48_l1 R n (e 7) (e 8)) _ (by kernel_rfl) (F48_l1_ok R) (by kernel_rfl)))
def F48_j2 (R : ER) (x0 x6 : Value) : WP :=
  pv (cvI .i64 x6) fun v8 =>
  valV Pg R (Instr.makeSlice 92 v8 v8) fun v9 =>
  blt Pg R .copy ⟨[92,92]⟩ 3 ⟨[false, false]⟩ ⟨[v9, x0]⟩ fun v10 =>
  F48_j4 R v9 v10
theorem F48_j2_ok (R : ER) (e : Env) : den Pg R (cd Try.f48 [1,1,1,1]) e (kont Pg R Try.f48) = (F48_j2 R (e 0) (e 6)) := (den_join Pg R 2 (cd Try.f48 [1,1,1,1]) (cd Try.f48 [1,1,1,1,1,1,1]) e (kont Pg R Try.f48) (fun e => F48_j3 R (e 7)) _ (by kernel_rfl) (fun e => F48_j3_ok R e) (den_join Pg R 1 (pre 2 (cd Try.f48 [1,1,1,1])) (cd Try.f48 [1,1,1,1,1,1,0]) e (setN (kont Pg R Try.f48) (fun e => F48_j3 R (e 7))) (fun e => F48_j4 R (e 7) (e 8)) _ (by kernel_rfl) (fun e => F48_j4_ok R e) (by kernel_rfl)))
def F48_j1 (R : ER) (x0 x1 : Value) : WP :=
  pv (lenS x0) fun v11 =>
  pv (cvI .u64 v11) fun v12 =>
  pv (cvI .u64 x1) fun v13 =>
  cal Pg R 65 ⟨[v12, v13]⟩ fun v14 =>
  pv (extO 0 v14) fun v15 =>
  pv (extO 1 v14) fun v16 =>
  pv (bin .gtr v15 (.int .u64 0)) fun v17 =>
  gd v17 false (pv (some v16)) fun v18 =>
  gd v17 false (pv (bin .gtr v18 (.int .u64 9223372036854775807))) fun v19 =>
  pv (pickO v17 (.bool true) v19) fun v20 =>
  cnd v20 (
   valV Pg R (Instr.panic (.iface 9 (.string ⟨⟨[116,104,101,32,114,101,115,117,108,116,32,111,102,32,40,108,101,110,40,120,41,32,42,32,99,111,117,110,116,41,32,111,118,101,114,102,108,111,119,115]⟩⟩))) fun _ =>
   F48_j2 R x0 v16) (
   F48_j2 R x0 v16)
theorem F48_j1_ok (R : ER) (e : Env) : den Pg R (cd Try.f48 [1,1]) e (kont Pg R Try.f48) = (F48_j1 R (e 0) (e 1)) := (den_join Pg R 1 (cd Try.f48 [1,1]) (cd Try.f48 [1,1,1,1]) e (kont Pg R Try.f48) (fun e => F48_j2 R (e 0) (e 6)) _ (by kernel_rfl) (fun e => F48_j2_ok R e) (by kernel_rfl))
def F48 (R : ER) (x0 x1 : Value) : WP :=
  pv (bin .lss x1 (.int .i64 0)) fun v21 =>
  cnd v21 (
   valV Pg R (Instr.panic (.iface 9 (.string ⟨⟨[99,97,110,110,111,116,32,98,101,32,110,101,103,97,116,105,118,101]⟩⟩))) fun _ =>
   F48_j1 R x0 x1) (
   F48_j1 R x0 x1)
theorem slices_Repeat_den (R : ER) (x0 x1 : Value) : den Pg R (cd Try.f48 []) (argsEnv [x0, x1]) (kont Pg R Try.f48) = F48 R x0 x1 :=
  have h : ∀ e, den Pg R (cd Try.f48 []) e (kont Pg R Try.f48) = F48 R (e 0) (e 1) := fun e => (den_join Pg R 1 (cd Try.f48 []) (cd Try.f48 [1,1]) e (kont Pg R Try.f48) (fun e => F48_j1 R (e 0) (e 1)) _ (by kernel_rfl) (fun e => F48_j1_ok R e) (by kernel_rfl))
  h _
theorem F48_calls {R : ER} {x0 x1 : Value} {w : World} (h : F48 R x0 x1 w) : Calls Pg 48 ⟨[x0, x1]⟩ w R :=
  calls_of_den Try.func48 (by kernel_rfl) (by kernel_rfl) (slices_Repeat_den R x0 x1) h
/-! ### 49: F49 -/
def F49 (R : ER) (x0 x1 x2 : Value) : WP :=
  pv (bin .lss x1 (.int .i64 0)) fun v1 =>
  gd v1 false (pv (some x1)) fun v2 =>
  gd v1 false (pv (some x0)) fun v3 =>
  gd v1 false (pv (nilO v3)) fun v4 =>
  gd v1 false (pv (faO 0 v4)) fun v5 =>
  gd v1 false (ld1 v5) fun v6 =>
  gd v1 false (pv (lenS v6)) fun v7 =>
  gd v1 false (pv (bin .geq v2 v7)) fun v8 =>
  pv (pickO v1 (.bool true) v8) fun v9 =>
  cnd v9 (
   R (.returned (.int .i64 3))) (
   pv (nilO x0) fun v10 =>
  pv (faO 0 v10) fun v11 =>
  ld1 v11 fun v12 =>
  pv (ixS 1 v12 x1) fun v13 =>
  st1 v13 x2 fun _ =>
  R (.returned (.int .i64 0)))
theorem orpimentref35_Link_Set_den (R : ER) (x0 x1 x2 : Value) : den Pg R (cd Try.f49 []) (argsEnv [x0, x1, x2]) (kont Pg R Try.f49) = F49 R x0 x1 x2 :=
  have h : ∀ e, den Pg R (cd Try.f49 []) e (kont Pg R Try.f49) = F49 R (e 0) (e 1) (e 2) := fun e => (by kernel_rfl)
  h _
theorem F49_calls {R : ER} {x0 x1 x2 : Value} {w : World} (h : F49 R x0 x1 x2 w) : Calls Pg 49 ⟨[x0, x1, x2]⟩ w R :=
  calls_of_den Try.func49 (by kernel_rfl) (by kernel_rfl) (orpimentref35_Link_Set_den R x0 x1 x2) h
/-! ### 50: F50 -/
def F50_j5 (R : ER) (x0 : Value) : WP :=
  pv (nilO x0) fun v1 =>
  pv (faO 6 v1) fun v2 =>
  ld1 v2 fun v3 =>
  R (.returned (.tuple ⟨[v3, (.int .i64 0)]⟩))
theorem F50_j5_ok (R : ER) (e : Env) : den Pg R (cd Try.f50 [1,1,1,1,1,1,1,1,1]) e (kont Pg R Try.f50) = (F50_j5 R (e 0)) := by kernel_rfl
def F50_j8 (R : ER) (k1 : V4) (x0 x1 x9 x10 : Value) : WP :=
  pv (bin .add x10 (.int .i64 1)) fun v4 =>
  pv (bin .mul v4 x9) fun v5 =>
  pv (lenS x1) fun v6 =>
  pv (min2I v5 v6) fun v7 =>
  drewV (
  pv (nilO x0) fun v8 =>
  pv (faO 5 v8) fun v9 =>
  ld1 v9 fun v10 =>
  pv (lenS x1) fun v11 =>
  pv (bin .eql v7 v11) fun v12 =>
  pv (nilO x0) fun v13 =>
  pv (faO 6 v13) fun v14 =>
  ld1 v14 fun v15 =>
  mem fun w17 => valV Pg noR (Instr.buildSlice 24 0 ⟨[]⟩) fun v16 =>
  rd1 v14 v15 <|
  rd1 v9 v10 <|
  pv (bin .mul x10 x9) fun v18 =>
  pv (slS 1 x1 (some v18) (some v7)) fun v19 =>
  mem fun w21 => blt Pg noR .append ⟨[24,24]⟩ 24 ⟨[false, false]⟩ ⟨[v16, v19]⟩ fun v20 =>
  rd1 v14 v15 <|
  rd1 v9 v10 <|
  pv (bldO [.int .i64 0, .bool false, .int .i64 0, .int .i64 0, .slice none 0 0] [(0,1, (.int .i64 1)), (1,1, v12), (2,1, v15), (3,1, x10), (4,1, v20)]) fun v22 =>
  pv (bldO [.int .i64 0, .bool false, .int .i64 0, .int .i64 0, .slice none 0 0, .int .i64 0] [(0,5, v22), (5,1, (.int .i64 (-1)))]) fun v23 =>
  mem fun w25 => valV Pg noR (Instr.buildSlice 122 1 ⟨[(0, v23)]⟩) fun v24 =>
  rd1 v9 v10 <|
  mem fun w27 => blt Pg noR .append ⟨[122,122]⟩ 122 ⟨[false, false]⟩ ⟨[v10, v24]⟩ fun v26 =>
  pv (nilO x0) fun v28 =>
  pv (faO 5 v28) fun v29 =>
  mem fun w31 => st1 v29 v26 fun v30 =>
  pv (bin .add x10 (.int .i64 1)) fun v32 =>
  k1 x0 x1 x9 v32)
theorem F50_j8_ok (R : ER) (k1 : V4) (e : Env) : den Pg R (cd Try.f50 [1,1,1,1,1,1,1,1,0,1,0,0,1]) e (setN (inB 0 (setN (kont Pg R Try.f50) (fun e => F50_j5 R (e 0)))) (fun e => k1 (e 0) (e 1) (e 9) (e 10))) = (F50_j8 R k1 (e 0) (e 1) (e 9) (e 10)) := by kernel_rfl
def F50_b1 (R : ER) (k1 : V4) (x0 x1 x9 x10 : Value) : WP :=
  pv (bin .eql x10 (.int .i64 0)) fun v33 =>
  gd v33 false (pv (some x10)) fun v34 =>
  gd v33 false (pv (some x9)) fun v35 =>
  gd v33 false (pv (bin .mul v34 v35)) fun v36 =>
  gd v33 false (pv (some x1)) fun v37 =>
  gd v33 false (pv (lenS v37)) fun v38 =>
  gd v33 false (pv (bin .lss v36 v38)) fun v39 =>
  pv (pickO v33 (.bool true) v39) fun v40 =>
  cnd v40 (
   F50_j8 R k1 x0 x1 x9 x10) (
   F50_j5 R x0)
theorem F50_b1_ok (R : ER) (k1 : V4) (e : Env) : den Pg R (cd Try.f50 [1,1,1,1,1,1,1,1,0,1,0,0]) e (setN (inB 0 (setN (kont Pg R Try.f50) (fun e => F50_j5 R (e 0)))) (fun e => k1 (e 0) (e 1) (e 9) (e 10))) = (F50_b1 R k1 (e 0) (e 1) (e 9) (e 10)) := (den_join Pg R 0 (cd Try.f50 [1,1,1,1,1,1,1,1,0,1,0,0]) (cd Try.f50 [1,1,1,1,1,1,1,1,0,1,0,0,1]) e (setN (inB 0 (setN (kont Pg R Try.f50) (fun e => F50_j5 R (e 0)))) (fun e => k1 (e 0) (e 1) (e 9) (e 10))) (fun e => F50_j8 R k1 (e 0) (e 1) (e 9) (e 10)) _ (by kernel_rfl) (fun e => F50_j8_ok R k1 e) (by kernel_rfl))
noncomputable def F50_l1 (R : ER) (n : Nat) : V4 := Nat.rec (motive := fun _ => V4) (fun _ _ _ _ => fun _ => False) (fun _ ih => fun x0 x1 x9 x10 => F50_b1 R ih x0 x1 x9 x10) n
theorem F50_l1_succ (R : ER) (n : Nat) (x0 x1 x9 x10 : Value) : F50_l1 R (n + 1) x0 x1 x9 x10 = F50_b1 R (F50_l1 R n) x0 x1 x9 x10 := rfl
theorem F50_l1_ok (R : ER) : ∀ (n : Nat) (e : Env), iterL (den Pg R (cd Try.f50 [1,1,1,1,1,1,1,1,0,1,0,0])) n e (inB 0 (setN (kont Pg R Try.f50) (fun e => F50_j5 R (e 0)))) = F50_l1 R n (e 0) (e 1) (e 9) (e 10) :=
  iterL_join (den Pg R (cd Try.f50 [1,1,1,1,1,1,1,1,0,1,0,0])) (inB 0 (setN (kont Pg R Try.f50) (fun e => F50_j5 R (e 0)))) (fun n e => F50_l1 R n (e 0) (e 1) (e 9) (e 10)) (fun _ => rfl) (fun n e => (F50_b1_ok R (F50_l1 R n) e).trans (F50_l1_succ R n (e 0) (e 1) (e 9) (e 10)).symm)
def F50_j7 (R : ER) (x0 x1 x9 x10 : Value) : WP :=
  exN fun n => F50_l1 R n x0 x1 x9 x10
theorem F50_j7_ok (R : ER) (e : Env) : den Pg R (cd Try.f50 [1,1,1,1,1,1,1,1,0,1]) e (setN (kont Pg R Try.f50) (fun e => F50_j5 R (e 0))) = (F50_j7 R (e 0) (e 1) (e 9) (e 10)) := (den_block Pg R (cd Try.f50 [1,1,1,1,1,1,1,1,0,1]) 0 (cd Try.f50 [1,1,1,1,1,1,1,1,0,1,0]) e (setN (kont Pg R Try.f50) (fun e => F50_j5 R (e 0))) _ (by kernel_rfl) (den_loop Pg R (cd Try.f50 [1,1,1,1,1,1,1,1,0,1,0]) (cd Try.f50 [1,1,1,1,1,1,1,1,0,1,0,0]) e (inB 0 (setN (kont Pg R Try.f50) (fun e => F50_j5 R (e 0)))) (fun n e => F50_l1 R n (e 0) (e 1) (e 9) (e 10)) _ (by kernel_rfl) (F50_l1_ok R) (by kernel_rfl)))
def F50_j6 (R : ER) (x0 x1 x9 : Value) : WP :=
  F50_j7 R x0 x1 x9 (.int .i64 0)
theorem F50_j6_ok (R : ER) (e : Env) : den Pg R (cd Try.f50 [1,1,1,1,1,1,1,1,0]) e (setN (kont Pg R Try.f50) (fun e => F50_j5 R (e 0))) = (F50_j6 R (e 0) (e 1) (e 9)) := (den_join Pg R 0 (cd Try.f50 [1,1,1,1,1,1,1,1,0]) (cd Try.f50 [1,1,1,1,1,1,1,1,0,1]) e (setN (kont Pg R Try.f50) (fun e => F50_j5 R (e 0))) (fun e => F50_j7 R (e 0) (e 1) (e 9) (e 10)) _ (by kernel_rfl) (fun e => F50_j7_ok R e) (by kernel_rfl))
def F50_j4 (R : ER) (x0 x1 x2 : Value) : WP :=
  pv (nilO x0) fun v41 =>
  pv (faO 4 v41) fun v42 =>
  st1 v42 x2 fun _ =>
  pv (nilO x0) fun v43 =>
  pv (faO 6 v43) fun v44 =>
  ld1 v44 fun v45 =>
  pv (bin .add v45 (.int .i64 1)) fun v46 =>
  pv (nilO x0) fun v47 =>
  pv (faO 6 v47) fun v48 =>
  st1 v48 v46 fun _ =>
  pv (nilO x0) fun v49 =>
  pv (faO 1 v49) fun v50 =>
  ld1 v50 fun v51 =>
  pv (bin .sub v51 (.int .i64 24)) fun v52 =>
  F50_j6 R x0 x1 v52
theorem F50_j4_ok (R : ER) (e : Env) : den Pg R (cd Try.f50 [1,1,1,1,1]) e (kont Pg R Try.f50) = (F50_j4 R (e 0) (e 1) (e 2)) := (den_join Pg R 3 (cd Try.f50 [1,1,1,1,1]) (cd Try.f50 [1,1,1,1,1,1,1,1,1]) e (kont Pg R Try.f50) (fun e => F50_j5 R (e 0)) _ (by kernel_rfl) (fun e => F50_j5_ok R e) (den_join Pg R 2 (pre 3 (cd Try.f50 [1,1,1,1,1])) (cd Try.f50 [1,1,1,1,1,1,1,1,0]) e (setN (kont Pg R Try.f50) (fun e => F50_j5 R (e 0))) (fun e => F50_j6 R (e 0) (e 1) (e 9)) _ (by kernel_rfl) (fun e => F50_j6_ok R e) (by kernel_rfl)))
def F50_j3 (R : ER) (x0 x1 x2 : Value) : WP :=
  pv (nilO x0) fun v53 =>
  pv (faO 6 v53) fun v54 =>
  ld1 v54 fun v55 =>
  pv (bin .geq v55 (.int .i64 1099511627776)) fun v56 =>
  cnd v56 (
   R (.returned (.tuple ⟨[(.int .i64 0), (.int .i64 18)]⟩))) (
   F50_j4 R x0 x1 x2)
theorem F50_j3_ok (R : ER) (e : Env) : den Pg R (cd Try.f50 [1,1,1,1]) e (kont Pg R Try.f50) = (F50_j3 R (e 0) (e 1) (e 2)) := (den_join Pg R 0 (cd Try.f50 [1,1,1,1]) (cd Try.f50 [1,1,1,1,1]) e (kont Pg R Try.f50) (fun e => F50_j4 R (e 0) (e 1) (e 2)) _ (by kernel_rfl) (fun e => F50_j4_ok R e) (by kernel_rfl))
def F50_j2 (R : ER) (x0 x1 x2 : Value) : WP :=
  drewV (
  pv (nilO x0) fun v57 =>
  pv (faO 6 v57) fun v58 =>
  ld1 v58 fun v59 =>
  pv (nilO x0) fun v60 =>
  pv (faO 7 v60) fun v61 =>
  ld1 v61 fun v62 =>
  pv (bin .sub v59 v62) fun v63 =>
  pv (bin .geq v63 (.int .i64 64)) fun v64 =>
  cnd v64 (
   R (.returned (.tuple ⟨[(.int .i64 0), (.int .i64 2)]⟩))) (
   F50_j3 R x0 x1 x2))
theorem F50_j2_ok (R : ER) (e : Env) : den Pg R (cd Try.f50 [1,1,1]) e (kont Pg R Try.f50) = (F50_j2 R (e 0) (e 1) (e 2)) := (den_join Pg R 0 (cd Try.f50 [1,1,1]) (cd Try.f50 [1,1,1,1]) e (kont Pg R Try.f50) (fun e => F50_j3 R (e 0) (e 1) (e 2)) _ (by kernel_rfl) (fun e => F50_j3_ok R e) (by kernel_rfl))
def F50_j1 (R : ER) (x0 x1 x2 : Value) : WP :=
  cal Pg R 66 ⟨[x0, x2]⟩ fun v65 =>
  pv (bin .neq v65 (.int .i64 0)) fun v66 =>
  cnd v66 (
   R (.returned (.tuple ⟨[(.int .i64 0), v65]⟩))) (
   F50_j2 R x0 x1 x2)
theorem F50_j1_ok (R : ER) (e : Env) : den Pg R (cd Try.f50 [1,1]) e (kont Pg R Try.f50) = (F50_j1 R (e 0) (e 1) (e 2)) := (den_join Pg R 0 (cd Try.f50 [1,1]) (cd Try.f50 [1,1,1]) e (kont Pg R Try.f50) (fun e => F50_j2 R (e 0) (e 1) (e 2)) _ (by kernel_rfl) (fun e => F50_j2_ok R e) (by kernel_rfl))
def F50 (R : ER) (x0 x1 x2 : Value) : WP :=
  pv (lenS x1) fun v67 =>
  pv (bin .gtr v67 (.int .i64 4096)) fun v68 =>
  cnd v68 (
   R (.returned (.tuple ⟨[(.int .i64 0), (.int .i64 20)]⟩))) (
   F50_j1 R x0 x1 x2)
theorem orpimentref35_Link_Send_den (R : ER) (x0 x1 x2 : Value) : den Pg R (cd Try.f50 []) (argsEnv [x0, x1, x2]) (kont Pg R Try.f50) = F50 R x0 x1 x2 :=
  have h : ∀ e, den Pg R (cd Try.f50 []) e (kont Pg R Try.f50) = F50 R (e 0) (e 1) (e 2) := fun e => (den_join Pg R 1 (cd Try.f50 []) (cd Try.f50 [1,1]) e (kont Pg R Try.f50) (fun e => F50_j1 R (e 0) (e 1) (e 2)) _ (by kernel_rfl) (fun e => F50_j1_ok R e) (by kernel_rfl))
  h _
theorem F50_calls {R : ER} {x0 x1 x2 : Value} {w : World} (h : F50 R x0 x1 x2 w) : Calls Pg 50 ⟨[x0, x1, x2]⟩ w R :=
  calls_of_den Try.func50 (by kernel_rfl) (by kernel_rfl) (orpimentref35_Link_Send_den R x0 x1 x2) h
/-! ### 51: F51 -/
def F51_j5 (R : ER) (x0 x1 x13 : Value) : WP :=
  drewV (
  pv (nilO x0) fun v1 =>
  pv (faO 14 v1) fun v2 =>
  ld1 v2 fun v3 =>
  pv (nilO x0) fun v4 =>
  pv (faO 11 v4) fun v5 =>
  ld1 v5 fun v6 =>
  pv (nilO x0) fun v7 =>
  pv (faO 12 v7) fun v8 =>
  ld1 v8 fun v9 =>
  pv (bldO [.int .i64 0, .bool false, .int .i64 0, .int .i64 0, .slice none 0 0] [(0,1, (.int .i64 2)), (2,1, v6), (3,1, v9)]) fun v10 =>
  pv (bldO [.int .i64 0, .int .i64 0, .bool false, .int .i64 0, .int .i64 0, .slice none 0 0] [(0,1, x1), (1,5, v10)]) fun v11 =>
  mem fun w13 => valV Pg noR (Instr.buildSlice 123 1 ⟨[(0, v11)]⟩) fun v12 =>
  rd1 v2 v3 <|
  mem fun w15 => blt Pg noR .append ⟨[123,123]⟩ 123 ⟨[false, false]⟩ ⟨[v3, v12]⟩ fun v14 =>
  pv (nilO x0) fun v16 =>
  pv (faO 14 v16) fun v17 =>
  mem fun w19 => st1 v17 v14 fun v18 =>
  R (.returned (.tuple ⟨[x13, (.int .i64 0)]⟩)))
theorem F51_j5_ok (R : ER) (e : Env) : den Pg R (cd Try.f51 [1,1,1,1,1,1,1,1,1]) e (kont Pg R Try.f51) = (F51_j5 R (e 0) (e 1) (e 13)) := by kernel_rfl
def F51_j10 (R : ER) (x0 x1 x13 : Value) : WP :=
  pv (nilO x0) fun v20 =>
  pv (faO 13 v20) fun v21 =>
  ld1 v21 fun v22 =>
  valV Pg R (Instr.buildSlice 36 1 ⟨[(0, v22)]⟩) fun v23 =>
  blt Pg R .append ⟨[36,36]⟩ 36 ⟨[false, false]⟩ ⟨[x13, v23]⟩ fun v24 =>
  pv (nilO x0) fun v25 =>
  pv (faO 11 v25) fun v26 =>
  ld1 v26 fun v27 =>
  pv (bin .add v27 (.int .i64 1)) fun v28 =>
  pv (nilO x0) fun v29 =>
  pv (faO 11 v29) fun v30 =>
  st1 v30 v28 fun _ =>
  pv (nilO x0) fun v31 =>
  pv (faO 12 v31) fun v32 =>
  st1 v32 (.int .i64 0) fun _ =>
  pv (nilO x0) fun v33 =>
  pv (faO 13 v33) fun v34 =>
  st1 v34 (.slice none 0 0) fun _ =>
  F51_j5 R x0 x1 v24
theorem F51_j10_ok (R : ER) (e : Env) : den Pg R (cd Try.f51 [1,1,1,1,1,1,1,1,0,1,0,1,1,1,0]) e (setN (kont Pg R Try.f51) (fun e => F51_j5 R (e 0) (e 1) (e 13))) = (F51_j10 R (e 0) (e 1) (e 13)) := by kernel_rfl
def F51_j9 (R : ER) (x0 x1 x13 x99 : Value) : WP :=
  cnd x99 (F51_j10 R x0 x1 x13) (F51_j5 R x0 x1 x13)
theorem F51_j9_ok (R : ER) (e : Env) : den Pg R (cd Try.f51 [1,1,1,1,1,1,1,1,0,1,0,1,1,1]) e (setN (kont Pg R Try.f51) (fun e => F51_j5 R (e 0) (e 1) (e 13))) = (F51_j9 R (e 0) (e 1) (e 13) (e 99)) := (den_if Pg R (cd Try.f51 [1,1,1,1,1,1,1,1,0,1,0,1,1,1]) (cd Try.f51 [1,1,1,1,1,1,1,1,0,1,0,1,1,1,0]) (cd Try.f51 [1,1,1,1,1,1,1,1,0,1,0,1,1,1,1]) e (setN (kont Pg R Try.f51) (fun e => F51_j5 R (e 0) (e 1) (e 13))) (F51_j10 R (e 0) (e 1) (e 13)) _ _ (by kernel_rfl) (F51_j10_ok R e) rfl (by kernel_rfl))
def F51_j8 (R : ER) (x0 x1 x11 x13 : Value) : WP :=
  drewV (
  mem fun w36 => valV Pg noR (Instr.buildSlice 24 0 ⟨[]⟩) fun v35 =>
  pv (nilO x0) fun v37 =>
  pv (faO 13 v37) fun v38 =>
  ld1S [w36] v38 fun v39 =>
  mem fun w41 => blt Pg noR .append ⟨[24,24]⟩ 24 ⟨[false, false]⟩ ⟨[v35, v39]⟩ fun v40 =>
  pv (faO 4 x11) fun v42 =>
  ld1S [w41, w36] v42 fun v43 =>
  mem fun w45 => blt Pg noR .append ⟨[24,24]⟩ 24 ⟨[false, false]⟩ ⟨[v40, v43]⟩ fun v44 =>
  pv (nilO x0) fun v46 =>
  pv (faO 13 v46) fun v47 =>
  mem fun w49 => st1 v47 v44 fun v48 =>
  pv (nilO x0) fun v50 =>
  pv (faO 12 v50) fun v51 =>
  ld1 v51 fun v52 =>
  pv (bin .add v52 (.int .i64 1)) fun v53 =>
  pv (nilO x0) fun v54 =>
  pv (faO 12 v54) fun v55 =>
  st1 v55 v53 fun _ =>
  pv (faO 1 x11) fun v56 =>
  ld1 v56 fun v57 =>
  F51_j9 R x0 x1 x13 v57)
theorem F51_j8_ok (R : ER) (e : Env) : den Pg R (cd Try.f51 [1,1,1,1,1,1,1,1,0,1,0]) e (setN (kont Pg R Try.f51) (fun e => F51_j5 R (e 0) (e 1) (e 13))) = (F51_j8 R (e 0) (e 1) (e 11) (e 13)) := (den_join Pg R 2 (cd Try.f51 [1,1,1,1,1,1,1,1,0,1,0]) (cd Try.f51 [1,1,1,1,1,1,1,1,0,1,0,1,1,1]) e (setN (kont Pg R Try.f51) (fun e => F51_j5 R (e 0) (e 1) (e 13))) (fun e => F51_j9 R (e 0) (e 1) (e 13) (e 99)) _ (by kernel_rfl) (fun e => F51_j9_ok R e) (by kernel_rfl))
def F51_j7 (R : ER) (x0 x1 x11 x13 x78 : Value) : WP :=
  cnd x78 (F51_j8 R x0 x1 x11 x13) (F51_j5 R x0 x1 x13)
theorem F51_j7_ok (R : ER) (e : Env) : den Pg R (cd Try.f51 [1,1,1,1,1,1,1,1,0,1]) e (setN (kont Pg R Try.f51) (fun e => F51_j5 R (e 0) (e 1) (e 13))) = (F51_j7 R (e 0) (e 1) (e 11) (e 13) (e 78)) := (den_if Pg R (cd Try.f51 [1,1,1,1,1,1,1,1,0,1]) (cd Try.f51 [1,1,1,1,1,1,1,1,0,1,0]) (cd Try.f51 [1,1,1,1,1,1,1,1,0,1,1]) e (setN (kont Pg R Try.f51) (fun e => F51_j5 R (e 0) (e 1) (e 13))) (F51_j8 R (e 0) (e 1) (e 11) (e 13)) _ _ (by kernel_rfl) (F51_j8_ok R e) rfl (by kernel_rfl))
def F51_j6 (R : ER) (x0 x1 x11 x13 : Value) : WP :=
  drewV (
  pv (faO 2 x11) fun v58 =>
  ld1 v58 fun v59 =>
  pv (nilO x0) fun v60 =>
  pv (faO 11 v60) fun v61 =>
  ld1 v61 fun v62 =>
  pv (bin .eql v59 v62) fun v63 =>
  gd v63 true (pv (faO 3 x11)) fun v64 =>
  gd v63 true (ld1 v64) fun v65 =>
  gd v63 true (pv (some x0)) fun v66 =>
  gd v63 true (pv (nilO v66)) fun v67 =>
  gd v63 true (pv (faO 12 v67)) fun v68 =>
  gd v63 true (ld1 v68) fun v69 =>
  gd v63 true (pv (bin .eql v65 v69)) fun v70 =>
  pv (pickO v63 v70 (.bool false)) fun v71 =>
  gd v71 true (pv (some x0)) fun v72 =>
  gd v71 true (pv (nilO v72)) fun v73 =>
  gd v71 true (pv (faO 13 v73)) fun v74 =>
  gd v71 true (ld1 v74) fun v75 =>
  gd v71 true (pv (lenS v75)) fun v76 =>
  gd v71 true (pv (faO 4 x11)) fun v77 =>
  gd v71 true (ld1 v77) fun v78 =>
  gd v71 true (pv (lenS v78)) fun v79 =>
  gd v71 true (pv (bin .add v76 v79)) fun v80 =>
  gd v71 true (pv (bin .leq v80 (.int .i64 4096))) fun v81 =>
  pv (pickO v71 v81 (.bool false)) fun v82 =>
  F51_j7 R x0 x1 x11 x13 v82)
theorem F51_j6_ok (R : ER) (e : Env) : den Pg R (cd Try.f51 [1,1,1,1,1,1,1,1,0]) e (setN (kont Pg R Try.f51) (fun e => F51_j5 R (e 0) (e 1) (e 13))) = (F51_j6 R (e 0) (e 1) (e 11) (e 13)) := (den_join Pg R 0 (cd Try.f51 [1,1,1,1,1,1,1,1,0]) (cd Try.f51 [1,1,1,1,1,1,1,1,0,1]) e (setN (kont Pg R Try.f51) (fun e => F51_j5 R (e 0) (e 1) (e 13))) (fun e => F51_j7 R (e 0) (e 1) (e 11) (e 13) (e 78)) _ (by kernel_rfl) (fun e => F51_j7_ok R e) (by kernel_rfl))
def F51_j4 (R : ER) (x0 x1 x11 : Value) : WP :=
  valV Pg R (Instr.buildSlice 36 0 ⟨[]⟩) fun v83 =>
  F51_j6 R x0 x1 x11 v83
theorem F51_j4_ok (R : ER) (e : Env) : den Pg R (cd Try.f51 [1,1,1,1,1,1,1]) e (kont Pg R Try.f51) = (F51_j4 R (e 0) (e 1) (e 11)) := (den_join Pg R 1 (cd Try.f51 [1,1,1,1,1,1,1]) (cd Try.f51 [1,1,1,1,1,1,1,1,1]) e (kont Pg R Try.f51) (fun e => F51_j5 R (e 0) (e 1) (e 13)) _ (by kernel_rfl) (fun e => F51_j5_ok R e) (den_join Pg R 0 (pre 1 (cd Try.f51 [1,1,1,1,1,1,1])) (cd Try.f51 [1,1,1,1,1,1,1,1,0]) e (setN (kont Pg R Try.f51) (fun e => F51_j5 R (e 0) (e 1) (e 13))) (fun e => F51_j6 R (e 0) (e 1) (e 11) (e 13)) _ (by kernel_rfl) (fun e => F51_j6_ok R e) (by kernel_rfl)))
def F51_j3 (R : ER) (x0 x1 x3 x11 : Value) : WP :=
  pv (nilO x0) fun v84 =>
  pv (faO 4 v84) fun v85 =>
  st1 v85 x3 fun _ =>
  pv (faO 0 x11) fun v86 =>
  ld1 v86 fun v87 =>
  pv (bin .eql v87 (.int .i64 2)) fun v88 =>
  cnd v88 (
   ldN 5 x11 fun v89 =>
   cal Pg R 67 ⟨[x0, v89]⟩ fun v90 =>
   valV Pg R (Instr.buildSlice 36 0 ⟨[]⟩) fun v91 =>
   R (.returned (.tuple ⟨[v91, (.int .i64 0)]⟩))) (
   F51_j4 R x0 x1 x11)
theorem F51_j3_ok (R : ER) (e : Env) : den Pg R (cd Try.f51 [1,1,1,1,1]) e (kont Pg R Try.f51) = (F51_j3 R (e 0) (e 1) (e 3) (e 11)) := (den_join Pg R 1 (cd Try.f51 [1,1,1,1,1]) (cd Try.f51 [1,1,1,1,1,1,1]) e (kont Pg R Try.f51) (fun e => F51_j4 R (e 0) (e 1) (e 11)) _ (by kernel_rfl) (fun e => F51_j4_ok R e) (by kernel_rfl))
def F51_j2 (R : ER) (x0 x1 x2 x3 : Value) : WP :=
  cal Pg R 22 ⟨[x2]⟩ fun v92 =>
  pv (extO 0 v92) fun v93 =>
  pv (extO 1 v92) fun v94 =>
  al Pg 52 fun v95 =>
  stN 5 v95 v93 fun _ =>
  pv (bin .neq v94 (.int .i64 0)) fun v96 =>
  cnd v96 (
   R (.returned (.tuple ⟨[(.slice none 0 0), v94]⟩))) (
   F51_j3 R x0 x1 x3 v95)
theorem F51_j2_ok (R : ER) (e : Env) : den Pg R (cd Try.f51 [1,1,1]) e (kont Pg R Try.f51) = (F51_j2 R (e 0) (e 1) (e 2) (e 3)) := (den_join Pg R 1 (cd Try.f51 [1,1,1]) (cd Try.f51 [1,1,1,1,1]) e (kont Pg R Try.f51) (fun e => F51_j3 R (e 0) (e 1) (e 3) (e 11)) _ (by kernel_rfl) (fun e => F51_j3_ok R e) (by kernel_rfl))
def F51_j1 (R : ER) (x0 x1 x2 x3 : Value) : WP :=
  cal Pg R 66 ⟨[x0, x3]⟩ fun v97 =>
  pv (bin .neq v97 (.int .i64 0)) fun v98 =>
  cnd v98 (
   R (.returned (.tuple ⟨[(.slice none 0 0), v97]⟩))) (
   F51_j2 R x0 x1 x2 x3)
theorem F51_j1_ok (R : ER) (e : Env) : den Pg R (cd Try.f51 [1,1]) e (kont Pg R Try.f51) = (F51_j1 R (e 0) (e 1) (e 2) (e 3)) := (den_join Pg R 0 (cd Try.f51 [1,1]) (cd Try.f51 [1,1,1]) e (kont Pg R Try.f51) (fun e => F51_j2 R (e 0) (e 1) (e 2) (e 3)) _ (by kernel_rfl) (fun e => F51_j2_ok R e) (by kernel_rfl))
def F51_j11 (R : ER) (x0 x1 x2 x3 : Value) : WP :=
  pv (bin .lss x1 (.int .i64 0)) fun v99 =>
  gd v99 false (pv (some x1)) fun v100 =>
  gd v99 false (pv (some x0)) fun v101 =>
  gd v99 false (pv (nilO v101)) fun v102 =>
  gd v99 false (pv (faO 0 v102)) fun v103 =>
  gd v99 false (ld1 v103) fun v104 =>
  gd v99 false (pv (lenS v104)) fun v105 =>
  gd v99 false (pv (bin .geq v100 v105)) fun v106 =>
  pv (pickO v99 (.bool true) v106) fun v107 =>
  cnd v107 (
   R (.returned (.tuple ⟨[(.slice none 0 0), (.int .i64 3)]⟩))) (
   F51_j1 R x0 x1 x2 x3)
theorem F51_j11_ok (R : ER) (e : Env) : den Pg R (cd Try.f51 [1,0]) e (setN (kont Pg R Try.f51) (fun e => F51_j1 R (e 0) (e 1) (e 2) (e 3))) = (F51_j11 R (e 0) (e 1) (e 2) (e 3)) := (by kernel_rfl)
def F51 (R : ER) (x0 x1 x2 x3 : Value) : WP :=
  F51_j11 R x0 x1 x2 x3
theorem orpimentref35_Link_Input_den (R : ER) (x0 x1 x2 x3 : Value) : den Pg R (cd Try.f51 []) (argsEnv [x0, x1, x2, x3]) (kont Pg R Try.f51) = F51 R x0 x1 x2 x3 :=
  have h : ∀ e, den Pg R (cd Try.f51 []) e (kont Pg R Try.f51) = F51 R (e 0) (e 1) (e 2) (e 3) := fun e => (den_join Pg R 1 (cd Try.f51 []) (cd Try.f51 [1,1]) e (kont Pg R Try.f51) (fun e => F51_j1 R (e 0) (e 1) (e 2) (e 3)) _ (by kernel_rfl) (fun e => F51_j1_ok R e) (den_join Pg R 0 (pre 1 (cd Try.f51 [])) (cd Try.f51 [1,0]) e (setN (kont Pg R Try.f51) (fun e => F51_j1 R (e 0) (e 1) (e 2) (e 3))) (fun e => F51_j11 R (e 0) (e 1) (e 2) (e 3)) _ (by kernel_rfl) (fun e => F51_j11_ok R e) (by kernel_rfl)))
  h _
theorem F51_calls {R : ER} {x0 x1 x2 x3 : Value} {w : World} (h : F51 R x0 x1 x2 x3 w) : Calls Pg 51 ⟨[x0, x1, x2, x3]⟩ w R :=
  calls_of_den Try.func51 (by kernel_rfl) (by kernel_rfl) (orpimentref35_Link_Input_den R x0 x1 x2 x3) h
/-! ### 52: F52 -/
def F52_j2 (R : ER) : WP :=
  R (.returned (.bool true))
theorem F52_j2_ok (R : ER) (e : Env) : den Pg R (cd Try.f52 [1,1,1]) e (kont Pg R Try.f52) = (F52_j2 R) := by kernel_rfl
def F52_j5 (R : ER) (k1 : V5) (x1 x2 x15 x16 x17 : Value) : WP :=
  pv (ixS 1 x15 x17) fun v1 =>
  ld1 v1 fun v2 =>
  pv (ixS 1 x1 x17) fun v3 =>
  ld1 v3 fun v4 =>
  calD Pg R x2 ⟨[v2, v4]⟩ fun v5 =>
  pv (unO .not v5) fun v6 =>
  cnd v6 (
   R (.returned (.bool false))) (
   pv (bin .add x17 (.int .i64 1)) fun v7 =>
  k1 x1 x2 x15 x16 v7)
theorem F52_j5_ok (R : ER) (k1 : V5) (e : Env) : den Pg R (cd Try.f52 [1,1,0,1,0,0,1,1]) e (setN (inB 0 (setN (kont Pg R Try.f52) (fun e => F52_j2 R))) (fun e => k1 (e 1) (e 2) (e 15) (e 16) (e 17))) = (F52_j5 R k1 (e 1) (e 2) (e 15) (e 16) (e 17)) := (by kernel_rfl)
def F52_b1 (R : ER) (k1 : V5) (x1 x2 x15 x16 x17 : Value) : WP :=
  pv (bin .lss x17 x16) fun v8 =>
  cnd v8 (
   F52_j5 R k1 x1 x2 x15 x16 x17) (
   F52_j2 R)
theorem F52_b1_ok (R : ER) (k1 : V5) (e : Env) : den Pg R (cd Try.f52 [1,1,0,1,0,0]) e (setN (inB 0 (setN (kont Pg R Try.f52) (fun e => F52_j2 R))) (fun e => k1 (e 1) (e 2) (e 15) (e 16) (e 17))) = (F52_b1 R k1 (e 1) (e 2) (e 15) (e 16) (e 17)) := (den_join Pg R 1 (cd Try.f52 [1,1,0,1,0,0]) (cd Try.f52 [1,1,0,1,0,0,1,1]) e (setN (inB 0 (setN (kont Pg R Try.f52) (fun e => F52_j2 R))) (fun e => k1 (e 1) (e 2) (e 15) (e 16) (e 17))) (fun e => F52_j5 R k1 (e 1) (e 2) (e 15) (e 16) (e 17)) _ (by kernel_rfl) (fun e => F52_j5_ok R k1 e) (by kernel_rfl))
noncomputable def F52_l1 (R : ER) (n : Nat) : V5 := Nat.rec (motive := fun _ => V5) (fun _ _ _ _ _ => fun _ => False) (fun _ ih => fun x1 x2 x15 x16 x17 => F52_b1 R ih x1 x2 x15 x16 x17) n
theorem F52_l1_succ (R : ER) (n : Nat) (x1 x2 x15 x16 x17 : Value) : F52_l1 R (n + 1) x1 x2 x15 x16 x17 = F52_b1 R (F52_l1 R n) x1 x2 x15 x16 x17 := rfl
theorem F52_l1_ok (R : ER) : ∀ (n : Nat) (e : Env), iterL (den Pg R (cd Try.f52 [1,1,0,1,0,0])) n e (inB 0 (setN (kont Pg R Try.f52) (fun e => F52_j2 R))) = F52_l1 R n (e 1) (e 2) (e 15) (e 16) (e 17) :=
  iterL_join (den Pg R (cd Try.f52 [1,1,0,1,0,0])) (inB 0 (setN (kont Pg R Try.f52) (fun e => F52_j2 R))) (fun n e => F52_l1 R n (e 1) (e 2) (e 15) (e 16) (e 17)) (fun _ => rfl) (fun n e => (F52_b1_ok R (F52_l1 R n) e).trans (F52_l1_succ R n (e 1) (e 2) (e 15) (e 16) (e 17)).symm)
def F52_j4 (R : ER) (x1 x2 x15 x16 x17 : Value) : WP :=
  exN fun n => F52_l1 R n x1 x2 x15 x16 x17
theorem F52_j4_ok (R : ER) (e : Env) : den Pg R (cd Try.f52 [1,1,0,1]) e (setN (kont Pg R Try.f52) (fun e => F52_j2 R)) = (F52_j4 R (e 1) (e 2) (e 15) (e 16) (e 17)) := (den_block Pg R (cd Try.f52 [1,1,0,1]) 0 (cd Try.f52 [1,1,0,1,0]) e (setN (kont Pg R Try.f52) (fun e => F52_j2 R)) _ (by kernel_rfl) (den_loop Pg R (cd Try.f52 [1,1,0,1,0]) (cd Try.f52 [1,1,0,1,0,0]) e (inB 0 (setN (kont Pg R Try.f52) (fun e => F52_j2 R))) (fun n e => F52_l1 R n (e 1) (e 2) (e 15) (e 16) (e 17)) _ (by kernel_rfl) (F52_l1_ok R) (by kernel_rfl)))
def F52_j3 (R : ER) (x0 x1 x2 : Value) : WP :=
  pv (lenS x0) fun v9 =>
  F52_j4 R x1 x2 x0 v9 (.int .i64 0)
theorem F52_j3_ok (R : ER) (e : Env) : den Pg R (cd Try.f52 [1,1,0]) e (setN (kont Pg R Try.f52) (fun e => F52_j2 R)) = (F52_j3 R (e 0) (e 1) (e 2)) := (den_join Pg R 0 (cd Try.f52 [1,1,0]) (cd Try.f52 [1,1,0,1]) e (setN (kont Pg R Try.f52) (fun e => F52_j2 R)) (fun e => F52_j4 R (e 1) (e 2) (e 15) (e 16) (e 17)) _ (by kernel_rfl) (fun e => F52_j4_ok R e) (by kernel_rfl))
def F52_j1 (R : ER) (x0 x1 x2 : Value) : WP :=
  F52_j3 R x0 x1 x2
theorem F52_j1_ok (R : ER) (e : Env) : den Pg R (cd Try.f52 [1,1]) e (kont Pg R Try.f52) = (F52_j1 R (e 0) (e 1) (e 2)) := (den_join Pg R 0 (cd Try.f52 [1,1]) (cd Try.f52 [1,1,1]) e (kont Pg R Try.f52) (fun e => F52_j2 R) _ (by kernel_rfl) (fun e => F52_j2_ok R e) (den_conv Pg R (pre 0 (cd Try.f52 [1,1])) (cd Try.f52 [1,1,0]) e (setN (kont Pg R Try.f52) (fun e => F52_j2 R)) _ (by kernel_rfl) (F52_j3_ok R e)))
def F52 (R : ER) (x0 x1 x2 : Value) : WP :=
  pv (lenS x0) fun v10 =>
  pv (lenS x1) fun v11 =>
  pv (bin .neq v10 v11) fun v12 =>
  cnd v12 (
   R (.returned (.bool false))) (
   F52_j1 R x0 x1 x2)
theorem slices_EqualFunc_den (R : ER) (x0 x1 x2 : Value) : den Pg R (cd Try.f52 []) (argsEnv [x0, x1, x2]) (kont Pg R Try.f52) = F52 R x0 x1 x2 :=
  have h : ∀ e, den Pg R (cd Try.f52 []) e (kont Pg R Try.f52) = F52 R (e 0) (e 1) (e 2) := fun e => (den_join Pg R 1 (cd Try.f52 []) (cd Try.f52 [1,1]) e (kont Pg R Try.f52) (fun e => F52_j1 R (e 0) (e 1) (e 2)) _ (by kernel_rfl) (fun e => F52_j1_ok R e) (by kernel_rfl))
  h _
theorem F52_calls {R : ER} {x0 x1 x2 : Value} {w : World} (h : F52 R x0 x1 x2 w) : Calls Pg 52 ⟨[x0, x1, x2]⟩ w R :=
  calls_of_den Try.func52 (by kernel_rfl) (by kernel_rfl) (slices_EqualFunc_den R x0 x1 x2) h
/-! ### 53: F53 -/
def F53 (R : ER) (x0 x1 : Value) : WP :=
  cal Pg R 19 ⟨[x0, x1]⟩ fun v1 =>
  R (.returned v1)
theorem orpimentlaw35_do_1_den (R : ER) (x0 x1 : Value) : den Pg R (cd Try.f53 []) (argsEnv [x0, x1]) (kont Pg R Try.f53) = F53 R x0 x1 :=
  have h : ∀ e, den Pg R (cd Try.f53 []) e (kont Pg R Try.f53) = F53 R (e 0) (e 1) := fun e => by kernel_rfl
  h _
theorem F53_calls {R : ER} {x0 x1 : Value} {w : World} (h : F53 R x0 x1 w) : Calls Pg 53 ⟨[x0, x1]⟩ w R :=
  calls_of_den Try.func53 (by kernel_rfl) (by kernel_rfl) (orpimentlaw35_do_1_den R x0 x1) h
/-! ### 54: F54 -/
def F54_j6 (R : ER) (x9 : Value) : WP :=
  R (.returned (.tuple ⟨[x9, (.int .i64 0)]⟩))
theorem F54_j6_ok (R : ER) (e : Env) : den Pg R (cd Try.f54 [1,1,1,1,1,1,1,1,1,1,1,1]) e (kont Pg R Try.f54) = (F54_j6 R (e 9)) := by kernel_rfl
def F54_j10 (R : ER) (k1 : V6) (x0 x1 x7 x8 x9 x14 : Value) : WP :=
  pv (bin .add x14 (.int .i64 1)) fun v1 =>
  k1 x0 x1 x7 x8 x9 v1
theorem F54_j10_ok (R : ER) (k1 : V6) (e : Env) : den Pg R (cd Try.f54 [1,1,1,1,1,1,1,1,1,1,1,0,1,0,0,1,1]) e (setN (inB 2 (setN (kont Pg R Try.f54) (fun e => F54_j6 R (e 9)))) (fun e => k1 (e 0) (e 1) (e 7) (e 8) (e 9) (e 14))) = (F54_j10 R k1 (e 0) (e 1) (e 7) (e 8) (e 9) (e 14)) := by kernel_rfl
def F54_j17 (R : ER) (k1 : V6) (x0 x1 x7 x8 x9 x14 x15 : Value) : WP :=
  pv (nilO x0) fun v2 =>
  pv (faO 9 v2) fun v3 =>
  ld1 v3 fun v4 =>
  pv (lenS x7) fun v5 =>
  pv (bin .rem v4 v5) fun v6 =>
  pv (ixS 1 x7 v6) fun v7 =>
  ld1 v7 fun v8 =>
  pv (bldO [.int .i64 0, .slice none 0 0] [(0,1, v8), (1,1, x15)]) fun v9 =>
  valV Pg R (Instr.buildSlice 127 1 ⟨[(0, v9)]⟩) fun v10 =>
  blt Pg R .append ⟨[127,127]⟩ 127 ⟨[false, false]⟩ ⟨[x9, v10]⟩ fun v11 =>
  pv (nilO x0) fun v12 =>
  pv (faO 9 v12) fun v13 =>
  ld1 v13 fun v14 =>
  pv (bin .add v14 (.int .i64 1)) fun v15 =>
  pv (nilO x0) fun v16 =>
  pv (faO 9 v16) fun v17 =>
  st1 v17 v15 fun _ =>
  F54_j10 R k1 x0 x1 x7 x8 v11 x14
theorem F54_j17_ok (R : ER) (k1 : V6) (e : Env) : den Pg R (cd Try.f54 [1,1,1,1,1,1,1,1,1,1,1,0,1,0,0,1,0,0,1,1,1,1,0,1,1,1,0]) e (inB 4 (inB 3 (setN (setN (inB 2 (setN (kont Pg R Try.f54) (fun e => F54_j6 R (e 9)))) (fun e => k1 (e 0) (e 1) (e 7) (e 8) (e 9) (e 14))) (fun e => F54_j10 R k1 (e 0) (e 1) (e 7) (e 8) (e 9) (e 14))))) = (F54_j17 R k1 (e 0) (e 1) (e 7) (e 8) (e 9) (e 14) (e 15)) := by kernel_rfl
def F54_j22 (R : ER) (k1 : V6) (k2 : V8) (x0 x1 x7 x8 x9 x14 x15 x17 : Value) : WP :=
  pv (ixS 1 x7 x17) fun v18 =>
  ld1 v18 fun v19 =>
  pv (bldO [.int .i64 0, .slice none 0 0] [(0,1, v19), (1,1, x15)]) fun v20 =>
  valV Pg R (Instr.buildSlice 127 1 ⟨[(0, v20)]⟩) fun v21 =>
  blt Pg R .append ⟨[127,127]⟩ 127 ⟨[false, false]⟩ ⟨[x9, v21]⟩ fun v22 =>
  pv (bin .add x17 (.int .i64 1)) fun v23 =>
  k2 x0 x1 x7 x8 v22 x14 x15 v23
theorem F54_j22_ok (R : ER) (k1 : V6) (k2 : V8) (e : Env) : den Pg R (cd Try.f54 [1,1,1,1,1,1,1,1,1,1,1,0,1,0,0,1,0,0,1,1,1,1,0,1,1,1,1,1,0,1,0,0,1]) e (setN (inB 5 (inB 4 (inB 3 (setN (setN (inB 2 (setN (kont Pg R Try.f54) (fun e => F54_j6 R (e 9)))) (fun e => k1 (e 0) (e 1) (e 7) (e 8) (e 9) (e 14))) (fun e => F54_j10 R k1 (e 0) (e 1) (e 7) (e 8) (e 9) (e 14)))))) (fun e => k2 (e 0) (e 1) (e 7) (e 8) (e 9) (e 14) (e 15) (e 17))) = (F54_j22 R k1 k2 (e 0) (e 1) (e 7) (e 8) (e 9) (e 14) (e 15) (e 17)) := by kernel_rfl
def F54_b2 (R : ER) (k1 : V6) (k2 : V8) (x0 x1 x7 x8 x9 x14 x15 x17 : Value) : WP :=
  pv (lenS x7) fun v24 =>
  pv (bin .lss x17 v24) fun v25 =>
  cnd v25 (
   F54_j22 R k1 k2 x0 x1 x7 x8 x9 x14 x15 x17) (
   F54_j10 R k1 x0 x1 x7 x8 x9 x14)
theorem F54_b2_ok (R : ER) (k1 : V6) (k2 : V8) (e : Env) : den Pg R (cd Try.f54 [1,1,1,1,1,1,1,1,1,1,1,0,1,0,0,1,0,0,1,1,1,1,0,1,1,1,1,1,0,1,0,0]) e (setN (inB 5 (inB 4 (inB 3 (setN (setN (inB 2 (setN (kont Pg R Try.f54) (fun e => F54_j6 R (e 9)))) (fun e => k1 (e 0) (e 1) (e 7) (e 8) (e 9) (e 14))) (fun e => F54_j10 R k1 (e 0) (e 1) (e 7) (e 8) (e 9) (e 14)))))) (fun e => k2 (e 0) (e 1) (e 7) (e 8) (e 9) (e 14) (e 15) (e 17))) = (F54_b2 R k1 k2 (e 0) (e 1) (e 7) (e 8) (e 9) (e 14) (e 15) (e 17)) := (den_join Pg R 0 (cd Try.f54 [1,1,1,1,1,1,1,1,1,1,1,0,1,0,0,1,0,0,1,1,1,1,0,1,1,1,1,1,0,1,0,0]) (cd Try.f54 [1,1,1,1,1,1,1,1,1,1,1,0,1,0,0,1,0,0,1,1,1,1,0,1,1,1,1,1,0,1,0,0,1]) e (setN (inB 5 (inB 4 (inB 3 (setN (setN (inB 2 (setN (kont Pg R Try.f54) (fun e => F54_j6 R (e 9)))) (fun e => k1 (e 0) (e 1) (e 7) (e 8) (e 9) (e 14))) (fun e => F54_j10 R k1 (e 0) (e 1) (e 7) (e 8) (e 9) (e 14)))))) (fun e => k2 (e 0) (e 1) (e 7) (e 8) (e 9) (e 14) (e 15) (e 17))) (fun e => F54_j22 R k1 k2 (e 0) (e 1) (e 7) (e 8) (e 9) (e 14) (e 15) (e 17)) _ (by kernel_rfl) (fun e => F54_j22_ok R k1 k2 e) (by kernel_rfl))
noncomputable def F54_l1 (R : ER) (k1 : V6) (n : Nat) : V8 := Nat.rec (motive := fun _ => V8) (fun _ _ _ _ _ _ _ _ => fun _ => False) (fun _ ih => fun x0 x1 x7 x8 x9 x14 x15 x17 => F54_b2 R k1 ih x0 x1 x7 x8 x9 x14 x15 x17) n
theorem F54_l1_succ (R : ER) (k1 : V6) (n : Nat) (x0 x1 x7 x8 x9 x14 x15 x17 : Value) : F54_l1 R k1 (n + 1) x0 x1 x7 x8 x9 x14 x15 x17 = F54_b2 R k1 (F54_l1 R k1 n) x0 x1 x7 x8 x9 x14 x15 x17 := rfl
theorem F54_l1_ok (R : ER) (k1 : V6) : ∀ (n : Nat) (e : Env), iterL (den Pg R (cd Try.f54 [1,1,1,1,1,1,1,1,1,1,1,0,1,0,0,1,0,0,1,1,1,1,0,1,1,1,1,1,0,1,0,0])) n e (inB 5 (inB 4 (inB 3 (setN (setN (inB 2 (setN (kont Pg R Try.f54) (fun e => F54_j6 R (e 9)))) (fun e => k1 (e 0) (e 1) (e 7) (e 8) (e 9) (e 14))) (fun e => F54_j10 R k1 (e 0) (e 1) (e 7) (e 8) (e 9) (e 14)))))) = F54_l1 R k1 n (e 0) (e 1) (e 7) (e 8) (e 9) (e 14) (e 15) (e 17) :=
  iterL_join (den Pg R (cd Try.f54 [1,1,1,1,1,1,1,1,1,1,1,0,1,0,0,1,0,0,1,1,1,1,0,1,1,1,1,1,0,1,0,0])) (inB 5 (inB 4 (inB 3 (setN (setN (inB 2 (setN (kont Pg R Try.f54) (fun e => F54_j6 R (e 9)))) (fun e => k1 (e 0) (e 1) (e 7) (e 8) (e 9) (e 14))) (fun e => F54_j10 R k1 (e 0) (e 1) (e 7) (e 8) (e 9) (e 14)))))) (fun n e => F54_l1 R k1 n (e 0) (e 1) (e 7) (e 8) (e 9) (e 14) (e 15) (e 17)) (fun _ => rfl) (fun n e => (F54_b2_ok R k1 (F54_l1 R k1 n) e).trans (F54_l1_succ R k1 n (e 0) (e 1) (e 7) (e 8) (e 9) (e 14) (e 15) (e 17)).symm)
def F54_j21 (R : ER) (k1 : V6) (x0 x1 x7 x8 x9 x14 x15 x17 : Value) : WP :=
  exN fun n => F54_l1 R k1 n x0 x1 x7 x8 x9 x14 x15 x17
theorem F54_j21_ok (R : ER) (k1 : V6) (e : Env) : den Pg R (cd Try.f54 [1,1,1,1,1,1,1,1,1,1,1,0,1,0,0,1,0,0,1,1,1,1,0,1,1,1,1,1,0,1]) e (inB 4 (inB 3 (setN (setN (inB 2 (setN (kont Pg R Try.f54) (fun e => F54_j6 R (e 9)))) (fun e => k1 (e 0) (e 1) (e 7) (e 8) (e 9) (e 14))) (fun e => F54_j10 R k1 (e 0) (e 1) (e 7) (e 8) (e 9) (e 14))))) = (F54_j21 R k1 (e 0) (e 1) (e 7) (e 8) (e 9) (e 14) (e 15) (e 17)) := (den_block Pg R (cd Try.f54 [1,1,1,1,1,1,1,1,1,1,1,0,1,0,0,1,0,0,1,1,1,1,0,1,1,1,1,1,0,1]) 5 (cd Try.f54 [1,1,1,1,1,1,1,1,1,1,1,0,1,0,0,1,0,0,1,1,1,1,0,1,1,1,1,1,0,1,0]) e (inB 4 (inB 3 (setN (setN (inB 2 (setN (kont Pg R Try.f54) (fun e => F54_j6 R (e 9)))) (fun e => k1 (e 0) (e 1) (e 7) (e 8) (e 9) (e 14))) (fun e => F54_j10 R k1 (e 0) (e 1) (e 7) (e 8) (e 9) (e 14))))) _ (by kernel_rfl) (den_loop Pg R (cd Try.f54 [1,1,1,1,1,1,1,1,1,1,1,0,1,0,0,1,0,0,1,1,1,1,0,1,1,1,1,1,0,1,0]) (cd Try.f54 [1,1,1,1,1,1,1,1,1,1,1,0,1,0,0,1,0,0,1,1,1,1,0,1,1,1,1,1,0,1,0,0]) e (inB 5 (inB 4 (inB 3 (setN (setN (inB 2 (setN (kont Pg R Try.f54) (fun e => F54_j6 R (e 9)))) (fun e => k1 (e 0) (e 1) (e 7) (e 8) (e 9) (e 14))) (fun e => F54_j10 R k1 (e 0) (e 1) (e 7) (e 8) (e 9) (e 14)))))) (fun n e => F54_l1 R k1 n (e 0) (e 1) (e 7) (e 8) (e 9) (e 14) (e 15) (e 17)) _ (by kernel_rfl) (F54_l1_ok R k1) (by kernel_rfl)))
def F54_j20 (R : ER) (k1 : V6) (x0 x1 x7 x8 x9 x14 x15 : Value) : WP :=
  F54_j21 R k1 x0 x1 x7 x8 x9 x14 x15 (.int .i64 0)
theorem F54_j20_ok (R : ER) (k1 : V6) (e : Env) : den Pg R (cd Try.f54 [1,1,1,1,1,1,1,1,1,1,1,0,1,0,0,1,0,0,1,1,1,1,0,1,1,1,1,1,0]) e (inB 4 (inB 3 (setN (setN (inB 2 (setN (kont Pg R Try.f54) (fun e => F54_j6 R (e 9)))) (fun e => k1 (e 0) (e 1) (e 7) (e 8) (e 9) (e 14))) (fun e => F54_j10 R k1 (e 0) (e 1) (e 7) (e 8) (e 9) (e 14))))) = (F54_j20 R k1 (e 0) (e 1) (e 7) (e 8) (e 9) (e 14) (e 15)) := (den_join Pg R 0 (cd Try.f54 [1,1,1,1,1,1,1,1,1,1,1,0,1,0,0,1,0,0,1,1,1,1,0,1,1,1,1,1,0]) (cd Try.f54 [1,1,1,1,1,1,1,1,1,1,1,0,1,0,0,1,0,0,1,1,1,1,0,1,1,1,1,1,0,1]) e (inB 4 (inB 3 (setN (setN (inB 2 (setN (kont Pg R Try.f54) (fun e => F54_j6 R (e 9)))) (fun e => k1 (e 0) (e 1) (e 7) (e 8) (e 9) (e 14))) (fun e => F54_j10 R k1 (e 0) (e 1) (e 7) (e 8) (e 9) (e 14))))) (fun e => F54_j21 R k1 (e 0) (e 1) (e 7) (e 8) (e 9) (e 14) (e 15) (e 17)) _ (by kernel_rfl) (fun e => F54_j21_ok R k1 e) (by kernel_rfl))
def F54_j19 (R : ER) (k1 : V6) (x0 x1 x7 x8 x9 x14 x15 x229 : Value) : WP :=
  cnd x229 (F54_j20 R k1 x0 x1 x7 x8 x9 x14 x15) (F54_j10 R k1 x0 x1 x7 x8 x9 x14)
theorem F54_j19_ok (R : ER) (k1 : V6) (e : Env) : den Pg R (cd Try.f54 [1,1,1,1,1,1,1,1,1,1,1,0,1,0,0,1,0,0,1,1,1,1,0,1,1,1,1,1]) e (inB 4 (inB 3 (setN (setN (inB 2 (setN (kont Pg R Try.f54) (fun e => F54_j6 R (e 9)))) (fun e => k1 (e 0) (e 1) (e 7) (e 8) (e 9) (e 14))) (fun e => F54_j10 R k1 (e 0) (e 1) (e 7) (e 8) (e 9) (e 14))))) = (F54_j19 R k1 (e 0) (e 1) (e 7) (e 8) (e 9) (e 14) (e 15) (e 229)) := (den_if Pg R (cd Try.f54 [1,1,1,1,1,1,1,1,1,1,1,0,1,0,0,1,0,0,1,1,1,1,0,1,1,1,1,1]) (cd Try.f54 [1,1,1,1,1,1,1,1,1,1,1,0,1,0,0,1,0,0,1,1,1,1,0,1,1,1,1,1,0]) (cd Try.f54 [1,1,1,1,1,1,1,1,1,1,1,0,1,0,0,1,0,0,1,1,1,1,0,1,1,1,1,1,1]) e (inB 4 (inB 3 (setN (setN (inB 2 (setN (kont Pg R Try.f54) (fun e => F54_j6 R (e 9)))) (fun e => k1 (e 0) (e 1) (e 7) (e 8) (e 9) (e 14))) (fun e => F54_j10 R k1 (e 0) (e 1) (e 7) (e 8) (e 9) (e 14))))) (F54_j20 R k1 (e 0) (e 1) (e 7) (e 8) (e 9) (e 14) (e 15)) _ _ (by kernel_rfl) (F54_j20_ok R k1 e) rfl (by kernel_rfl))
def F54_j18 (R : ER) (k1 : V6) (x0 x1 x7 x8 x9 x14 x15 x194 : Value) : WP :=
  pv (bin .eql x194 (.int .i64 2)) fun v26 =>
  F54_j19 R k1 x0 x1 x7 x8 x9 x14 x15 v26
theorem F54_j18_ok (R : ER) (k1 : V6) (e : Env) : den Pg R (cd Try.f54 [1,1,1,1,1,1,1,1,1,1,1,0,1,0,0,1,0,0,1,1,1,1,0,1,1,1,1]) e (inB 4 (inB 3 (setN (setN (inB 2 (setN (kont Pg R Try.f54) (fun e => F54_j6 R (e 9)))) (fun e => k1 (e 0) (e 1) (e 7) (e 8) (e 9) (e 14))) (fun e => F54_j10 R k1 (e 0) (e 1) (e 7) (e 8) (e 9) (e 14))))) = (F54_j18 R k1 (e 0) (e 1) (e 7) (e 8) (e 9) (e 14) (e 15) (e 194)) := (den_join Pg R 0 (cd Try.f54 [1,1,1,1,1,1,1,1,1,1,1,0,1,0,0,1,0,0,1,1,1,1,0,1,1,1,1]) (cd Try.f54 [1,1,1,1,1,1,1,1,1,1,1,0,1,0,0,1,0,0,1,1,1,1,0,1,1,1,1,1]) e (inB 4 (inB 3 (setN (setN (inB 2 (setN (kont Pg R Try.f54) (fun e => F54_j6 R (e 9)))) (fun e => k1 (e 0) (e 1) (e 7) (e 8) (e 9) (e 14))) (fun e => F54_j10 R k1 (e 0) (e 1) (e 7) (e 8) (e 9) (e 14))))) (fun e => F54_j19 R k1 (e 0) (e 1) (e 7) (e 8) (e 9) (e 14) (e 15) (e 229)) _ (by kernel_rfl) (fun e => F54_j19_ok R k1 e) (by kernel_rfl))
def F54_j16 (R : ER) (k1 : V6) (x0 x1 x7 x8 x9 x14 x15 x194 x205 : Value) : WP :=
  cnd x205 (F54_j17 R k1 x0 x1 x7 x8 x9 x14 x15) (F54_j18 R k1 x0 x1 x7 x8 x9 x14 x15 x194)
theorem F54_j16_ok (R : ER) (k1 : V6) (e : Env) : den Pg R (cd Try.f54 [1,1,1,1,1,1,1,1,1,1,1,0,1,0,0,1,0,0,1,1,1,1,0,1,1,1]) e (inB 4 (inB 3 (setN (setN (inB 2 (setN (kont Pg R Try.f54) (fun e => F54_j6 R (e 9)))) (fun e => k1 (e 0) (e 1) (e 7) (e 8) (e 9) (e 14))) (fun e => F54_j10 R k1 (e 0) (e 1) (e 7) (e 8) (e 9) (e 14))))) = (F54_j16 R k1 (e 0) (e 1) (e 7) (e 8) (e 9) (e 14) (e 15) (e 194) (e 205)) := (den_if Pg R (cd Try.f54 [1,1,1,1,1,1,1,1,1,1,1,0,1,0,0,1,0,0,1,1,1,1,0,1,1,1]) (cd Try.f54 [1,1,1,1,1,1,1,1,1,1,1,0,1,0,0,1,0,0,1,1,1,1,0,1,1,1,0]) (cd Try.f54 [1,1,1,1,1,1,1,1,1,1,1,0,1,0,0,1,0,0,1,1,1,1,0,1,1,1,1]) e (inB 4 (inB 3 (setN (setN (inB 2 (setN (kont Pg R Try.f54) (fun e => F54_j6 R (e 9)))) (fun e => k1 (e 0) (e 1) (e 7) (e 8) (e 9) (e 14))) (fun e => F54_j10 R k1 (e 0) (e 1) (e 7) (e 8) (e 9) (e 14))))) (F54_j17 R k1 (e 0) (e 1) (e 7) (e 8) (e 9) (e 14) (e 15)) (F54_j18 R k1 (e 0) (e 1) (e 7) (e 8) (e 9) (e 14) (e 15) (e 194)) _ (by kernel_rfl) (F54_j17_ok R k1 e) (F54_j18_ok R k1 e) (by kernel_rfl))
def F54_j15 (R : ER) (k1 : V6) (x0 x1 x7 x8 x9 x14 x15 x194 : Value) : WP :=
  pv (bin .eql x194 (.int .i64 1)) fun v27 =>
  F54_j16 R k1 x0 x1 x7 x8 x9 x14 x15 x194 v27
theorem F54_j15_ok (R : ER) (k1 : V6) (e : Env) : den Pg R (cd Try.f54 [1,1,1,1,1,1,1,1,1,1,1,0,1,0,0,1,0,0,1,1,1,1,0,1,1]) e (inB 4 (inB 3 (setN (setN (inB 2 (setN (kont Pg R Try.f54) (fun e => F54_j6 R (e 9)))) (fun e => k1 (e 0) (e 1) (e 7) (e 8) (e 9) (e 14))) (fun e => F54_j10 R k1 (e 0) (e 1) (e 7) (e 8) (e 9) (e 14))))) = (F54_j15 R k1 (e 0) (e 1) (e 7) (e 8) (e 9) (e 14) (e 15) (e 194)) := (den_join Pg R 0 (cd Try.f54 [1,1,1,1,1,1,1,1,1,1,1,0,1,0,0,1,0,0,1,1,1,1,0,1,1]) (cd Try.f54 [1,1,1,1,1,1,1,1,1,1,1,0,1,0,0,1,0,0,1,1,1,1,0,1,1,1]) e (inB 4 (inB 3 (setN (setN (inB 2 (setN (kont Pg R Try.f54) (fun e => F54_j6 R (e 9)))) (fun e => k1 (e 0) (e 1) (e 7) (e 8) (e 9) (e 14))) (fun e => F54_j10 R k1 (e 0) (e 1) (e 7) (e 8) (e 9) (e 14))))) (fun e => F54_j16 R k1 (e 0) (e 1) (e 7) (e 8) (e 9) (e 14) (e 15) (e 194) (e 205)) _ (by kernel_rfl) (fun e => F54_j16_ok R k1 e) (by kernel_rfl))
def F54_j14 (R : ER) (k1 : V6) (x0 x1 x7 x8 x9 x14 x15 x194 x195 : Value) : WP :=
  cnd x195 (pv (ixS 1 x7 (.int .i64 0)) fun v28 =>
  ld1 v28 fun v29 =>
  pv (bldO [.int .i64 0, .slice none 0 0] [(0,1, v29), (1,1, x15)]) fun v30 =>
  valV Pg R (Instr.buildSlice 127 1 ⟨[(0, v30)]⟩) fun v31 =>
  blt Pg R .append ⟨[127,127]⟩ 127 ⟨[false, false]⟩ ⟨[x9, v31]⟩ fun v32 =>
  F54_j10 R k1 x0 x1 x7 x8 v32 x14) (F54_j15 R k1 x0 x1 x7 x8 x9 x14 x15 x194)
theorem F54_j14_ok (R : ER) (k1 : V6) (e : Env) : den Pg R (cd Try.f54 [1,1,1,1,1,1,1,1,1,1,1,0,1,0,0,1,0,0,1,1,1,1,0,1]) e (inB 4 (inB 3 (setN (setN (inB 2 (setN (kont Pg R Try.f54) (fun e => F54_j6 R (e 9)))) (fun e => k1 (e 0) (e 1) (e 7) (e 8) (e 9) (e 14))) (fun e => F54_j10 R k1 (e 0) (e 1) (e 7) (e 8) (e 9) (e 14))))) = (F54_j14 R k1 (e 0) (e 1) (e 7) (e 8) (e 9) (e 14) (e 15) (e 194) (e 195)) := (den_if Pg R (cd Try.f54 [1,1,1,1,1,1,1,1,1,1,1,0,1,0,0,1,0,0,1,1,1,1,0,1]) (cd Try.f54 [1,1,1,1,1,1,1,1,1,1,1,0,1,0,0,1,0,0,1,1,1,1,0,1,0]) (cd Try.f54 [1,1,1,1,1,1,1,1,1,1,1,0,1,0,0,1,0,0,1,1,1,1,0,1,1]) e (inB 4 (inB 3 (setN (setN (inB 2 (setN (kont Pg R Try.f54) (fun e => F54_j6 R (e 9)))) (fun e => k1 (e 0) (e 1) (e 7) (e 8) (e 9) (e 14))) (fun e => F54_j10 R k1 (e 0) (e 1) (e 7) (e 8) (e 9) (e 14))))) _ (F54_j15 R k1 (e 0) (e 1) (e 7) (e 8) (e 9) (e 14) (e 15) (e 194)) _ (by kernel_rfl) rfl (F54_j15_ok R k1 e) (by kernel_rfl))
def F54_j13 (R : ER) (k1 : V6) (x0 x1 x7 x8 x9 x14 x15 x194 : Value) : WP :=
  pv (bin .eql x194 (.int .i64 0)) fun v33 =>
  F54_j14 R k1 x0 x1 x7 x8 x9 x14 x15 x194 v33
theorem F54_j13_ok (R : ER) (k1 : V6) (e : Env) : den Pg R (cd Try.f54 [1,1,1,1,1,1,1,1,1,1,1,0,1,0,0,1,0,0,1,1,1,1]) e (inB 3 (setN (setN (inB 2 (setN (kont Pg R Try.f54) (fun e => F54_j6 R (e 9)))) (fun e => k1 (e 0) (e 1) (e 7) (e 8) (e 9) (e 14))) (fun e => F54_j10 R k1 (e 0) (e 1) (e 7) (e 8) (e 9) (e 14)))) = (F54_j13 R k1 (e 0) (e 1) (e 7) (e 8) (e 9) (e 14) (e 15) (e 194)) := (den_block Pg R (cd Try.f54 [1,1,1,1,1,1,1,1,1,1,1,0,1,0,0,1,0,0,1,1,1,1]) 4 (cd Try.f54 [1,1,1,1,1,1,1,1,1,1,1,0,1,0,0,1,0,0,1,1,1,1,0]) e (inB 3 (setN (setN (inB 2 (setN (kont Pg R Try.f54) (fun e => F54_j6 R (e 9)))) (fun e => k1 (e 0) (e 1) (e 7) (e 8) (e 9) (e 14))) (fun e => F54_j10 R k1 (e 0) (e 1) (e 7) (e 8) (e 9) (e 14)))) _ (by kernel_rfl) (den_join Pg R 0 (cd Try.f54 [1,1,1,1,1,1,1,1,1,1,1,0,1,0,0,1,0,0,1,1,1,1,0]) (cd Try.f54 [1,1,1,1,1,1,1,1,1,1,1,0,1,0,0,1,0,0,1,1,1,1,0,1]) e (inB 4 (inB 3 (setN (setN (inB 2 (setN (kont Pg R Try.f54) (fun e => F54_j6 R (e 9)))) (fun e => k1 (e 0) (e 1) (e 7) (e 8) (e 9) (e 14))) (fun e => F54_j10 R k1 (e 0) (e 1) (e 7) (e 8) (e 9) (e 14))))) (fun e => F54_j14 R k1 (e 0) (e 1) (e 7) (e 8) (e 9) (e 14) (e 15) (e 194) (e 195)) _ (by kernel_rfl) (fun e => F54_j14_ok R k1 e) (by kernel_rfl)))
def F54_j12 (R : ER) (k1 : V6) (x0 x1 x7 x8 x9 x14 : Value) : WP :=
  pv (nilO x0) fun v34 =>
  pv (faO 5 v34) fun v35 =>
  ld1 v35 fun v36 =>
  pv (ixS 6 v36 x14) fun v37 =>
  pv (faO 0 v37) fun v38 =>
  ldN 5 v38 fun v39 =>
  cal Pg R 17 ⟨[v39]⟩ fun v40 =>
  pv (extO 0 v40) fun v41 =>
  pv (extO 1 v40) fun v42 =>
  pv (nilO x0) fun v43 =>
  pv (faO 5 v43) fun v44 =>
  ld1 v44 fun v45 =>
  pv (ixS 6 v45 x14) fun v46 =>
  pv (faO 5 v46) fun v47 =>
  st1 v47 x1 fun _ =>
  pv (nilO x0) fun v48 =>
  pv (faO 2 v48) fun v49 =>
  ld1 v49 fun v50 =>
  F54_j13 R k1 x0 x1 x7 x8 x9 x14 v41 v50
theorem F54_j12_ok (R : ER) (k1 : V6) (e : Env) : den Pg R (cd Try.f54 [1,1,1,1,1,1,1,1,1,1,1,0,1,0,0,1,0,0,1]) e (inB 3 (setN (setN (inB 2 (setN (kont Pg R Try.f54) (fun e => F54_j6 R (e 9)))) (fun e => k1 (e 0) (e 1) (e 7) (e 8) (e 9) (e 14))) (fun e => F54_j10 R k1 (e 0) (e 1) (e 7) (e 8) (e 9) (e 14)))) = (F54_j12 R k1 (e 0) (e 1) (e 7) (e 8) (e 9) (e 14)) := (den_join Pg R 2 (cd Try.f54 [1,1,1,1,1,1,1,1,1,1,1,0,1,0,0,1,0,0,1]) (cd Try.f54 [1,1,1,1,1,1,1,1,1,1,1,0,1,0,0,1,0,0,1,1,1,1]) e (inB 3 (setN (setN (inB 2 (setN (kont Pg R Try.f54) (fun e => F54_j6 R (e 9)))) (fun e => k1 (e 0) (e 1) (e 7) (e 8) (e 9) (e 14))) (fun e => F54_j10 R k1 (e 0) (e 1) (e 7) (e 8) (e 9) (e 14)))) (fun e => F54_j13 R k1 (e 0) (e 1) (e 7) (e 8) (e 9) (e 14) (e 15) (e 194)) _ (by kernel_rfl) (fun e => F54_j13_ok R k1 e) (by kernel_rfl))
def F54_j23 (R : ER) (k1 : V6) (x0 x1 x7 x8 x9 x14 : Value) : WP :=
  pv (unO .not x8) fun v51 =>
  gd v51 true (pv (some x0)) fun v52 =>
  gd v51 true (pv (nilO v52)) fun v53 =>
  gd v51 true (pv (faO 5 v53)) fun v54 =>
  gd v51 true (ld1 v54) fun v55 =>
  gd v51 true (pv (some x14)) fun v56 =>
  gd v51 true (pv (ixS 6 v55 v56)) fun v57 =>
  gd v51 true (pv (faO 5 v57)) fun v58 =>
  gd v51 true (ld1 v58) fun v59 =>
  gd v51 true (pv (bin .geq v59 (.int .i64 0))) fun v60 =>
  pv (pickO v51 v60 (.bool false)) fun v61 =>
  cnd v61 (
   F54_j10 R k1 x0 x1 x7 x8 x9 x14) (
   F54_j12 R k1 x0 x1 x7 x8 x9 x14)
theorem F54_j23_ok (R : ER) (k1 : V6) (e : Env) : den Pg R (cd Try.f54 [1,1,1,1,1,1,1,1,1,1,1,0,1,0,0,1,0,0,0]) e (setN (inB 3 (setN (setN (inB 2 (setN (kont Pg R Try.f54) (fun e => F54_j6 R (e 9)))) (fun e => k1 (e 0) (e 1) (e 7) (e 8) (e 9) (e 14))) (fun e => F54_j10 R k1 (e 0) (e 1) (e 7) (e 8) (e 9) (e 14)))) (fun e => F54_j12 R k1 (e 0) (e 1) (e 7) (e 8) (e 9) (e 14))) = (F54_j23 R k1 (e 0) (e 1) (e 7) (e 8) (e 9) (e 14)) := (by kernel_rfl)
def F54_j11 (R : ER) (k1 : V6) (x0 x1 x7 x8 x9 x14 : Value) : WP :=
  F54_j23 R k1 x0 x1 x7 x8 x9 x14
theorem F54_j11_ok (R : ER) (k1 : V6) (e : Env) : den Pg R (cd Try.f54 [1,1,1,1,1,1,1,1,1,1,1,0,1,0,0,1,0]) e (setN (setN (inB 2 (setN (kont Pg R Try.f54) (fun e => F54_j6 R (e 9)))) (fun e => k1 (e 0) (e 1) (e 7) (e 8) (e 9) (e 14))) (fun e => F54_j10 R k1 (e 0) (e 1) (e 7) (e 8) (e 9) (e 14))) = (F54_j11 R k1 (e 0) (e 1) (e 7) (e 8) (e 9) (e 14)) := (den_block Pg R (cd Try.f54 [1,1,1,1,1,1,1,1,1,1,1,0,1,0,0,1,0]) 3 (cd Try.f54 [1,1,1,1,1,1,1,1,1,1,1,0,1,0,0,1,0,0]) e (setN (setN (inB 2 (setN (kont Pg R Try.f54) (fun e => F54_j6 R (e 9)))) (fun e => k1 (e 0) (e 1) (e 7) (e 8) (e 9) (e 14))) (fun e => F54_j10 R k1 (e 0) (e 1) (e 7) (e 8) (e 9) (e 14))) _ (by kernel_rfl) (den_join Pg R 0 (cd Try.f54 [1,1,1,1,1,1,1,1,1,1,1,0,1,0,0,1,0,0]) (cd Try.f54 [1,1,1,1,1,1,1,1,1,1,1,0,1,0,0,1,0,0,1]) e (inB 3 (setN (setN (inB 2 (setN (kont Pg R Try.f54) (fun e => F54_j6 R (e 9)))) (fun e => k1 (e 0) (e 1) (e 7) (e 8) (e 9) (e 14))) (fun e => F54_j10 R k1 (e 0) (e 1) (e 7) (e 8) (e 9) (e 14)))) (fun e => F54_j12 R k1 (e 0) (e 1) (e 7) (e 8) (e 9) (e 14)) _ (by kernel_rfl) (fun e => F54_j12_ok R k1 e) (den_conv Pg R (pre 0 (cd Try.f54 [1,1,1,1,1,1,1,1,1,1,1,0,1,0,0,1,0,0])) (cd Try.f54 [1,1,1,1,1,1,1,1,1,1,1,0,1,0,0,1,0,0,0]) e (setN (inB 3 (setN (setN (inB 2 (setN (kont Pg R Try.f54) (fun e => F54_j6 R (e 9)))) (fun e => k1 (e 0) (e 1) (e 7) (e 8) (e 9) (e 14))) (fun e => F54_j10 R k1 (e 0) (e 1) (e 7) (e 8) (e 9) (e 14)))) (fun e => F54_j12 R k1 (e 0) (e 1) (e 7) (e 8) (e 9) (e 14))) _ (by kernel_rfl) (F54_j23_ok R k1 e))))
def F54_j9 (R : ER) (k1 : V6) (x0 x1 x7 x8 x9 x14 : Value) : WP :=
  F54_j11 R k1 x0 x1 x7 x8 x9 x14
theorem F54_j9_ok (R : ER) (k1 : V6) (e : Env) : den Pg R (cd Try.f54 [1,1,1,1,1,1,1,1,1,1,1,0,1,0,0,1]) e (setN (inB 2 (setN (kont Pg R Try.f54) (fun e => F54_j6 R (e 9)))) (fun e => k1 (e 0) (e 1) (e 7) (e 8) (e 9) (e 14))) = (F54_j9 R k1 (e 0) (e 1) (e 7) (e 8) (e 9) (e 14)) := (den_join Pg R 0 (cd Try.f54 [1,1,1,1,1,1,1,1,1,1,1,0,1,0,0,1]) (cd Try.f54 [1,1,1,1,1,1,1,1,1,1,1,0,1,0,0,1,1]) e (setN (inB 2 (setN (kont Pg R Try.f54) (fun e => F54_j6 R (e 9)))) (fun e => k1 (e 0) (e 1) (e 7) (e 8) (e 9) (e 14))) (fun e => F54_j10 R k1 (e 0) (e 1) (e 7) (e 8) (e 9) (e 14)) _ (by kernel_rfl) (fun e => F54_j10_ok R k1 e) (den_conv Pg R (pre 0 (cd Try.f54 [1,1,1,1,1,1,1,1,1,1,1,0,1,0,0,1])) (cd Try.f54 [1,1,1,1,1,1,1,1,1,1,1,0,1,0,0,1,0]) e (setN (setN (inB 2 (setN (kont Pg R Try.f54) (fun e => F54_j6 R (e 9)))) (fun e => k1 (e 0) (e 1) (e 7) (e 8) (e 9) (e 14))) (fun e => F54_j10 R k1 (e 0) (e 1) (e 7) (e 8) (e 9) (e 14))) _ (by kernel_rfl) (F54_j11_ok R k1 e)))
def F54_b1 (R : ER) (k1 : V6) (x0 x1 x7 x8 x9 x14 : Value) : WP :=
  pv (nilO x0) fun v62 =>
  pv (faO 5 v62) fun v63 =>
  ld1 v63 fun v64 =>
  pv (lenS v64) fun v65 =>
  pv (bin .lss x14 v65) fun v66 =>
  gd v66 true (pv (some x14)) fun v67 =>
  gd v66 true (pv (bin .lss v67 (.int .i64 8))) fun v68 =>
  pv (pickO v66 v68 (.bool false)) fun v69 =>
  cnd v69 (
   F54_j9 R k1 x0 x1 x7 x8 x9 x14) (
   F54_j6 R x9)
theorem F54_b1_ok (R : ER) (k1 : V6) (e : Env) : den Pg R (cd Try.f54 [1,1,1,1,1,1,1,1,1,1,1,0,1,0,0]) e (setN (inB 2 (setN (kont Pg R Try.f54) (fun e => F54_j6 R (e 9)))) (fun e => k1 (e 0) (e 1) (e 7) (e 8) (e 9) (e 14))) = (F54_b1 R k1 (e 0) (e 1) (e 7) (e 8) (e 9) (e 14)) := (den_join Pg R 0 (cd Try.f54 [1,1,1,1,1,1,1,1,1,1,1,0,1,0,0]) (cd Try.f54 [1,1,1,1,1,1,1,1,1,1,1,0,1,0,0,1]) e (setN (inB 2 (setN (kont Pg R Try.f54) (fun e => F54_j6 R (e 9)))) (fun e => k1 (e 0) (e 1) (e 7) (e 8) (e 9) (e 14))) (fun e => F54_j9 R k1 (e 0) (e 1) (e 7) (e 8) (e 9) (e 14)) _ (by kernel_rfl) (fun e => F54_j9_ok R k1 e) (by kernel_rfl))
noncomputable def F54_l2 (R : ER) (n : Nat) : V6 := Nat.rec (motive := fun _ => V6) (fun _ _ _ _ _ _ => fun _ => False) (fun _ ih => fun x0 x1 x7 x8 x9 x14 => F54_b1 R ih x0 x1 x7 x8 x9 x14) n
theorem F54_l2_succ (R : ER) (n : Nat) (x0 x1 x7 x8 x9 x14 : Value) : F54_l2 R (n + 1) x0 x1 x7 x8 x9 x14 = F54_b1 R (F54_l2 R n) x0 x1 x7 x8 x9 x14 := rfl
theorem F54_l2_ok (R : ER) : ∀ (n : Nat) (e : Env), iterL (den Pg R (cd Try.f54 [1,1,1,1,1,1,1,1,1,1,1,0,1,0,0])) n e (inB 2 (setN (kont Pg R Try.f54) (fun e => F54_j6 R (e 9)))) = F54_l2 R n (e 0) (e 1) (e 7) (e 8) (e 9) (e 14) :=
  iterL_join (den Pg R (cd Try.f54 [1,1,1,1,1,1,1,1,1,1,1,0,1,0,0])) (inB 2 (setN (kont Pg R Try.f54) (fun e => F54_j6 R (e 9)))) (fun n e => F54_l2 R n (e 0) (e 1) (e 7) (e 8) (e 9) (e 14)) (fun _ => rfl) (fun n e => (F54_b1_ok R (F54_l2 R n) e).trans (F54_l2_succ R n (e 0) (e 1) (e 7) (e 8) (e 9) (e 14)).symm)
def F54_j8 (R : ER) (x0 x1 x7 x8 x9 x14 : Value) : WP :=
  exN fun n => F54_l2 R n x0 x1 x7 x8 x9 x14
theorem F54_j8_ok (R : ER) (e : Env) : den Pg R (cd Try.f54 [1,1,1,1,1,1,1,1,1,1,1,0,1]) e (setN (kont Pg R Try.f54) (fun e => F54_j6 R (e 9))) = (F54_j8 R (e 0) (e 1) (e 7) (e 8) (e 9) (e 14)) := (den_block Pg R (cd Try.f54 [1,1,1,1,1,1,1,1,1,1,1,0,1]) 2 (cd Try.f54 [1,1,1,1,1,1,1,1,1,1,1,0,1,0]) e (setN (kont Pg R Try.f54) (fun e => F54_j6 R (e 9))) _ (by kernel_rfl) (den_loop Pg R (cd Try.f54 [1,1,1,1,1,1,1,1,1,1,1,0,1,0]) (cd Try.f54 [1,1,1,1,1,1,1,1,1,1,1,0,1,0,0]) e (inB 2 (setN (kont Pg R Try.f54) (fun e => F54_j6 R (e 9)))) (fun n e => F54_l2 R n (e 0) (e 1) (e 7) (e 8) (e 9) (e 14)) _ (by kernel_rfl) (F54_l2_ok R) (by kernel_rfl)))
def F54_j7 (R : ER) (x0 x1 x7 x8 x9 : Value) : WP :=
  F54_j8 R x0 x1 x7 x8 x9 (.int .i64 0)
theorem F54_j7_ok (R : ER) (e : Env) : den Pg R (cd Try.f54 [1,1,1,1,1,1,1,1,1,1,1,0]) e (setN (kont Pg R Try.f54) (fun e => F54_j6 R (e 9))) = (F54_j7 R (e 0) (e 1) (e 7) (e 8) (e 9)) := (den_join Pg R 0 (cd Try.f54 [1,1,1,1,1,1,1,1,1,1,1,0]) (cd Try.f54 [1,1,1,1,1,1,1,1,1,1,1,0,1]) e (setN (kont Pg R Try.f54) (fun e => F54_j6 R (e 9))) (fun e => F54_j8 R (e 0) (e 1) (e 7) (e 8) (e 9) (e 14)) _ (by kernel_rfl) (fun e => F54_j8_ok R e) (by kernel_rfl))
def F54_j5 (R : ER) (x0 x1 x7 x8 x9 : Value) : WP :=
  F54_j7 R x0 x1 x7 x8 x9
theorem F54_j5_ok (R : ER) (e : Env) : den Pg R (cd Try.f54 [1,1,1,1,1,1,1,1,1,1,1]) e (kont Pg R Try.f54) = (F54_j5 R (e 0) (e 1) (e 7) (e 8) (e 9)) := (den_join Pg R 0 (cd Try.f54 [1,1,1,1,1,1,1,1,1,1,1]) (cd Try.f54 [1,1,1,1,1,1,1,1,1,1,1,1]) e (kont Pg R Try.f54) (fun e => F54_j6 R (e 9)) _ (by kernel_rfl) (fun e => F54_j6_ok R e) (den_conv Pg R (pre 0 (cd Try.f54 [1,1,1,1,1,1,1,1,1,1,1])) (cd Try.f54 [1,1,1,1,1,1,1,1,1,1,1,0]) e (setN (kont Pg R Try.f54) (fun e => F54_j6 R (e 9))) _ (by kernel_rfl) (F54_j7_ok R e)))
def F54_j4 (R : ER) (x0 x1 x7 x8 x9 : Value) : WP :=
  cnd x8 (
   pv (nilO x0) fun v70 =>
   pv (faO 8 v70) fun v71 =>
   ld1 v71 fun v72 =>
   pv (bin .add v72 (.int .i64 1)) fun v73 =>
   pv (nilO x0) fun v74 =>
   pv (faO 8 v74) fun v75 =>
   st1 v75 v73 fun _ =>
   F54_j5 R x0 x1 x7 x8 x9) (
   F54_j5 R x0 x1 x7 x8 x9)
theorem F54_j4_ok (R : ER) (e : Env) : den Pg R (cd Try.f54 [1,1,1,1,1,1,1,1,1,1]) e (kont Pg R Try.f54) = (F54_j4 R (e 0) (e 1) (e 7) (e 8) (e 9)) := (den_join Pg R 0 (cd Try.f54 [1,1,1,1,1,1,1,1,1,1]) (cd Try.f54 [1,1,1,1,1,1,1,1,1,1,1]) e (kont Pg R Try.f54) (fun e => F54_j5 R (e 0) (e 1) (e 7) (e 8) (e 9)) _ (by kernel_rfl) (fun e => F54_j5_ok R e) (by kernel_rfl))
def F54_j3 (R : ER) (x0 x1 x7 x8 x9 : Value) : WP :=
  pv (nilO x0) fun v76 =>
  pv (faO 14 v76) fun v77 =>
  st1 v77 (.slice none 0 0) fun _ =>
  pv (lenS x7) fun v78 =>
  pv (bin .eql v78 (.int .i64 0)) fun v79 =>
  cnd v79 (
   R (.returned (.tuple ⟨[x9, (.int .i64 0)]⟩))) (
   F54_j4 R x0 x1 x7 x8 x9)
theorem F54_j3_ok (R : ER) (e : Env) : den Pg R (cd Try.f54 [1,1,1,1,1,1,1,1]) e (kont Pg R Try.f54) = (F54_j3 R (e 0) (e 1) (e 7) (e 8) (e 9)) := (den_join Pg R 1 (cd Try.f54 [1,1,1,1,1,1,1,1]) (cd Try.f54 [1,1,1,1,1,1,1,1,1,1]) e (kont Pg R Try.f54) (fun e => F54_j4 R (e 0) (e 1) (e 7) (e 8) (e 9)) _ (by kernel_rfl) (fun e => F54_j4_ok R e) (by kernel_rfl))
def F54_j27 (R : ER) (k1 : V6) (x0 x1 x7 x8 x9 x10 : Value) : WP :=
  pv (bin .add x10 (.int .i64 1)) fun v80 =>
  k1 x0 x1 x7 x8 x9 v80
theorem F54_j27_ok (R : ER) (k1 : V6) (e : Env) : den Pg R (cd Try.f54 [1,1,1,1,1,1,1,0,1,0,0,1,1]) e (setN (inB 0 (setN (kont Pg R Try.f54) (fun e => F54_j3 R (e 0) (e 1) (e 7) (e 8) (e 9)))) (fun e => k1 (e 0) (e 1) (e 7) (e 8) (e 9) (e 10))) = (F54_j27 R k1 (e 0) (e 1) (e 7) (e 8) (e 9) (e 10)) := by kernel_rfl
def F54_j29 (R : ER) (k1 : V6) (x0 x1 x7 x8 x9 x10 x11 x13 : Value) : WP :=
  pv (bldO [.int .i64 0, .slice none 0 0] [(0,1, x13), (1,1, x11)]) fun v81 =>
  valV Pg R (Instr.buildSlice 127 1 ⟨[(0, v81)]⟩) fun v82 =>
  blt Pg R .append ⟨[127,127]⟩ 127 ⟨[false, false]⟩ ⟨[x9, v82]⟩ fun v83 =>
  F54_j27 R k1 x0 x1 x7 x8 v83 x10
theorem F54_j29_ok (R : ER) (k1 : V6) (e : Env) : den Pg R (cd Try.f54 [1,1,1,1,1,1,1,0,1,0,0,1,0,0,1,1,1]) e (inB 1 (setN (setN (inB 0 (setN (kont Pg R Try.f54) (fun e => F54_j3 R (e 0) (e 1) (e 7) (e 8) (e 9)))) (fun e => k1 (e 0) (e 1) (e 7) (e 8) (e 9) (e 10))) (fun e => F54_j27 R k1 (e 0) (e 1) (e 7) (e 8) (e 9) (e 10)))) = (F54_j29 R k1 (e 0) (e 1) (e 7) (e 8) (e 9) (e 10) (e 11) (e 13)) := by kernel_rfl
def F54_j28 (R : ER) (k1 : V6) (x0 x1 x7 x8 x9 x10 : Value) : WP :=
  pv (nilO x0) fun v84 =>
  pv (faO 14 v84) fun v85 =>
  ld1 v85 fun v86 =>
  pv (ixS 6 v86 x10) fun v87 =>
  pv (faO 1 v87) fun v88 =>
  ldN 5 v88 fun v89 =>
  cal Pg R 17 ⟨[v89]⟩ fun v90 =>
  pv (extO 0 v90) fun v91 =>
  pv (extO 1 v90) fun v92 =>
  pv (nilO x0) fun v93 =>
  pv (faO 14 v93) fun v94 =>
  ld1 v94 fun v95 =>
  pv (ixS 6 v95 x10) fun v96 =>
  pv (faO 0 v96) fun v97 =>
  ld1 v97 fun v98 =>
  pv (nilO x0) fun v99 =>
  pv (faO 0 v99) fun v100 =>
  ld1 v100 fun v101 =>
  pv (ixS 1 v101 v98) fun v102 =>
  ld1 v102 fun v103 =>
  pv (unO .not v103) fun v104 =>
  cnd v104 (
   pv (ixS 1 x7 (.int .i64 0)) fun v105 =>
   ld1 v105 fun v106 =>
   F54_j29 R k1 x0 x1 x7 x8 x9 x10 v91 v106) (
   F54_j29 R k1 x0 x1 x7 x8 x9 x10 v91 v98)
theorem F54_j28_ok (R : ER) (k1 : V6) (e : Env) : den Pg R (cd Try.f54 [1,1,1,1,1,1,1,0,1,0,0,1,0]) e (setN (setN (inB 0 (setN (kont Pg R Try.f54) (fun e => F54_j3 R (e 0) (e 1) (e 7) (e 8) (e 9)))) (fun e => k1 (e 0) (e 1) (e 7) (e 8) (e 9) (e 10))) (fun e => F54_j27 R k1 (e 0) (e 1) (e 7) (e 8) (e 9) (e 10))) = (F54_j28 R k1 (e 0) (e 1) (e 7) (e 8) (e 9) (e 10)) := (den_block Pg R (cd Try.f54 [1,1,1,1,1,1,1,0,1,0,0,1,0]) 1 (cd Try.f54 [1,1,1,1,1,1,1,0,1,0,0,1,0,0]) e (setN (setN (inB 0 (setN (kont Pg R Try.f54) (fun e => F54_j3 R (e 0) (e 1) (e 7) (e 8) (e 9)))) (fun e => k1 (e 0) (e 1) (e 7) (e 8) (e 9) (e 10))) (fun e => F54_j27 R k1 (e 0) (e 1) (e 7) (e 8) (e 9) (e 10))) _ (by kernel_rfl) (den_join Pg R 2 (cd Try.f54 [1,1,1,1,1,1,1,0,1,0,0,1,0,0]) (cd Try.f54 [1,1,1,1,1,1,1,0,1,0,0,1,0,0,1,1,1]) e (inB 1 (setN (setN (inB 0 (setN (kont Pg R Try.f54) (fun e => F54_j3 R (e 0) (e 1) (e 7) (e 8) (e 9)))) (fun e => k1 (e 0) (e 1) (e 7) (e 8) (e 9) (e 10))) (fun e => F54_j27 R k1 (e 0) (e 1) (e 7) (e 8) (e 9) (e 10)))) (fun e => F54_j29 R k1 (e 0) (e 1) (e 7) (e 8) (e 9) (e 10) (e 11) (e 13)) _ (by kernel_rfl) (fun e => F54_j29_ok R k1 e) (by kernel_rfl)))
def F54_j26 (R : ER) (k1 : V6) (x0 x1 x7 x8 x9 x10 : Value) : WP :=
  F54_j28 R k1 x0 x1 x7 x8 x9 x10
theorem F54_j26_ok (R : ER) (k1 : V6) (e : Env) : den Pg R (cd Try.f54 [1,1,1,1,1,1,1,0,1,0,0,1]) e (setN (inB 0 (setN (kont Pg R Try.f54) (fun e => F54_j3 R (e 0) (e 1) (e 7) (e 8) (e 9)))) (fun e => k1 (e 0) (e 1) (e 7) (e 8) (e 9) (e 10))) = (F54_j26 R k1 (e 0) (e 1) (e 7) (e 8) (e 9) (e 10)) := (den_join Pg R 0 (cd Try.f54 [1,1,1,1,1,1,1,0,1,0,0,1]) (cd Try.f54 [1,1,1,1,1,1,1,0,1,0,0,1,1]) e (setN (inB 0 (setN (kont Pg R Try.f54) (fun e => F54_j3 R (e 0) (e 1) (e 7) (e 8) (e 9)))) (fun e => k1 (e 0) (e 1) (e 7) (e 8) (e 9) (e 10))) (fun e => F54_j27 R k1 (e 0) (e 1) (e 7) (e 8) (e 9) (e 10)) _ (by kernel_rfl) (fun e => F54_j27_ok R k1 e) (den_conv Pg R (pre 0 (cd Try.f54 [1,1,1,1,1,1,1,0,1,0,0,1])) (cd Try.f54 [1,1,1,1,1,1,1,0,1,0,0,1,0]) e (setN (setN (inB 0 (setN (kont Pg R Try.f54) (fun e => F54_j3 R (e 0) (e 1) (e 7) (e 8) (e 9)))) (fun e => k1 (e 0) (e 1) (e 7) (e 8) (e 9) (e 10))) (fun e => F54_j27 R k1 (e 0) (e 1) (e 7) (e 8) (e 9) (e 10))) _ (by kernel_rfl) (F54_j28_ok R k1 e)))
def F54_b3 (R : ER) (k1 : V6) (x0 x1 x7 x8 x9 x10 : Value) : WP :=
  pv (nilO x0) fun v107 =>
  pv (faO 14 v107) fun v108 =>
  ld1 v108 fun v109 =>
  pv (lenS v109) fun v110 =>
  pv (bin .lss x10 v110) fun v111 =>
  gd v111 true (pv (some x7)) fun v112 =>
  gd v111 true (pv (lenS v112)) fun v113 =>
  gd v111 true (pv (bin .gtr v113 (.int .i64 0))) fun v114 =>
  pv (pickO v111 v114 (.bool false)) fun v115 =>
  cnd v115 (
   F54_j26 R k1 x0 x1 x7 x8 x9 x10) (
   F54_j3 R x0 x1 x7 x8 x9)
theorem F54_b3_ok (R : ER) (k1 : V6) (e : Env) : den Pg R (cd Try.f54 [1,1,1,1,1,1,1,0,1,0,0]) e (setN (inB 0 (setN (kont Pg R Try.f54) (fun e => F54_j3 R (e 0) (e 1) (e 7) (e 8) (e 9)))) (fun e => k1 (e 0) (e 1) (e 7) (e 8) (e 9) (e 10))) = (F54_b3 R k1 (e 0) (e 1) (e 7) (e 8) (e 9) (e 10)) := (den_join Pg R 0 (cd Try.f54 [1,1,1,1,1,1,1,0,1,0,0]) (cd Try.f54 [1,1,1,1,1,1,1,0,1,0,0,1]) e (setN (inB 0 (setN (kont Pg R Try.f54) (fun e => F54_j3 R (e 0) (e 1) (e 7) (e 8) (e 9)))) (fun e => k1 (e 0) (e 1) (e 7) (e 8) (e 9) (e 10))) (fun e => F54_j26 R k1 (e 0) (e 1) (e 7) (e 8) (e 9) (e 10)) _ (by kernel_rfl) (fun e => F54_j26_ok R k1 e) (by kernel_rfl))
noncomputable def F54_l3 (R : ER) (n : Nat) : V6 := Nat.rec (motive := fun _ => V6) (fun _ _ _ _ _ _ => fun _ => False) (fun _ ih => fun x0 x1 x7 x8 x9 x10 => F54_b3 R ih x0 x1 x7 x8 x9 x10) n
theorem F54_l3_succ (R : ER) (n : Nat) (x0 x1 x7 x8 x9 x10 : Value) : F54_l3 R (n + 1) x0 x1 x7 x8 x9 x10 = F54_b3 R (F54_l3 R n) x0 x1 x7 x8 x9 x10 := rfl
theorem F54_l3_ok (R : ER) : ∀ (n : Nat) (e : Env), iterL (den Pg R (cd Try.f54 [1,1,1,1,1,1,1,0,1,0,0])) n e (inB 0 (setN (kont Pg R Try.f54) (fun e => F54_j3 R (e 0) (e 1) (e 7) (e 8) (e 9)))) = F54_l3 R n (e 0) (e 1) (e 7) (e 8) (e 9) (e 10) :=
  iterL_join (den Pg R (cd Try.f54 [1,1,1,1,1,1,1,0,1,0,0])) (inB 0 (setN (kont Pg R Try.f54) (fun e => F54_j3 R (e 0) (e 1) (e 7) (e 8) (e 9)))) (fun n e => F54_l3 R n (e 0) (e 1) (e 7) (e 8) (e 9) (e 10)) (fun _ => rfl) (fun n e => (F54_b3_ok R (F54_l3 R n) e).trans (F54_l3_succ R n (e 0) (e 1) (e 7) (e 8) (e 9) (e 10)).symm)
def F54_j25 (R : ER) (x0 x1 x7 x8 x9 x10 : Value) : WP :=
  exN fun n => F54_l3 R n x0 x1 x7 x8 x9 x10
theorem F54_j25_ok (R : ER) (e : Env) : den Pg R (cd Try.f54 [1,1,1,1,1,1,1,0,1]) e (setN (kont Pg R Try.f54) (fun e => F54_j3 R (e 0) (e 1) (e 7) (e 8) (e 9))) = (F54_j25 R (e 0) (e 1) (e 7) (e 8) (e 9) (e 10)) := (den_block Pg R (cd Try.f54 [1,1,1,1,1,1,1,0,1]) 0 (cd Try.f54 [1,1,1,1,1,1,1,0,1,0]) e (setN (kont Pg R Try.f54) (fun e => F54_j3 R (e 0) (e 1) (e 7) (e 8) (e 9))) _ (by kernel_rfl) (den_loop Pg R (cd Try.f54 [1,1,1,1,1,1,1,0,1,0]) (cd Try.f54 [1,1,1,1,1,1,1,0,1,0,0]) e (inB 0 (setN (kont Pg R Try.f54) (fun e => F54_j3 R (e 0) (e 1) (e 7) (e 8) (e 9)))) (fun n e => F54_l3 R n (e 0) (e 1) (e 7) (e 8) (e 9) (e 10)) _ (by kernel_rfl) (F54_l3_ok R) (by kernel_rfl)))
def F54_j24 (R : ER) (x0 x1 x7 x8 x9 : Value) : WP :=
  F54_j25 R x0 x1 x7 x8 x9 (.int .i64 0)
theorem F54_j24_ok (R : ER) (e : Env) : den Pg R (cd Try.f54 [1,1,1,1,1,1,1,0]) e (setN (kont Pg R Try.f54) (fun e => F54_j3 R (e 0) (e 1) (e 7) (e 8) (e 9))) = (F54_j24 R (e 0) (e 1) (e 7) (e 8) (e 9)) := (den_join Pg R 0 (cd Try.f54 [1,1,1,1,1,1,1,0]) (cd Try.f54 [1,1,1,1,1,1,1,0,1]) e (setN (kont Pg R Try.f54) (fun e => F54_j3 R (e 0) (e 1) (e 7) (e 8) (e 9))) (fun e => F54_j25 R (e 0) (e 1) (e 7) (e 8) (e 9) (e 10)) _ (by kernel_rfl) (fun e => F54_j25_ok R e) (by kernel_rfl))
def F54_j2 (R : ER) (x0 x1 x7 x8 : Value) : WP :=
  pv (nilO x0) fun v116 =>
  pv (faO 4 v116) fun v117 =>
  st1 v117 x1 fun _ =>
  valV Pg R (Instr.buildSlice 127 0 ⟨[]⟩) fun v118 =>
  F54_j24 R x0 x1 x7 x8 v118
theorem F54_j2_ok (R : ER) (e : Env) : den Pg R (cd Try.f54 [1,1,1,1,1]) e (kont Pg R Try.f54) = (F54_j2 R (e 0) (e 1) (e 7) (e 8)) := (den_join Pg R 2 (cd Try.f54 [1,1,1,1,1]) (cd Try.f54 [1,1,1,1,1,1,1,1]) e (kont Pg R Try.f54) (fun e => F54_j3 R (e 0) (e 1) (e 7) (e 8) (e 9)) _ (by kernel_rfl) (fun e => F54_j3_ok R e) (den_join Pg R 1 (pre 2 (cd Try.f54 [1,1,1,1,1])) (cd Try.f54 [1,1,1,1,1,1,1,0]) e (setN (kont Pg R Try.f54) (fun e => F54_j3 R (e 0) (e 1) (e 7) (e 8) (e 9))) (fun e => F54_j24 R (e 0) (e 1) (e 7) (e 8) (e 9)) _ (by kernel_rfl) (fun e => F54_j24_ok R e) (by kernel_rfl)))
def F54_j30 (R : ER) (x0 x1 x7 x8 : Value) : WP :=
  gd x8 true (pv (some x7)) fun v119 =>
  gd x8 true (pv (lenS v119)) fun v120 =>
  gd x8 true (pv (bin .gtr v120 (.int .i64 0))) fun v121 =>
  pv (pickO x8 v121 (.bool false)) fun v122 =>
  gd v122 true (pv (some x0)) fun v123 =>
  gd v122 true (pv (nilO v123)) fun v124 =>
  gd v122 true (pv (faO 8 v124)) fun v125 =>
  gd v122 true (ld1 v125) fun v126 =>
  gd v122 true (pv (bin .eql v126 (.int .i64 6))) fun v127 =>
  pv (pickO v122 v127 (.bool false)) fun v128 =>
  cnd v128 (
   pv (nilO x0) fun v129 =>
   pv (faO 10 v129) fun v130 =>
   st1 v130 (.bool true) fun _ =>
   R (.returned (.tuple ⟨[(.slice none 0 0), (.int .i64 4)]⟩))) (
   F54_j2 R x0 x1 x7 x8)
theorem F54_j30_ok (R : ER) (e : Env) : den Pg R (cd Try.f54 [1,1,1,1,0]) e (setN (kont Pg R Try.f54) (fun e => F54_j2 R (e 0) (e 1) (e 7) (e 8))) = (F54_j30 R (e 0) (e 1) (e 7) (e 8)) := (by kernel_rfl)
def F54_j1 (R : ER) (x0 x1 : Value) : WP :=
  cal Pg R 68 ⟨[x0]⟩ fun v131 =>
  drewV (
  pv (nilO x0) fun v132 =>
  pv (faO 5 v132) fun v133 =>
  ld1 v133 fun v134 =>
  pv (lenS v134) fun v135 =>
  pv (bin .gtr v135 (.int .i64 0)) fun v136 =>
  gd v136 true (pv (some x0)) fun v137 =>
  gd v136 true (pv (nilO v137)) fun v138 =>
  gd v136 true (pv (faO 5 v138)) fun v139 =>
  gd v136 true (ld1 v139) fun v140 =>
  gd v136 true (pv (ixS 6 v140 (.int .i64 0))) fun v141 =>
  gd v136 true (pv (faO 5 v141)) fun v142 =>
  gd v136 true (ld1 v142) fun v143 =>
  gd v136 true (pv (bin .geq v143 (.int .i64 0))) fun v144 =>
  pv (pickO v136 v144 (.bool false)) fun v145 =>
  gd v145 true (pv (some x1)) fun v146 =>
  gd v145 true (pv (some x0)) fun v147 =>
  gd v145 true (pv (nilO v147)) fun v148 =>
  gd v145 true (pv (faO 5 v148)) fun v149 =>
  gd v145 true (ld1 v149) fun v150 =>
  gd v145 true (pv (ixS 6 v150 (.int .i64 0))) fun v151 =>
  gd v145 true (pv (faO 5 v151)) fun v152 =>
  gd v145 true (ld1 v152) fun v153 =>
  gd v145 true (pv (bin .sub v146 v153)) fun v154 =>
  gd v145 true (pv (some x0)) fun v155 =>
  gd v145 true (pv (nilO v155)) fun v156 =>
  gd v145 true (pv (faO 3 v156)) fun v157 =>
  gd v145 true (ld1 v157) fun v158 =>
  gd v145 true (pv (bin .geq v154 v158)) fun v159 =>
  pv (pickO v145 v159 (.bool false)) fun v160 =>
  F54_j30 R x0 x1 v131 v160)
theorem F54_j1_ok (R : ER) (e : Env) : den Pg R (cd Try.f54 [1,1]) e (kont Pg R Try.f54) = (F54_j1 R (e 0) (e 1)) := (den_join Pg R 2 (cd Try.f54 [1,1]) (cd Try.f54 [1,1,1,1,1]) e (kont Pg R Try.f54) (fun e => F54_j2 R (e 0) (e 1) (e 7) (e 8)) _ (by kernel_rfl) (fun e => F54_j2_ok R e) (den_join Pg R 1 (pre 2 (cd Try.f54 [1,1])) (cd Try.f54 [1,1,1,1,0]) e (setN (kont Pg R Try.f54) (fun e => F54_j2 R (e 0) (e 1) (e 7) (e 8))) (fun e => F54_j30 R (e 0) (e 1) (e 7) (e 8)) _ (by kernel_rfl) (fun e => F54_j30_ok R e) (by kernel_rfl)))
def F54 (R : ER) (x0 x1 : Value) : WP :=
  cal Pg R 66 ⟨[x0, x1]⟩ fun v161 =>
  pv (bin .neq v161 (.int .i64 0)) fun v162 =>
  cnd v162 (
   R (.returned (.tuple ⟨[(.slice none 0 0), v161]⟩))) (
   F54_j1 R x0 x1)
theorem orpimentref35_Link_Output_den (R : ER) (x0 x1 : Value) : den Pg R (cd Try.f54 []) (argsEnv [x0, x1]) (kont Pg R Try.f54) = F54 R x0 x1 :=
  have h : ∀ e, den Pg R (cd Try.f54 []) e (kont Pg R Try.f54) = F54 R (e 0) (e 1) := fun e => (den_join Pg R 1 (cd Try.f54 []) (cd Try.f54 [1,1]) e (kont Pg R Try.f54) (fun e => F54_j1 R (e 0) (e 1)) _ (by kernel_rfl) (fun e => F54_j1_ok R e) (by kernel_rfl))
  h _
theorem F54_calls {R : ER} {x0 x1 : Value} {w : World} (h : F54 R x0 x1 w) : Calls Pg 54 ⟨[x0, x1]⟩ w R :=
  calls_of_den Try.func54 (by kernel_rfl) (by kernel_rfl) (orpimentref35_Link_Output_den R x0 x1) h
/-! ### 55: F55 -/
def F55 (R : ER) (x0 x1 : Value) : WP :=
  cal Pg R 69 ⟨[x0, x1, (.func (.func 70) ⟨[]⟩ ⟨[]⟩)]⟩ fun v1 =>
  R (.returned v1)
theorem orpimentlaw35_out_den (R : ER) (x0 x1 : Value) : den Pg R (cd Try.f55 []) (argsEnv [x0, x1]) (kont Pg R Try.f55) = F55 R x0 x1 :=
  have h : ∀ e, den Pg R (cd Try.f55 []) e (kont Pg R Try.f55) = F55 R (e 0) (e 1) := fun e => by kernel_rfl
  h _
theorem F55_calls {R : ER} {x0 x1 : Value} {w : World} (h : F55 R x0 x1 w) : Calls Pg 55 ⟨[x0, x1]⟩ w R :=
  calls_of_den Try.func55 (by kernel_rfl) (by kernel_rfl) (orpimentlaw35_out_den R x0 x1) h
end Go.Proofs.Ytmnpndgmfmjfhaa.Den
end
