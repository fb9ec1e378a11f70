/- Printed by a program of this session: what the functions mean, and that the model means just that. Conditions: none. -/
import Derived.Test.YthcekppbbanfeaaGreatDenRange
set_option linter.unusedVariables false
set_option maxRecDepth 100000
namespace Go.Proofs.YthcekppbbanfeaaGreat.Den
open Go
/-! ### 3: orpimentlaw25_MqueueSettled -/
def F3_j2 (R : ER) : WP :=
  R (.returned (.bool true))
theorem F3_j2_ok (R : ER) (e : Env) : den Pg R (cd Tryz.f3 [1,1,1,1,1]) e (kont Pg R Tryz.f3) = (F3_j2 R) := by kernel_rfl
def F3_j6 (R : ER) (k1 : V7) (x0 x1 x7 x9 x40 x41 x42 : Value) : WP :=
  pv (bin .add x42 (.int .i64 1)) fun v1 =>
  k1 x0 x1 x7 x9 x40 x41 v1
theorem F3_j6_ok (R : ER) (k1 : V7) (e : Env) : den Pg R (cd Tryz.f3 [1,1,1,1,0,1,0,0,1,1,1]) e (setN (inB 0 (setN (kont Pg R Tryz.f3) (fun e => F3_j2 R))) (fun e => k1 (e 0) (e 1) (e 7) (e 9) (e 40) (e 41) (e 42))) = (F3_j6 R k1 (e 0) (e 1) (e 7) (e 9) (e 40) (e 41) (e 42)) := by kernel_rfl
def F3_j10 (R : ER) (k1 : V7) (k2 : V11) (x0 x1 x7 x9 x13 x40 x41 x42 x79 x80 x81 : Value) : WP :=
  pv (ixS 2 x79 x81) fun v2 =>
  ldN 2 v2 fun v3 =>
  al Pg 43 fun v4 =>
  stN 2 v4 v3 fun _ =>
  drewV (
  pv (faO 1 v4) fun v5 =>
  ld1 v5 fun v6 =>
  pv (lenS v6) fun v7 =>
  pv (bin .gtr v7 x1) fun v8 =>
  gd v8 false (pv (some x81)) fun v9 =>
  gd v8 false (pv (bin .gtr v9 (.int .i64 0))) fun v10 =>
  gd v8 false (pv (some v10)) fun v11 =>
  gd v11 true (pv (some x13)) fun v12 =>
  gd v11 true (pv (some x81)) fun v13 =>
  gd v11 true (pv (bin .sub v13 (.int .i64 1))) fun v14 =>
  gd v11 true (pv (ixS 2 v12 v14)) fun v15 =>
  gd v11 true (pv (faO 0 v15)) fun v16 =>
  gd v11 true (ld1 v16) fun v17 =>
  gd v11 true (pv (faO 0 v4)) fun v18 =>
  gd v11 true (ld1 v18) fun v19 =>
  gd v11 true (pv (bin .lss v17 v19)) fun v20 =>
  gd v8 false (pv (pickO v11 v20 (.bool false))) fun v21 =>
  pv (pickO v8 (.bool true) v21) fun v22 =>
  cnd v22 (
   R (.returned (.bool false))) (
   pv (bin .add x81 (.int .i64 1)) fun v23 =>
  k2 x0 x1 x7 x9 x13 x40 x41 x42 x79 x80 v23))
theorem F3_j10_ok (R : ER) (k1 : V7) (k2 : V11) (e : Env) : den Pg R (cd Tryz.f3 [1,1,1,1,0,1,0,0,1,1,0,0,1,1,1,1,1,0,0,1,1]) e (setN (inB 2 (inB 1 (setN (setN (inB 0 (setN (kont Pg R Tryz.f3) (fun e => F3_j2 R))) (fun e => k1 (e 0) (e 1) (e 7) (e 9) (e 40) (e 41) (e 42))) (fun e => F3_j6 R k1 (e 0) (e 1) (e 7) (e 9) (e 40) (e 41) (e 42))))) (fun e => k2 (e 0) (e 1) (e 7) (e 9) (e 13) (e 40) (e 41) (e 42) (e 79) (e 80) (e 81))) = (F3_j10 R k1 k2 (e 0) (e 1) (e 7) (e 9) (e 13) (e 40) (e 41) (e 42) (e 79) (e 80) (e 81)) := (by kernel_rfl)
def F3_b2 (R : ER) (k1 : V7) (k2 : V11) (x0 x1 x7 x9 x13 x40 x41 x42 x79 x80 x81 : Value) : WP :=
  pv (bin .lss x81 x80) fun v24 =>
  cnd v24 (
   F3_j10 R k1 k2 x0 x1 x7 x9 x13 x40 x41 x42 x79 x80 x81) (
   F3_j6 R k1 x0 x1 x7 x9 x40 x41 x42)
theorem F3_b2_ok (R : ER) (k1 : V7) (k2 : V11) (e : Env) : den Pg R (cd Tryz.f3 [1,1,1,1,0,1,0,0,1,1,0,0,1,1,1,1,1,0,0]) e (setN (inB 2 (inB 1 (setN (setN (inB 0 (setN (kont Pg R Tryz.f3) (fun e => F3_j2 R))) (fun e => k1 (e 0) (e 1) (e 7) (e 9) (e 40) (e 41) (e 42))) (fun e => F3_j6 R k1 (e 0) (e 1) (e 7) (e 9) (e 40) (e 41) (e 42))))) (fun e => k2 (e 0) (e 1) (e 7) (e 9) (e 13) (e 40) (e 41) (e 42) (e 79) (e 80) (e 81))) = (F3_b2 R k1 k2 (e 0) (e 1) (e 7) (e 9) (e 13) (e 40) (e 41) (e 42) (e 79) (e 80) (e 81)) := (den_join Pg R 1 (cd Tryz.f3 [1,1,1,1,0,1,0,0,1,1,0,0,1,1,1,1,1,0,0]) (cd Tryz.f3 [1,1,1,1,0,1,0,0,1,1,0,0,1,1,1,1,1,0,0,1,1]) e (setN (inB 2 (inB 1 (setN (setN (inB 0 (setN (kont Pg R Tryz.f3) (fun e => F3_j2 R))) (fun e => k1 (e 0) (e 1) (e 7) (e 9) (e 40) (e 41) (e 42))) (fun e => F3_j6 R k1 (e 0) (e 1) (e 7) (e 9) (e 40) (e 41) (e 42))))) (fun e => k2 (e 0) (e 1) (e 7) (e 9) (e 13) (e 40) (e 41) (e 42) (e 79) (e 80) (e 81))) (fun e => F3_j10 R k1 k2 (e 0) (e 1) (e 7) (e 9) (e 13) (e 40) (e 41) (e 42) (e 79) (e 80) (e 81)) _ (by kernel_rfl) (fun e => F3_j10_ok R k1 k2 e) (by kernel_rfl))
noncomputable def F3_l1 (R : ER) (k1 : V7) (n : Nat) : V11 := Nat.rec (motive := fun _ => V11) (fun _ _ _ _ _ _ _ _ _ _ _ => fun _ => False) (fun _ ih => fun x0 x1 x7 x9 x13 x40 x41 x42 x79 x80 x81 => F3_b2 R k1 ih x0 x1 x7 x9 x13 x40 x41 x42 x79 x80 x81) n
theorem F3_l1_succ (R : ER) (k1 : V7) (n : Nat) (x0 x1 x7 x9 x13 x40 x41 x42 x79 x80 x81 : Value) : F3_l1 R k1 (n + 1) x0 x1 x7 x9 x13 x40 x41 x42 x79 x80 x81 = F3_b2 R k1 (F3_l1 R k1 n) x0 x1 x7 x9 x13 x40 x41 x42 x79 x80 x81 := rfl
theorem F3_l1_ok (R : ER) (k1 : V7) : ∀ (n : Nat) (e : Env), iterL (den Pg R (cd Tryz.f3 [1,1,1,1,0,1,0,0,1,1,0,0,1,1,1,1,1,0,0])) n e (inB 2 (inB 1 (setN (setN (inB 0 (setN (kont Pg R Tryz.f3) (fun e => F3_j2 R))) (fun e => k1 (e 0) (e 1) (e 7) (e 9) (e 40) (e 41) (e 42))) (fun e => F3_j6 R k1 (e 0) (e 1) (e 7) (e 9) (e 40) (e 41) (e 42))))) = F3_l1 R k1 n (e 0) (e 1) (e 7) (e 9) (e 13) (e 40) (e 41) (e 42) (e 79) (e 80) (e 81) :=
  iterL_join (den Pg R (cd Tryz.f3 [1,1,1,1,0,1,0,0,1,1,0,0,1,1,1,1,1,0,0])) (inB 2 (inB 1 (setN (setN (inB 0 (setN (kont Pg R Tryz.f3) (fun e => F3_j2 R))) (fun e => k1 (e 0) (e 1) (e 7) (e 9) (e 40) (e 41) (e 42))) (fun e => F3_j6 R k1 (e 0) (e 1) (e 7) (e 9) (e 40) (e 41) (e 42))))) (fun n e => F3_l1 R k1 n (e 0) (e 1) (e 7) (e 9) (e 13) (e 40) (e 41) (e 42) (e 79) (e 80) (e 81)) (fun _ => rfl) (fun n e => (F3_b2_ok R k1 (F3_l1 R k1 n) e).trans (F3_l1_succ R k1 n (e 0) (e 1) (e 7) (e 9) (e 13) (e 40) (e 41) (e 42) (e 79) (e 80) (e 81)).symm)
def F3_j9 (R : ER) (k1 : V7) (x0 x1 x7 x9 x13 x40 x41 x42 x79 x80 x81 : Value) : WP :=
  exN fun n => F3_l1 R k1 n x0 x1 x7 x9 x13 x40 x41 x42 x79 x80 x81
theorem F3_j9_ok (R : ER) (k1 : V7) (e : Env) : den Pg R (cd Tryz.f3 [1,1,1,1,0,1,0,0,1,1,0,0,1,1,1,1,1]) e (inB 1 (setN (setN (inB 0 (setN (kont Pg R Tryz.f3) (fun e => F3_j2 R))) (fun e => k1 (e 0) (e 1) (e 7) (e 9) (e 40) (e 41) (e 42))) (fun e => F3_j6 R k1 (e 0) (e 1) (e 7) (e 9) (e 40) (e 41) (e 42)))) = (F3_j9 R k1 (e 0) (e 1) (e 7) (e 9) (e 13) (e 40) (e 41) (e 42) (e 79) (e 80) (e 81)) := (den_block Pg R (cd Tryz.f3 [1,1,1,1,0,1,0,0,1,1,0,0,1,1,1,1,1]) 2 (cd Tryz.f3 [1,1,1,1,0,1,0,0,1,1,0,0,1,1,1,1,1,0]) e (inB 1 (setN (setN (inB 0 (setN (kont Pg R Tryz.f3) (fun e => F3_j2 R))) (fun e => k1 (e 0) (e 1) (e 7) (e 9) (e 40) (e 41) (e 42))) (fun e => F3_j6 R k1 (e 0) (e 1) (e 7) (e 9) (e 40) (e 41) (e 42)))) _ (by kernel_rfl) (den_loop Pg R (cd Tryz.f3 [1,1,1,1,0,1,0,0,1,1,0,0,1,1,1,1,1,0]) (cd Tryz.f3 [1,1,1,1,0,1,0,0,1,1,0,0,1,1,1,1,1,0,0]) e (inB 2 (inB 1 (setN (setN (inB 0 (setN (kont Pg R Tryz.f3) (fun e => F3_j2 R))) (fun e => k1 (e 0) (e 1) (e 7) (e 9) (e 40) (e 41) (e 42))) (fun e => F3_j6 R k1 (e 0) (e 1) (e 7) (e 9) (e 40) (e 41) (e 42))))) (fun n e => F3_l1 R k1 n (e 0) (e 1) (e 7) (e 9) (e 13) (e 40) (e 41) (e 42) (e 79) (e 80) (e 81)) _ (by kernel_rfl) (F3_l1_ok R k1) (by kernel_rfl)))
def F3_j8 (R : ER) (k1 : V7) (x0 x1 x7 x9 x13 x40 x41 x42 : Value) : WP :=
  pv (lenS x13) fun v25 =>
  F3_j9 R k1 x0 x1 x7 x9 x13 x40 x41 x42 x13 v25 (.int .i64 0)
theorem F3_j8_ok (R : ER) (k1 : V7) (e : Env) : den Pg R (cd Tryz.f3 [1,1,1,1,0,1,0,0,1,1,0,0,1,1,1,1]) e (inB 1 (setN (setN (inB 0 (setN (kont Pg R Tryz.f3) (fun e => F3_j2 R))) (fun e => k1 (e 0) (e 1) (e 7) (e 9) (e 40) (e 41) (e 42))) (fun e => F3_j6 R k1 (e 0) (e 1) (e 7) (e 9) (e 40) (e 41) (e 42)))) = (F3_j8 R k1 (e 0) (e 1) (e 7) (e 9) (e 13) (e 40) (e 41) (e 42)) := (den_join Pg R 0 (cd Tryz.f3 [1,1,1,1,0,1,0,0,1,1,0,0,1,1,1,1]) (cd Tryz.f3 [1,1,1,1,0,1,0,0,1,1,0,0,1,1,1,1,1]) e (inB 1 (setN (setN (inB 0 (setN (kont Pg R Tryz.f3) (fun e => F3_j2 R))) (fun e => k1 (e 0) (e 1) (e 7) (e 9) (e 40) (e 41) (e 42))) (fun e => F3_j6 R k1 (e 0) (e 1) (e 7) (e 9) (e 40) (e 41) (e 42)))) (fun e => F3_j9 R k1 (e 0) (e 1) (e 7) (e 9) (e 13) (e 40) (e 41) (e 42) (e 79) (e 80) (e 81)) _ (by kernel_rfl) (fun e => F3_j9_ok R k1 e) (by kernel_rfl))
def F3_j11 (R : ER) (k1 : V7) (x0 x1 x7 x9 x13 x40 x41 x42 : Value) : WP :=
  cal Pg R 11 ⟨[x7]⟩ fun v26 =>
  pv (lenS v26) fun v27 =>
  pv (bin .gtr v27 (.int .i64 0)) fun v28 =>
  gd v28 true (pv (some x13)) fun v29 =>
  gd v28 true (pv (lenS v29)) fun v30 =>
  gd v28 true (pv (bin .gtr v30 (.int .i64 0))) fun v31 =>
  pv (pickO v28 v31 (.bool false)) fun v32 =>
  gd v32 false (pv (some x7)) fun v33 =>
  gd v32 false (cal Pg R 12 ⟨[v33]⟩) fun v34 =>
  gd v32 false (pv (lenS v34)) fun v35 =>
  gd v32 false (pv (bin .gtr v35 (.int .i64 0))) fun v36 =>
  gd v32 false (pv (some v36)) fun v37 =>
  gd v37 true (pv (some x13)) fun v38 =>
  gd v37 true (pv (lenS v38)) fun v39 =>
  gd v37 true (pv (some x0)) fun v40 =>
  gd v37 true (pv (bin .lss v39 v40)) fun v41 =>
  gd v32 false (pv (pickO v37 v41 (.bool false))) fun v42 =>
  pv (pickO v32 (.bool true) v42) fun v43 =>
  gd v43 false (pv (some x13)) fun v44 =>
  gd v43 false (pv (lenS v44)) fun v45 =>
  gd v43 false (pv (some x0)) fun v46 =>
  gd v43 false (pv (bin .gtr v45 v46)) fun v47 =>
  pv (pickO v43 (.bool true) v47) fun v48 =>
  cnd v48 (
   R (.returned (.bool false))) (
   F3_j8 R k1 x0 x1 x7 x9 x13 x40 x41 x42)
theorem F3_j11_ok (R : ER) (k1 : V7) (e : Env) : den Pg R (cd Tryz.f3 [1,1,1,1,0,1,0,0,1,1,0,0,1,1,1,0]) e (setN (inB 1 (setN (setN (inB 0 (setN (kont Pg R Tryz.f3) (fun e => F3_j2 R))) (fun e => k1 (e 0) (e 1) (e 7) (e 9) (e 40) (e 41) (e 42))) (fun e => F3_j6 R k1 (e 0) (e 1) (e 7) (e 9) (e 40) (e 41) (e 42)))) (fun e => F3_j8 R k1 (e 0) (e 1) (e 7) (e 9) (e 13) (e 40) (e 41) (e 42))) = (F3_j11 R k1 (e 0) (e 1) (e 7) (e 9) (e 13) (e 40) (e 41) (e 42)) := (by kernel_rfl)
def F3_j7 (R : ER) (k1 : V7) (x0 x1 x7 x9 x40 x41 x42 : Value) : WP :=
  pv (ixS 11 x40 x42) fun v49 =>
  ldN 11 v49 fun v50 =>
  al Pg 36 fun v51 =>
  stN 11 v51 v50 fun _ =>
  ldN 11 v51 fun v52 =>
  cal Pg R 9 ⟨[x7, x9, v52]⟩ fun v53 =>
  cal Pg R 10 ⟨[x7]⟩ fun v54 =>
  F3_j11 R k1 x0 x1 x7 x9 v54 x40 x41 x42
theorem F3_j7_ok (R : ER) (k1 : V7) (e : Env) : den Pg R (cd Tryz.f3 [1,1,1,1,0,1,0,0,1,1,0]) e (setN (setN (inB 0 (setN (kont Pg R Tryz.f3) (fun e => F3_j2 R))) (fun e => k1 (e 0) (e 1) (e 7) (e 9) (e 40) (e 41) (e 42))) (fun e => F3_j6 R k1 (e 0) (e 1) (e 7) (e 9) (e 40) (e 41) (e 42))) = (F3_j7 R k1 (e 0) (e 1) (e 7) (e 9) (e 40) (e 41) (e 42)) := (den_block Pg R (cd Tryz.f3 [1,1,1,1,0,1,0,0,1,1,0]) 1 (cd Tryz.f3 [1,1,1,1,0,1,0,0,1,1,0,0]) e (setN (setN (inB 0 (setN (kont Pg R Tryz.f3) (fun e => F3_j2 R))) (fun e => k1 (e 0) (e 1) (e 7) (e 9) (e 40) (e 41) (e 42))) (fun e => F3_j6 R k1 (e 0) (e 1) (e 7) (e 9) (e 40) (e 41) (e 42))) _ (by kernel_rfl) (den_join Pg R 3 (cd Tryz.f3 [1,1,1,1,0,1,0,0,1,1,0,0]) (cd Tryz.f3 [1,1,1,1,0,1,0,0,1,1,0,0,1,1,1,1]) e (inB 1 (setN (setN (inB 0 (setN (kont Pg R Tryz.f3) (fun e => F3_j2 R))) (fun e => k1 (e 0) (e 1) (e 7) (e 9) (e 40) (e 41) (e 42))) (fun e => F3_j6 R k1 (e 0) (e 1) (e 7) (e 9) (e 40) (e 41) (e 42)))) (fun e => F3_j8 R k1 (e 0) (e 1) (e 7) (e 9) (e 13) (e 40) (e 41) (e 42)) _ (by kernel_rfl) (fun e => F3_j8_ok R k1 e) (den_join Pg R 2 (pre 3 (cd Tryz.f3 [1,1,1,1,0,1,0,0,1,1,0,0])) (cd Tryz.f3 [1,1,1,1,0,1,0,0,1,1,0,0,1,1,1,0]) e (setN (inB 1 (setN (setN (inB 0 (setN (kont Pg R Tryz.f3) (fun e => F3_j2 R))) (fun e => k1 (e 0) (e 1) (e 7) (e 9) (e 40) (e 41) (e 42))) (fun e => F3_j6 R k1 (e 0) (e 1) (e 7) (e 9) (e 40) (e 41) (e 42)))) (fun e => F3_j8 R k1 (e 0) (e 1) (e 7) (e 9) (e 13) (e 40) (e 41) (e 42))) (fun e => F3_j11 R k1 (e 0) (e 1) (e 7) (e 9) (e 13) (e 40) (e 41) (e 42)) _ (by kernel_rfl) (fun e => F3_j11_ok R k1 e) (by kernel_rfl))))
def F3_j5 (R : ER) (k1 : V7) (x0 x1 x7 x9 x40 x41 x42 : Value) : WP :=
  F3_j7 R k1 x0 x1 x7 x9 x40 x41 x42
theorem F3_j5_ok (R : ER) (k1 : V7) (e : Env) : den Pg R (cd Tryz.f3 [1,1,1,1,0,1,0,0,1,1]) e (setN (inB 0 (setN (kont Pg R Tryz.f3) (fun e => F3_j2 R))) (fun e => k1 (e 0) (e 1) (e 7) (e 9) (e 40) (e 41) (e 42))) = (F3_j5 R k1 (e 0) (e 1) (e 7) (e 9) (e 40) (e 41) (e 42)) := (den_join Pg R 0 (cd Tryz.f3 [1,1,1,1,0,1,0,0,1,1]) (cd Tryz.f3 [1,1,1,1,0,1,0,0,1,1,1]) e (setN (inB 0 (setN (kont Pg R Tryz.f3) (fun e => F3_j2 R))) (fun e => k1 (e 0) (e 1) (e 7) (e 9) (e 40) (e 41) (e 42))) (fun e => F3_j6 R k1 (e 0) (e 1) (e 7) (e 9) (e 40) (e 41) (e 42)) _ (by kernel_rfl) (fun e => F3_j6_ok R k1 e) (den_conv Pg R (pre 0 (cd Tryz.f3 [1,1,1,1,0,1,0,0,1,1])) (cd Tryz.f3 [1,1,1,1,0,1,0,0,1,1,0]) e (setN (setN (inB 0 (setN (kont Pg R Tryz.f3) (fun e => F3_j2 R))) (fun e => k1 (e 0) (e 1) (e 7) (e 9) (e 40) (e 41) (e 42))) (fun e => F3_j6 R k1 (e 0) (e 1) (e 7) (e 9) (e 40) (e 41) (e 42))) _ (by kernel_rfl) (F3_j7_ok R k1 e)))
def F3_b1 (R : ER) (k1 : V7) (x0 x1 x7 x9 x40 x41 x42 : Value) : WP :=
  pv (bin .lss x42 x41) fun v55 =>
  cnd v55 (
   F3_j5 R k1 x0 x1 x7 x9 x40 x41 x42) (
   F3_j2 R)
theorem F3_b1_ok (R : ER) (k1 : V7) (e : Env) : den Pg R (cd Tryz.f3 [1,1,1,1,0,1,0,0]) e (setN (inB 0 (setN (kont Pg R Tryz.f3) (fun e => F3_j2 R))) (fun e => k1 (e 0) (e 1) (e 7) (e 9) (e 40) (e 41) (e 42))) = (F3_b1 R k1 (e 0) (e 1) (e 7) (e 9) (e 40) (e 41) (e 42)) := (den_join Pg R 1 (cd Tryz.f3 [1,1,1,1,0,1,0,0]) (cd Tryz.f3 [1,1,1,1,0,1,0,0,1,1]) e (setN (inB 0 (setN (kont Pg R Tryz.f3) (fun e => F3_j2 R))) (fun e => k1 (e 0) (e 1) (e 7) (e 9) (e 40) (e 41) (e 42))) (fun e => F3_j5 R k1 (e 0) (e 1) (e 7) (e 9) (e 40) (e 41) (e 42)) _ (by kernel_rfl) (fun e => F3_j5_ok R k1 e) (by kernel_rfl))
noncomputable def F3_l2 (R : ER) (n : Nat) : V7 := Nat.rec (motive := fun _ => V7) (fun _ _ _ _ _ _ _ => fun _ => False) (fun _ ih => fun x0 x1 x7 x9 x40 x41 x42 => F3_b1 R ih x0 x1 x7 x9 x40 x41 x42) n
theorem F3_l2_succ (R : ER) (n : Nat) (x0 x1 x7 x9 x40 x41 x42 : Value) : F3_l2 R (n + 1) x0 x1 x7 x9 x40 x41 x42 = F3_b1 R (F3_l2 R n) x0 x1 x7 x9 x40 x41 x42 := rfl
theorem F3_l2_ok (R : ER) : ∀ (n : Nat) (e : Env), iterL (den Pg R (cd Tryz.f3 [1,1,1,1,0,1,0,0])) n e (inB 0 (setN (kont Pg R Tryz.f3) (fun e => F3_j2 R))) = F3_l2 R n (e 0) (e 1) (e 7) (e 9) (e 40) (e 41) (e 42) :=
  iterL_join (den Pg R (cd Tryz.f3 [1,1,1,1,0,1,0,0])) (inB 0 (setN (kont Pg R Tryz.f3) (fun e => F3_j2 R))) (fun n e => F3_l2 R n (e 0) (e 1) (e 7) (e 9) (e 40) (e 41) (e 42)) (fun _ => rfl) (fun n e => (F3_b1_ok R (F3_l2 R n) e).trans (F3_l2_succ R n (e 0) (e 1) (e 7) (e 9) (e 40) (e 41) (e 42)).symm)
def F3_j4 (R : ER) (x0 x1 x7 x9 x40 x41 x42 : Value) : WP :=
  exN fun n => F3_l2 R n x0 x1 x7 x9 x40 x41 x42
theorem F3_j4_ok (R : ER) (e : Env) : den Pg R (cd Tryz.f3 [1,1,1,1,0,1]) e (setN (kont Pg R Tryz.f3) (fun e => F3_j2 R)) = (F3_j4 R (e 0) (e 1) (e 7) (e 9) (e 40) (e 41) (e 42)) := (den_block Pg R (cd Tryz.f3 [1,1,1,1,0,1]) 0 (cd Tryz.f3 [1,1,1,1,0,1,0]) e (setN (kont Pg R Tryz.f3) (fun e => F3_j2 R)) _ (by kernel_rfl) (den_loop Pg R (cd Tryz.f3 [1,1,1,1,0,1,0]) (cd Tryz.f3 [1,1,1,1,0,1,0,0]) e (inB 0 (setN (kont Pg R Tryz.f3) (fun e => F3_j2 R))) (fun n e => F3_l2 R n (e 0) (e 1) (e 7) (e 9) (e 40) (e 41) (e 42)) _ (by kernel_rfl) (F3_l2_ok R) (by kernel_rfl)))
def F3_j3 (R : ER) (x0 x1 x2 x7 x9 : Value) : WP :=
  pv (lenS x2) fun v56 =>
  F3_j4 R x0 x1 x7 x9 x2 v56 (.int .i64 0)
theorem F3_j3_ok (R : ER) (e : Env) : den Pg R (cd Tryz.f3 [1,1,1,1,0]) e (setN (kont Pg R Tryz.f3) (fun e => F3_j2 R)) = (F3_j3 R (e 0) (e 1) (e 2) (e 7) (e 9)) := (den_join Pg R 0 (cd Tryz.f3 [1,1,1,1,0]) (cd Tryz.f3 [1,1,1,1,0,1]) e (setN (kont Pg R Tryz.f3) (fun e => F3_j2 R)) (fun e => F3_j4 R (e 0) (e 1) (e 7) (e 9) (e 40) (e 41) (e 42)) _ (by kernel_rfl) (fun e => F3_j4_ok R e) (by kernel_rfl))
def F3_j1 (R : ER) (x0 x1 x2 x7 : Value) : WP :=
  cal Pg R 8 ⟨[x0, x1]⟩ fun v57 =>
  pv (extO 0 v57) fun v58 =>
  pv (extO 1 v57) fun v59 =>
  F3_j3 R x0 x1 x2 x7 v58
theorem F3_j1_ok (R : ER) (e : Env) : den Pg R (cd Tryz.f3 [1,1,1]) e (kont Pg R Tryz.f3) = (F3_j1 R (e 0) (e 1) (e 2) (e 7)) := (den_join Pg R 1 (cd Tryz.f3 [1,1,1]) (cd Tryz.f3 [1,1,1,1,1]) e (kont Pg R Tryz.f3) (fun e => F3_j2 R) _ (by kernel_rfl) (fun e => F3_j2_ok R e) (den_join Pg R 0 (pre 1 (cd Tryz.f3 [1,1,1])) (cd Tryz.f3 [1,1,1,1,0]) e (setN (kont Pg R Tryz.f3) (fun e => F3_j2 R)) (fun e => F3_j3 R (e 0) (e 1) (e 2) (e 7) (e 9)) _ (by kernel_rfl) (fun e => F3_j3_ok R e) (by kernel_rfl)))
def F3_j12 (R : ER) (x0 x1 x2 x7 x8 : Value) : WP :=
  cal Pg R 6 ⟨[x2]⟩ fun v60 =>
  pv (unO .not v60) fun v61 =>
  gd v61 false (cal Pg R 7 ⟨[]⟩) fun v62 =>
  gd v61 false (pv (unO .not v62)) fun v63 =>
  pv (pickO v61 (.bool true) v63) fun v64 =>
  gd v64 false (pv (some x8)) fun v65 =>
  gd v64 false (pv (bin .neq v65 (.int .i64 0))) fun v66 =>
  pv (pickO v64 (.bool true) v66) fun v67 =>
  cnd v67 (
   cal Pg R 7 ⟨[]⟩ fun v68 =>
   R (.returned v68)) (
   F3_j1 R x0 x1 x2 x7)
theorem F3_j12_ok (R : ER) (e : Env) : den Pg R (cd Tryz.f3 [1,1,0]) e (setN (kont Pg R Tryz.f3) (fun e => F3_j1 R (e 0) (e 1) (e 2) (e 7))) = (F3_j12 R (e 0) (e 1) (e 2) (e 7) (e 8)) := (by kernel_rfl)
def F3 (R : ER) (x0 x1 x2 : Value) : WP :=
  cal Pg R 5 ⟨[x0, x1]⟩ fun v69 =>
  pv (extO 0 v69) fun v70 =>
  pv (extO 1 v69) fun v71 =>
  F3_j12 R x0 x1 x2 v70 v71
theorem F3_den (R : ER) (x0 x1 x2 : Value) : den Pg R (cd Tryz.f3 []) (argsEnv [x0, x1, x2]) (kont Pg R Tryz.f3) = F3 R x0 x1 x2 :=
  have h : ∀ e, den Pg R (cd Tryz.f3 []) e (kont Pg R Tryz.f3) = F3 R (e 0) (e 1) (e 2) := fun e => (den_join Pg R 2 (cd Tryz.f3 []) (cd Tryz.f3 [1,1,1]) e (kont Pg R Tryz.f3) (fun e => F3_j1 R (e 0) (e 1) (e 2) (e 7)) _ (by kernel_rfl) (fun e => F3_j1_ok R e) (den_join Pg R 1 (pre 2 (cd Tryz.f3 [])) (cd Tryz.f3 [1,1,0]) e (setN (kont Pg R Tryz.f3) (fun e => F3_j1 R (e 0) (e 1) (e 2) (e 7))) (fun e => F3_j12 R (e 0) (e 1) (e 2) (e 7) (e 8)) _ (by kernel_rfl) (fun e => F3_j12_ok R e) (by kernel_rfl)))
  h _
theorem F3_calls {R : ER} {x0 x1 x2 : Value} {w : World} (h : F3 R x0 x1 x2 w) : Calls Pg 3 ⟨[x0, x1, x2]⟩ w R :=
  calls_of_den Tryz.func3 (by kernel_rfl) (by kernel_rfl) (F3_den R x0 x1 x2) h
/-! ### 4: orpimentlaw25_MqueuePlays -/
def F4_j2 (R : ER) (x7 x9 : Value) : WP :=
  cal Pg R 13 ⟨[x7]⟩ fun v1 =>
  cal Pg R 14 ⟨[x9]⟩ fun v2 =>
  pv (bin .eql v1 v2) fun v3 =>
  gd v3 true (pv (some x7)) fun v4 =>
  gd v3 true (cal Pg R 12 ⟨[v4]⟩) fun v5 =>
  gd v3 true (pv (some x9)) fun v6 =>
  gd v3 true (cal Pg R 16 ⟨[v6]⟩) fun v7 =>
  gd v3 true (cal Pg R 15 ⟨[v5, v7]⟩) fun v8 =>
  pv (pickO v3 v8 (.bool false)) fun v9 =>
  gd v9 true (pv (some x7)) fun v10 =>
  gd v9 true (cal Pg R 11 ⟨[v10]⟩) fun v11 =>
  gd v9 true (pv (some x9)) fun v12 =>
  gd v9 true (cal Pg R 17 ⟨[v12]⟩) fun v13 =>
  gd v9 true (cal Pg R 15 ⟨[v11, v13]⟩) fun v14 =>
  pv (pickO v9 v14 (.bool false)) fun v15 =>
  gd v15 true (pv (some x7)) fun v16 =>
  gd v15 true (cal Pg R 10 ⟨[v16]⟩) fun v17 =>
  gd v15 true (pv (some x9)) fun v18 =>
  gd v15 true (cal Pg R 19 ⟨[v18]⟩) fun v19 =>
  gd v15 true (cal Pg R 18 ⟨[v17, v19, (.func (.func 20) ⟨[]⟩ ⟨[]⟩)]⟩) fun v20 =>
  pv (pickO v15 v20 (.bool false)) fun v21 =>
  R (.returned v21)
theorem F4_j2_ok (R : ER) (e : Env) : den Pg R (cd Tryz.f4 [1,1,1,1,1]) e (kont Pg R Tryz.f4) = (F4_j2 R (e 7) (e 9)) := by kernel_rfl
def F4_j5 (R : ER) (k1 : V5) (x7 x9 x55 x56 x57 : Value) : WP :=
  pv (ixS 11 x55 x57) fun v22 =>
  ldN 11 v22 fun v23 =>
  al Pg 36 fun v24 =>
  stN 11 v24 v23 fun _ =>
  ldN 11 v24 fun v25 =>
  cal Pg R 9 ⟨[x7, x9, v25]⟩ fun v26 =>
  pv (unO .not v26) fun v27 =>
  cnd v27 (
   R (.returned (.bool false))) (
   pv (bin .add x57 (.int .i64 1)) fun v28 =>
  k1 x7 x9 x55 x56 v28)
theorem F4_j5_ok (R : ER) (k1 : V5) (e : Env) : den Pg R (cd Tryz.f4 [1,1,1,1,0,1,0,0,1,1]) e (setN (inB 0 (setN (kont Pg R Tryz.f4) (fun e => F4_j2 R (e 7) (e 9)))) (fun e => k1 (e 7) (e 9) (e 55) (e 56) (e 57))) = (F4_j5 R k1 (e 7) (e 9) (e 55) (e 56) (e 57)) := by kernel_rfl
def F4_b1 (R : ER) (k1 : V5) (x7 x9 x55 x56 x57 : Value) : WP :=
  pv (bin .lss x57 x56) fun v29 =>
  cnd v29 (
   F4_j5 R k1 x7 x9 x55 x56 x57) (
   F4_j2 R x7 x9)
theorem F4_b1_ok (R : ER) (k1 : V5) (e : Env) : den Pg R (cd Tryz.f4 [1,1,1,1,0,1,0,0]) e (setN (inB 0 (setN (kont Pg R Tryz.f4) (fun e => F4_j2 R (e 7) (e 9)))) (fun e => k1 (e 7) (e 9) (e 55) (e 56) (e 57))) = (F4_b1 R k1 (e 7) (e 9) (e 55) (e 56) (e 57)) := (den_join Pg R 1 (cd Tryz.f4 [1,1,1,1,0,1,0,0]) (cd Tryz.f4 [1,1,1,1,0,1,0,0,1,1]) e (setN (inB 0 (setN (kont Pg R Tryz.f4) (fun e => F4_j2 R (e 7) (e 9)))) (fun e => k1 (e 7) (e 9) (e 55) (e 56) (e 57))) (fun e => F4_j5 R k1 (e 7) (e 9) (e 55) (e 56) (e 57)) _ (by kernel_rfl) (fun e => F4_j5_ok R k1 e) (by kernel_rfl))
noncomputable def F4_l1 (R : ER) (n : Nat) : V5 := Nat.rec (motive := fun _ => V5) (fun _ _ _ _ _ => fun _ => False) (fun _ ih => fun x7 x9 x55 x56 x57 => F4_b1 R ih x7 x9 x55 x56 x57) n
theorem F4_l1_succ (R : ER) (n : Nat) (x7 x9 x55 x56 x57 : Value) : F4_l1 R (n + 1) x7 x9 x55 x56 x57 = F4_b1 R (F4_l1 R n) x7 x9 x55 x56 x57 := rfl
theorem F4_l1_ok (R : ER) : ∀ (n : Nat) (e : Env), iterL (den Pg R (cd Tryz.f4 [1,1,1,1,0,1,0,0])) n e (inB 0 (setN (kont Pg R Tryz.f4) (fun e => F4_j2 R (e 7) (e 9)))) = F4_l1 R n (e 7) (e 9) (e 55) (e 56) (e 57) :=
  iterL_join (den Pg R (cd Tryz.f4 [1,1,1,1,0,1,0,0])) (inB 0 (setN (kont Pg R Tryz.f4) (fun e => F4_j2 R (e 7) (e 9)))) (fun n e => F4_l1 R n (e 7) (e 9) (e 55) (e 56) (e 57)) (fun _ => rfl) (fun n e => (F4_b1_ok R (F4_l1 R n) e).trans (F4_l1_succ R n (e 7) (e 9) (e 55) (e 56) (e 57)).symm)
def F4_j4 (R : ER) (x7 x9 x55 x56 x57 : Value) : WP :=
  exN fun n => F4_l1 R n x7 x9 x55 x56 x57
theorem F4_j4_ok (R : ER) (e : Env) : den Pg R (cd Tryz.f4 [1,1,1,1,0,1]) e (setN (kont Pg R Tryz.f4) (fun e => F4_j2 R (e 7) (e 9))) = (F4_j4 R (e 7) (e 9) (e 55) (e 56) (e 57)) := (den_block Pg R (cd Tryz.f4 [1,1,1,1,0,1]) 0 (cd Tryz.f4 [1,1,1,1,0,1,0]) e (setN (kont Pg R Tryz.f4) (fun e => F4_j2 R (e 7) (e 9))) _ (by kernel_rfl) (den_loop Pg R (cd Tryz.f4 [1,1,1,1,0,1,0]) (cd Tryz.f4 [1,1,1,1,0,1,0,0]) e (inB 0 (setN (kont Pg R Tryz.f4) (fun e => F4_j2 R (e 7) (e 9)))) (fun n e => F4_l1 R n (e 7) (e 9) (e 55) (e 56) (e 57)) _ (by kernel_rfl) (F4_l1_ok R) (by kernel_rfl)))
def F4_j3 (R : ER) (x2 x7 x9 : Value) : WP :=
  pv (lenS x2) fun v30 =>
  F4_j4 R x7 x9 x2 v30 (.int .i64 0)
theorem F4_j3_ok (R : ER) (e : Env) : den Pg R (cd Tryz.f4 [1,1,1,1,0]) e (setN (kont Pg R Tryz.f4) (fun e => F4_j2 R (e 7) (e 9))) = (F4_j3 R (e 2) (e 7) (e 9)) := (den_join Pg R 0 (cd Tryz.f4 [1,1,1,1,0]) (cd Tryz.f4 [1,1,1,1,0,1]) e (setN (kont Pg R Tryz.f4) (fun e => F4_j2 R (e 7) (e 9))) (fun e => F4_j4 R (e 7) (e 9) (e 55) (e 56) (e 57)) _ (by kernel_rfl) (fun e => F4_j4_ok R e) (by kernel_rfl))
def F4_j1 (R : ER) (x2 x7 x9 : Value) : WP :=
  F4_j3 R x2 x7 x9
theorem F4_j1_ok (R : ER) (e : Env) : den Pg R (cd Tryz.f4 [1,1,1,1]) e (kont Pg R Tryz.f4) = (F4_j1 R (e 2) (e 7) (e 9)) := (den_join Pg R 0 (cd Tryz.f4 [1,1,1,1]) (cd Tryz.f4 [1,1,1,1,1]) e (kont Pg R Tryz.f4) (fun e => F4_j2 R (e 7) (e 9)) _ (by kernel_rfl) (fun e => F4_j2_ok R e) (den_conv Pg R (pre 0 (cd Tryz.f4 [1,1,1,1])) (cd Tryz.f4 [1,1,1,1,0]) e (setN (kont Pg R Tryz.f4) (fun e => F4_j2 R (e 7) (e 9))) _ (by kernel_rfl) (F4_j3_ok R e)))
def F4_j8 (R : ER) (x7 x8 x10 : Value) : WP :=
  cal Pg R 7 ⟨[]⟩ fun v31 =>
  gd v31 true (pv (some x8)) fun v32 =>
  gd v31 true (pv (some x10)) fun v33 =>
  gd v31 true (pv (bin .eql v32 v33)) fun v34 =>
  pv (pickO v31 v34 (.bool false)) fun v35 =>
  gd v35 true (pv (some x8)) fun v36 =>
  gd v35 true (pv (bin .eql v36 (.int .i64 0))) fun v37 =>
  gd v35 true (pv (some v37)) fun v38 =>
  gd v38 false (pv (some x7)) fun v39 =>
  gd v38 false (pv (eqNilP v39)) fun v40 =>
  gd v35 true (pv (pickO v38 (.bool true) v40)) fun v41 =>
  pv (pickO v35 v41 (.bool false)) fun v42 =>
  R (.returned v42)
theorem F4_j8_ok (R : ER) (e : Env) : den Pg R (cd Tryz.f4 [1,1,1,0,1,0]) e (setN (kont Pg R Tryz.f4) (fun e => F4_j1 R (e 2) (e 7) (e 9))) = (F4_j8 R (e 7) (e 8) (e 10)) := by kernel_rfl
def F4_j7 (R : ER) (x2 x7 x8 x9 x10 x40 : Value) : WP :=
  cnd x40 (F4_j8 R x7 x8 x10) (F4_j1 R x2 x7 x9)
theorem F4_j7_ok (R : ER) (e : Env) : den Pg R (cd Tryz.f4 [1,1,1,0,1]) e (setN (kont Pg R Tryz.f4) (fun e => F4_j1 R (e 2) (e 7) (e 9))) = (F4_j7 R (e 2) (e 7) (e 8) (e 9) (e 10) (e 40)) := (den_if Pg R (cd Tryz.f4 [1,1,1,0,1]) (cd Tryz.f4 [1,1,1,0,1,0]) (cd Tryz.f4 [1,1,1,0,1,1]) e (setN (kont Pg R Tryz.f4) (fun e => F4_j1 R (e 2) (e 7) (e 9))) (F4_j8 R (e 7) (e 8) (e 10)) _ _ (by kernel_rfl) (F4_j8_ok R e) rfl (by kernel_rfl))
def F4_j6 (R : ER) (x2 x7 x8 x9 x10 : Value) : WP :=
  cal Pg R 6 ⟨[x2]⟩ fun v43 =>
  pv (unO .not v43) fun v44 =>
  gd v44 false (cal Pg R 7 ⟨[]⟩) fun v45 =>
  gd v44 false (pv (unO .not v45)) fun v46 =>
  pv (pickO v44 (.bool true) v46) fun v47 =>
  gd v47 false (pv (some x8)) fun v48 =>
  gd v47 false (pv (some x10)) fun v49 =>
  gd v47 false (pv (bin .neq v48 v49)) fun v50 =>
  pv (pickO v47 (.bool true) v50) fun v51 =>
  gd v51 false (pv (some x8)) fun v52 =>
  gd v51 false (pv (bin .neq v52 (.int .i64 0))) fun v53 =>
  pv (pickO v51 (.bool true) v53) fun v54 =>
  F4_j7 R x2 x7 x8 x9 x10 v54
theorem F4_j6_ok (R : ER) (e : Env) : den Pg R (cd Tryz.f4 [1,1,1,0]) e (setN (kont Pg R Tryz.f4) (fun e => F4_j1 R (e 2) (e 7) (e 9))) = (F4_j6 R (e 2) (e 7) (e 8) (e 9) (e 10)) := (den_join Pg R 0 (cd Tryz.f4 [1,1,1,0]) (cd Tryz.f4 [1,1,1,0,1]) e (setN (kont Pg R Tryz.f4) (fun e => F4_j1 R (e 2) (e 7) (e 9))) (fun e => F4_j7 R (e 2) (e 7) (e 8) (e 9) (e 10) (e 40)) _ (by kernel_rfl) (fun e => F4_j7_ok R e) (by kernel_rfl))
def F4 (R : ER) (x0 x1 x2 : Value) : WP :=
  cal Pg R 5 ⟨[x0, x1]⟩ fun v55 =>
  pv (extO 0 v55) fun v56 =>
  pv (extO 1 v55) fun v57 =>
  cal Pg R 8 ⟨[x0, x1]⟩ fun v58 =>
  pv (extO 0 v58) fun v59 =>
  pv (extO 1 v58) fun v60 =>
  F4_j6 R x2 v56 v57 v59 v60
theorem F4_den (R : ER) (x0 x1 x2 : Value) : den Pg R (cd Tryz.f4 []) (argsEnv [x0, x1, x2]) (kont Pg R Tryz.f4) = F4 R x0 x1 x2 :=
  have h : ∀ e, den Pg R (cd Tryz.f4 []) e (kont Pg R Tryz.f4) = F4 R (e 0) (e 1) (e 2) := fun e => (den_join Pg R 3 (cd Tryz.f4 []) (cd Tryz.f4 [1,1,1,1]) e (kont Pg R Tryz.f4) (fun e => F4_j1 R (e 2) (e 7) (e 9)) _ (by kernel_rfl) (fun e => F4_j1_ok R e) (den_join Pg R 2 (pre 3 (cd Tryz.f4 [])) (cd Tryz.f4 [1,1,1,0]) e (setN (kont Pg R Tryz.f4) (fun e => F4_j1 R (e 2) (e 7) (e 9))) (fun e => F4_j6 R (e 2) (e 7) (e 8) (e 9) (e 10)) _ (by kernel_rfl) (fun e => F4_j6_ok R e) (by kernel_rfl)))
  h _
theorem F4_calls {R : ER} {x0 x1 x2 : Value} {w : World} (h : F4 R x0 x1 x2 w) : Calls Pg 4 ⟨[x0, x1, x2]⟩ w R :=
  calls_of_den Tryz.func4 (by kernel_rfl) (by kernel_rfl) (F4_den R x0 x1 x2) h
/-! ### 5: mqueue_New -/
def F5 (R : ER) (x0 x1 : Value) : WP :=
  pv (bin .lss x0 (.int .i64 1)) fun v1 =>
  gd v1 false (pv (some x0)) fun v2 =>
  gd v1 false (pv (bin .gtr v2 (.int .i64 64))) fun v3 =>
  pv (pickO v1 (.bool true) v3) fun v4 =>
  gd v4 false (pv (some x1)) fun v5 =>
  gd v4 false (pv (bin .lss v5 (.int .i64 1))) fun v6 =>
  pv (pickO v4 (.bool true) v6) fun v7 =>
  gd v7 false (pv (some x1)) fun v8 =>
  gd v7 false (pv (bin .gtr v8 (.int .i64 4096))) fun v9 =>
  pv (pickO v7 (.bool true) v9) fun v10 =>
  cnd v10 (
   R (.returned (.tuple ⟨[(.pointer none), (.int .i64 34)]⟩))) (
   pv (bldO [.slice none 0 0, .int .i64 0, .int .i64 0, .int .i64 0, .int .i64 0, .slice none 0 0, .slice none 0 0, .pointer none] [(1,1, x0), (2,1, x1)]) fun v11 =>
  bx 62 v11 fun v12 =>
  R (.returned (.tuple ⟨[v12, (.int .i64 0)]⟩)))
theorem F5_den (R : ER) (x0 x1 : Value) : den Pg R (cd Tryz.f5 []) (argsEnv [x0, x1]) (kont Pg R Tryz.f5) = F5 R x0 x1 :=
  have h : ∀ e, den Pg R (cd Tryz.f5 []) e (kont Pg R Tryz.f5) = F5 R (e 0) (e 1) := fun e => (by kernel_rfl)
  h _
theorem F5_calls {R : ER} {x0 x1 : Value} {w : World} (h : F5 R x0 x1 w) : Calls Pg 5 ⟨[x0, x1]⟩ w R :=
  calls_of_den Tryz.func5 (by kernel_rfl) (by kernel_rfl) (F5_den R x0 x1) h
/-! ### 6: orpimentlaw25_few -/
def F6 (R : ER) (x0 : Value) : WP :=
  pv (lenS x0) fun v1 =>
  pv (bin .leq v1 (.int .i64 50)) fun v2 =>
  gd v2 true (pv (some x0)) fun v3 =>
  gd v2 true (cal Pg R 21 ⟨[v3, (.func (.func 22) ⟨[]⟩ ⟨[]⟩)]⟩) fun v4 =>
  gd v2 true (pv (unO .not v4)) fun v5 =>
  pv (pickO v2 v5 (.bool false)) fun v6 =>
  R (.returned v6)
theorem F6_den (R : ER) (x0 : Value) : den Pg R (cd Tryz.f6 []) (argsEnv [x0]) (kont Pg R Tryz.f6) = F6 R x0 :=
  have h : ∀ e, den Pg R (cd Tryz.f6 []) e (kont Pg R Tryz.f6) = F6 R (e 0) := fun e => by kernel_rfl
  h _
theorem F6_calls {R : ER} {x0 : Value} {w : World} (h : F6 R x0 w) : Calls Pg 6 ⟨[x0]⟩ w R :=
  calls_of_den Tryz.func6 (by kernel_rfl) (by kernel_rfl) (F6_den R x0) h
/-! ### 7: orpimentlaw25_awake -/
def F7_j1 (R : ER) (x1 : Value) : WP :=
  valV Pg R (Instr.buildSlice 32 1 ⟨[(0, (.int .u8 97))]⟩) fun v1 =>
  valV Pg R (convert 32 32 v1) fun v2 =>
  pv (bldO [.int .i64 0, .slice none 0 0] [(0,1, (.int .i64 3)), (1,1, v2)]) fun v3 =>
  cal Pg R 23 ⟨[x1, (.int .i64 1), v3, (.bool false), (.int .i64 0)]⟩ fun v4 =>
  pv (extO 0 v4) fun v5 =>
  pv (extO 1 v4) fun v6 =>
  pv (extO 2 v4) fun v7 =>
  pv (extO 3 v4) fun v8 =>
  valV Pg R (Instr.buildSlice 32 1 ⟨[(0, (.int .u8 98))]⟩) fun v9 =>
  valV Pg R (convert 32 32 v9) fun v10 =>
  pv (bldO [.int .i64 0, .slice none 0 0] [(0,1, (.int .i64 5)), (1,1, v10)]) fun v11 =>
  cal Pg R 23 ⟨[x1, (.int .i64 1), v11, (.bool false), (.int .i64 0)]⟩ fun v12 =>
  pv (extO 0 v12) fun v13 =>
  pv (extO 1 v12) fun v14 =>
  pv (extO 2 v12) fun v15 =>
  pv (extO 3 v12) fun v16 =>
  cal Pg R 24 ⟨[x1, (.int .i64 2), (.bool false), (.int .i64 0)]⟩ fun v17 =>
  pv (extO 0 v17) fun v18 =>
  pv (extO 1 v17) fun v19 =>
  pv (extO 2 v17) fun v20 =>
  pv (extO 3 v17) fun v21 =>
  pv (extO 4 v17) fun v22 =>
  al Pg 43 fun v23 =>
  stN 2 v23 v18 fun _ =>
  pv (bin .eql v8 (.int .i64 0)) fun v24 =>
  gd v24 true (pv (some v16)) fun v25 =>
  gd v24 true (pv (bin .eql v25 (.int .i64 0))) fun v26 =>
  pv (pickO v24 v26 (.bool false)) fun v27 =>
  gd v27 true (pv (some v22)) fun v28 =>
  gd v27 true (pv (bin .eql v28 (.int .i64 0))) fun v29 =>
  pv (pickO v27 v29 (.bool false)) fun v30 =>
  gd v30 true (pv (faO 0 v23)) fun v31 =>
  gd v30 true (ld1 v31) fun v32 =>
  gd v30 true (pv (bin .eql v32 (.int .i64 5))) fun v33 =>
  pv (pickO v30 v33 (.bool false)) fun v34 =>
  gd v34 true (pv (faO 1 v23)) fun v35 =>
  gd v34 true (ld1 v35) fun v36 =>
  gd v34 true (valV Pg R (convert 32 9 v36)) fun v37 =>
  gd v34 true (pv (binS .eql v37 (.string ⟨⟨[98]⟩⟩))) fun v38 =>
  pv (pickO v34 v38 (.bool false)) fun v39 =>
  gd v39 true (pv (some x1)) fun v40 =>
  gd v39 true (cal Pg R 10 ⟨[v40]⟩) fun v41 =>
  gd v39 true (pv (lenS v41)) fun v42 =>
  gd v39 true (pv (bin .eql v42 (.int .i64 1))) fun v43 =>
  pv (pickO v39 v43 (.bool false)) fun v44 =>
  R (.returned v44)
theorem F7_j1_ok (R : ER) (e : Env) : den Pg R (cd Tryz.f7 [1,1,1]) e (kont Pg R Tryz.f7) = (F7_j1 R (e 1)) := by kernel_rfl
def F7 (R : ER) : WP :=
  cal Pg R 5 ⟨[(.int .i64 2), (.int .i64 10)]⟩ fun v45 =>
  pv (extO 0 v45) fun v46 =>
  pv (extO 1 v45) fun v47 =>
  pv (eqNilP v46) fun v48 =>
  gd v48 false (pv (some v47)) fun v49 =>
  gd v48 false (pv (bin .neq v49 (.int .i64 0))) fun v50 =>
  pv (pickO v48 (.bool true) v50) fun v51 =>
  cnd v51 (
   R (.returned (.bool false))) (
   F7_j1 R v46)
theorem F7_den (R : ER) : den Pg R (cd Tryz.f7 []) (argsEnv []) (kont Pg R Tryz.f7) = F7 R :=
  have h : ∀ e, den Pg R (cd Tryz.f7 []) e (kont Pg R Tryz.f7) = F7 R := fun e => (den_join Pg R 2 (cd Tryz.f7 []) (cd Tryz.f7 [1,1,1]) e (kont Pg R Tryz.f7) (fun e => F7_j1 R (e 1)) _ (by kernel_rfl) (fun e => F7_j1_ok R e) (by kernel_rfl))
  h _
theorem F7_calls {R : ER} {w : World} (h : F7 R w) : Calls Pg 7 ⟨[]⟩ w R :=
  calls_of_den Tryz.func7 (by kernel_rfl) (by kernel_rfl) (F7_den R) h
/-! ### 8: orpimentref25_New -/
def F8 (R : ER) (x0 x1 : Value) : WP :=
  pv (bin .lss x0 (.int .i64 1)) fun v1 =>
  gd v1 false (pv (some x0)) fun v2 =>
  gd v1 false (pv (bin .gtr v2 (.int .i64 64))) fun v3 =>
  pv (pickO v1 (.bool true) v3) fun v4 =>
  gd v4 false (pv (some x1)) fun v5 =>
  gd v4 false (pv (bin .lss v5 (.int .i64 1))) fun v6 =>
  pv (pickO v4 (.bool true) v6) fun v7 =>
  gd v7 false (pv (some x1)) fun v8 =>
  gd v7 false (pv (bin .gtr v8 (.int .i64 4096))) fun v9 =>
  pv (pickO v7 (.bool true) v9) fun v10 =>
  cnd v10 (
   R (.returned (.tuple ⟨[(.pointer none), (.int .i64 34)]⟩))) (
   pv (bldO [.int .i64 0, .int .i64 0, .slice none 0 0, .slice none 0 0, .slice none 0 0, .int .i64 0, .int .i64 0, .int .i64 0, .int .i64 0, .int .i64 0, .int .i64 0, .int .i64 0, .bool false] [(0,1, x0), (1,1, x1)]) fun v11 =>
  bx 75 v11 fun v12 =>
  R (.returned (.tuple ⟨[v12, (.int .i64 0)]⟩)))
theorem F8_den (R : ER) (x0 x1 : Value) : den Pg R (cd Tryz.f8 []) (argsEnv [x0, x1]) (kont Pg R Tryz.f8) = F8 R x0 x1 :=
  have h : ∀ e, den Pg R (cd Tryz.f8 []) e (kont Pg R Tryz.f8) = F8 R (e 0) (e 1) := fun e => (by kernel_rfl)
  h _
theorem F8_calls {R : ER} {x0 x1 : Value} {w : World} (h : F8 R x0 x1 w) : Calls Pg 8 ⟨[x0, x1]⟩ w R :=
  calls_of_den Tryz.func8 (by kernel_rfl) (by kernel_rfl) (F8_den R x0 x1) h
/-! ### 9: orpimentlaw25_do -/
def F9_j1 (R : ER) (x0 x1 x5 : Value) : WP :=
  drewV (
  pv (faO 1 x5) fun v1 =>
  ld1 v1 fun v2 =>
  mem fun w4 => cal Pg noR 36 ⟨[x0, v2]⟩ fun v3 =>
  pv (faO 1 x5) fun v5 =>
  ld1S [w4] v5 fun v6 =>
  mem fun w8 => cal Pg noR 37 ⟨[x1, v6]⟩ fun v7 =>
  pv (bin .eql v3 v7) fun v9 =>
  R (.returned v9))
theorem F9_j1_ok (R : ER) (e : Env) : den Pg R (cd Tryz.f9 [1,1]) e (kont Pg R Tryz.f9) = (F9_j1 R (e 0) (e 1) (e 5)) := by kernel_rfl
def F9_j5 (R : ER) (x0 x1 x5 : Value) : WP :=
  drewV (
  pv (faO 1 x5) fun v10 =>
  ld1 v10 fun v11 =>
  pv (faO 2 x5) fun v12 =>
  ld1 v12 fun v13 =>
  pv (faO 3 x5) fun v14 =>
  ld1 v14 fun v15 =>
  mem fun w17 => cal Pg noR 25 ⟨[v15]⟩ fun v16 =>
  rd1 v12 v13 <|
  rd1 v10 v11 <|
  pv (bldO [.int .i64 0, .slice none 0 0] [(0,1, v13), (1,1, v16)]) fun v18 =>
  pv (faO 4 x5) fun v19 =>
  ld1S [w17] v19 fun v20 =>
  pv (faO 5 x5) fun v21 =>
  ld1S [w17] v21 fun v22 =>
  mem fun w24 => cal Pg noR 23 ⟨[x0, v11, v18, v20, v22]⟩ fun v23 =>
  pv (extO 0 v23) fun v25 =>
  pv (extO 1 v23) fun v26 =>
  pv (extO 2 v23) fun v27 =>
  pv (extO 3 v23) fun v28 =>
  pv (faO 1 x5) fun v29 =>
  ld1 v29 fun v30 =>
  pv (faO 2 x5) fun v31 =>
  ld1 v31 fun v32 =>
  pv (faO 3 x5) fun v33 =>
  ld1 v33 fun v34 =>
  pv (bldO [.int .i64 0, .slice none 0 0] [(0,1, v32), (1,1, v34)]) fun v35 =>
  pv (faO 4 x5) fun v36 =>
  ld1 v36 fun v37 =>
  pv (faO 5 x5) fun v38 =>
  ld1 v38 fun v39 =>
  cal Pg R 26 ⟨[x1, v30, v35, v37, v39]⟩ fun v40 =>
  pv (extO 0 v40) fun v41 =>
  pv (extO 1 v40) fun v42 =>
  pv (extO 2 v40) fun v43 =>
  pv (extO 3 v40) fun v44 =>
  pv (binB .eql v25 v41) fun v45 =>
  gd v45 true (pv (some v28)) fun v46 =>
  gd v45 true (pv (some v44)) fun v47 =>
  gd v45 true (pv (bin .eql v46 v47)) fun v48 =>
  pv (pickO v45 v48 (.bool false)) fun v49 =>
  gd v49 true (pv (some v26)) fun v50 =>
  gd v49 true (pv (some v42)) fun v51 =>
  gd v49 true (cal Pg R 27 ⟨[v50, v51]⟩) fun v52 =>
  pv (pickO v49 v52 (.bool false)) fun v53 =>
  gd v53 true (pv (some v27)) fun v54 =>
  gd v53 true (pv (some v43)) fun v55 =>
  gd v53 true (cal Pg R 28 ⟨[v54, v55]⟩) fun v56 =>
  pv (pickO v53 v56 (.bool false)) fun v57 =>
  R (.returned v57))
theorem F9_j5_ok (R : ER) (e : Env) : den Pg R (cd Tryz.f9 [1,0,1,0,1,0]) e (inB 0 (setN (kont Pg R Tryz.f9) (fun e => F9_j1 R (e 0) (e 1) (e 5)))) = (F9_j5 R (e 0) (e 1) (e 5)) := by kernel_rfl
def F9_j8 (R : ER) (x0 x1 x5 : Value) : WP :=
  pv (faO 1 x5) fun v58 =>
  ld1 v58 fun v59 =>
  pv (faO 4 x5) fun v60 =>
  ld1 v60 fun v61 =>
  pv (faO 5 x5) fun v62 =>
  ld1 v62 fun v63 =>
  cal Pg R 24 ⟨[x0, v59, v61, v63]⟩ fun v64 =>
  pv (extO 0 v64) fun v65 =>
  pv (extO 1 v64) fun v66 =>
  pv (extO 2 v64) fun v67 =>
  pv (extO 3 v64) fun v68 =>
  pv (extO 4 v64) fun v69 =>
  al Pg 43 fun v70 =>
  stN 2 v70 v65 fun _ =>
  pv (faO 1 x5) fun v71 =>
  ld1 v71 fun v72 =>
  pv (faO 4 x5) fun v73 =>
  ld1 v73 fun v74 =>
  pv (faO 5 x5) fun v75 =>
  ld1 v75 fun v76 =>
  cal Pg R 29 ⟨[x1, v72, v74, v76]⟩ fun v77 =>
  pv (extO 0 v77) fun v78 =>
  pv (extO 1 v77) fun v79 =>
  pv (extO 2 v77) fun v80 =>
  pv (extO 3 v77) fun v81 =>
  pv (extO 4 v77) fun v82 =>
  al Pg 49 fun v83 =>
  stN 2 v83 v78 fun _ =>
  ldN 2 v70 fun v84 =>
  ldN 2 v83 fun v85 =>
  cal Pg R 20 ⟨[v84, v85]⟩ fun v86 =>
  gd v86 true (pv (some v66)) fun v87 =>
  gd v86 true (pv (some v79)) fun v88 =>
  gd v86 true (pv (binB .eql v87 v88)) fun v89 =>
  pv (pickO v86 v89 (.bool false)) fun v90 =>
  gd v90 true (pv (some v69)) fun v91 =>
  gd v90 true (pv (some v82)) fun v92 =>
  gd v90 true (pv (bin .eql v91 v92)) fun v93 =>
  pv (pickO v90 v93 (.bool false)) fun v94 =>
  gd v94 true (pv (some v67)) fun v95 =>
  gd v94 true (pv (some v80)) fun v96 =>
  gd v94 true (cal Pg R 27 ⟨[v95, v96]⟩) fun v97 =>
  pv (pickO v94 v97 (.bool false)) fun v98 =>
  gd v98 true (pv (some v68)) fun v99 =>
  gd v98 true (pv (some v81)) fun v100 =>
  gd v98 true (cal Pg R 28 ⟨[v99, v100]⟩) fun v101 =>
  pv (pickO v98 v101 (.bool false)) fun v102 =>
  R (.returned v102)
theorem F9_j8_ok (R : ER) (e : Env) : den Pg R (cd Tryz.f9 [1,0,1,0,1,1,1,0]) e (inB 0 (setN (kont Pg R Tryz.f9) (fun e => F9_j1 R (e 0) (e 1) (e 5)))) = (F9_j8 R (e 0) (e 1) (e 5)) := by kernel_rfl
def F9_j11 (R : ER) (x0 x1 x5 : Value) : WP :=
  pv (faO 1 x5) fun v103 =>
  ld1 v103 fun v104 =>
  cal Pg R 30 ⟨[x0, v104]⟩ fun v105 =>
  pv (extO 0 v105) fun v106 =>
  pv (extO 1 v105) fun v107 =>
  pv (extO 2 v105) fun v108 =>
  pv (faO 1 x5) fun v109 =>
  ld1 v109 fun v110 =>
  cal Pg R 31 ⟨[x1, v110]⟩ fun v111 =>
  pv (extO 0 v111) fun v112 =>
  pv (extO 1 v111) fun v113 =>
  pv (extO 2 v111) fun v114 =>
  pv (bin .eql v108 v114) fun v115 =>
  gd v115 true (pv (some v106)) fun v116 =>
  gd v115 true (pv (some v112)) fun v117 =>
  gd v115 true (cal Pg R 27 ⟨[v116, v117]⟩) fun v118 =>
  pv (pickO v115 v118 (.bool false)) fun v119 =>
  gd v119 true (pv (some v107)) fun v120 =>
  gd v119 true (pv (some v113)) fun v121 =>
  gd v119 true (cal Pg R 28 ⟨[v120, v121]⟩) fun v122 =>
  pv (pickO v119 v122 (.bool false)) fun v123 =>
  R (.returned v123)
theorem F9_j11_ok (R : ER) (e : Env) : den Pg R (cd Tryz.f9 [1,0,1,0,1,1,1,1,1,0]) e (inB 0 (setN (kont Pg R Tryz.f9) (fun e => F9_j1 R (e 0) (e 1) (e 5)))) = (F9_j11 R (e 0) (e 1) (e 5)) := by kernel_rfl
def F9_j14 (R : ER) (x0 x1 x5 : Value) : WP :=
  pv (faO 5 x5) fun v124 =>
  ld1 v124 fun v125 =>
  cal Pg R 32 ⟨[x0, v125]⟩ fun v126 =>
  pv (extO 0 v126) fun v127 =>
  pv (extO 1 v126) fun v128 =>
  pv (extO 2 v126) fun v129 =>
  pv (faO 5 x5) fun v130 =>
  ld1 v130 fun v131 =>
  cal Pg R 33 ⟨[x1, v131]⟩ fun v132 =>
  pv (extO 0 v132) fun v133 =>
  pv (extO 1 v132) fun v134 =>
  pv (extO 2 v132) fun v135 =>
  pv (bin .eql v129 v135) fun v136 =>
  gd v136 true (pv (some v127)) fun v137 =>
  gd v136 true (pv (some v133)) fun v138 =>
  gd v136 true (cal Pg R 27 ⟨[v137, v138]⟩) fun v139 =>
  pv (pickO v136 v139 (.bool false)) fun v140 =>
  gd v140 true (pv (some v128)) fun v141 =>
  gd v140 true (pv (some v134)) fun v142 =>
  gd v140 true (cal Pg R 28 ⟨[v141, v142]⟩) fun v143 =>
  pv (pickO v140 v143 (.bool false)) fun v144 =>
  R (.returned v144)
theorem F9_j14_ok (R : ER) (e : Env) : den Pg R (cd Tryz.f9 [1,0,1,0,1,1,1,1,1,1,1,0]) e (inB 0 (setN (kont Pg R Tryz.f9) (fun e => F9_j1 R (e 0) (e 1) (e 5)))) = (F9_j14 R (e 0) (e 1) (e 5)) := by kernel_rfl
def F9_j17 (R : ER) (x0 x1 x5 : Value) : WP :=
  drewV (
  pv (faO 1 x5) fun v145 =>
  ld1 v145 fun v146 =>
  pv (faO 6 x5) fun v147 =>
  ldN 5 v147 fun v148 =>
  pv (bldO [.int .i64 0, .int .i64 0, .int .i64 0, .int .i64 0, .int .i64 0, .int .i64 0] [(0,1, v146), (1,5, v148)]) fun v149 =>
  mem fun w151 => cal Pg noR 34 ⟨[x0, v149]⟩ fun v150 =>
  pv (faO 1 x5) fun v152 =>
  ld1S [w151] v152 fun v153 =>
  pv (faO 6 x5) fun v154 =>
  ldNS [w151] 5 v154 fun v155 =>
  pv (bldO [.int .i64 0, .int .i64 0, .int .i64 0, .int .i64 0, .int .i64 0, .int .i64 0] [(0,1, v153), (1,5, v155)]) fun v156 =>
  mem fun w158 => cal Pg noR 35 ⟨[x1, v156]⟩ fun v157 =>
  pv (bin .eql v150 v157) fun v159 =>
  R (.returned v159))
theorem F9_j17_ok (R : ER) (e : Env) : den Pg R (cd Tryz.f9 [1,0,1,0,1,1,1,1,1,1,1,1,1,0]) e (inB 0 (setN (kont Pg R Tryz.f9) (fun e => F9_j1 R (e 0) (e 1) (e 5)))) = (F9_j17 R (e 0) (e 1) (e 5)) := by kernel_rfl
def F9_j16 (R : ER) (x0 x1 x5 x216 : Value) : WP :=
  cnd x216 (F9_j17 R x0 x1 x5) (F9_j1 R x0 x1 x5)
theorem F9_j16_ok (R : ER) (e : Env) : den Pg R (cd Tryz.f9 [1,0,1,0,1,1,1,1,1,1,1,1,1]) e (inB 0 (setN (kont Pg R Tryz.f9) (fun e => F9_j1 R (e 0) (e 1) (e 5)))) = (F9_j16 R (e 0) (e 1) (e 5) (e 216)) := (den_if Pg R (cd Tryz.f9 [1,0,1,0,1,1,1,1,1,1,1,1,1]) (cd Tryz.f9 [1,0,1,0,1,1,1,1,1,1,1,1,1,0]) (cd Tryz.f9 [1,0,1,0,1,1,1,1,1,1,1,1,1,1]) e (inB 0 (setN (kont Pg R Tryz.f9) (fun e => F9_j1 R (e 0) (e 1) (e 5)))) (F9_j17 R (e 0) (e 1) (e 5)) _ _ (by kernel_rfl) (F9_j17_ok R e) rfl (by kernel_rfl))
def F9_j15 (R : ER) (x0 x1 x5 x39 : Value) : WP :=
  pv (bin .eql x39 (.int .u8 8)) fun v160 =>
  F9_j16 R x0 x1 x5 v160
theorem F9_j15_ok (R : ER) (e : Env) : den Pg R (cd Tryz.f9 [1,0,1,0,1,1,1,1,1,1,1,1]) e (inB 0 (setN (kont Pg R Tryz.f9) (fun e => F9_j1 R (e 0) (e 1) (e 5)))) = (F9_j15 R (e 0) (e 1) (e 5) (e 39)) := (den_join Pg R 0 (cd Tryz.f9 [1,0,1,0,1,1,1,1,1,1,1,1]) (cd Tryz.f9 [1,0,1,0,1,1,1,1,1,1,1,1,1]) e (inB 0 (setN (kont Pg R Tryz.f9) (fun e => F9_j1 R (e 0) (e 1) (e 5)))) (fun e => F9_j16 R (e 0) (e 1) (e 5) (e 216)) _ (by kernel_rfl) (fun e => F9_j16_ok R e) (by kernel_rfl))
def F9_j13 (R : ER) (x0 x1 x5 x39 x185 : Value) : WP :=
  cnd x185 (F9_j14 R x0 x1 x5) (F9_j15 R x0 x1 x5 x39)
theorem F9_j13_ok (R : ER) (e : Env) : den Pg R (cd Tryz.f9 [1,0,1,0,1,1,1,1,1,1,1]) e (inB 0 (setN (kont Pg R Tryz.f9) (fun e => F9_j1 R (e 0) (e 1) (e 5)))) = (F9_j13 R (e 0) (e 1) (e 5) (e 39) (e 185)) := (den_if Pg R (cd Tryz.f9 [1,0,1,0,1,1,1,1,1,1,1]) (cd Tryz.f9 [1,0,1,0,1,1,1,1,1,1,1,0]) (cd Tryz.f9 [1,0,1,0,1,1,1,1,1,1,1,1]) e (inB 0 (setN (kont Pg R Tryz.f9) (fun e => F9_j1 R (e 0) (e 1) (e 5)))) (F9_j14 R (e 0) (e 1) (e 5)) (F9_j15 R (e 0) (e 1) (e 5) (e 39)) _ (by kernel_rfl) (F9_j14_ok R e) (F9_j15_ok R e) (by kernel_rfl))
def F9_j12 (R : ER) (x0 x1 x5 x39 : Value) : WP :=
  pv (bin .eql x39 (.int .u8 7)) fun v161 =>
  F9_j13 R x0 x1 x5 x39 v161
theorem F9_j12_ok (R : ER) (e : Env) : den Pg R (cd Tryz.f9 [1,0,1,0,1,1,1,1,1,1]) e (inB 0 (setN (kont Pg R Tryz.f9) (fun e => F9_j1 R (e 0) (e 1) (e 5)))) = (F9_j12 R (e 0) (e 1) (e 5) (e 39)) := (den_join Pg R 0 (cd Tryz.f9 [1,0,1,0,1,1,1,1,1,1]) (cd Tryz.f9 [1,0,1,0,1,1,1,1,1,1,1]) e (inB 0 (setN (kont Pg R Tryz.f9) (fun e => F9_j1 R (e 0) (e 1) (e 5)))) (fun e => F9_j13 R (e 0) (e 1) (e 5) (e 39) (e 185)) _ (by kernel_rfl) (fun e => F9_j13_ok R e) (by kernel_rfl))
def F9_j10 (R : ER) (x0 x1 x5 x39 x154 : Value) : WP :=
  cnd x154 (F9_j11 R x0 x1 x5) (F9_j12 R x0 x1 x5 x39)
theorem F9_j10_ok (R : ER) (e : Env) : den Pg R (cd Tryz.f9 [1,0,1,0,1,1,1,1,1]) e (inB 0 (setN (kont Pg R Tryz.f9) (fun e => F9_j1 R (e 0) (e 1) (e 5)))) = (F9_j10 R (e 0) (e 1) (e 5) (e 39) (e 154)) := (den_if Pg R (cd Tryz.f9 [1,0,1,0,1,1,1,1,1]) (cd Tryz.f9 [1,0,1,0,1,1,1,1,1,0]) (cd Tryz.f9 [1,0,1,0,1,1,1,1,1,1]) e (inB 0 (setN (kont Pg R Tryz.f9) (fun e => F9_j1 R (e 0) (e 1) (e 5)))) (F9_j11 R (e 0) (e 1) (e 5)) (F9_j12 R (e 0) (e 1) (e 5) (e 39)) _ (by kernel_rfl) (F9_j11_ok R e) (F9_j12_ok R e) (by kernel_rfl))
def F9_j9 (R : ER) (x0 x1 x5 x39 : Value) : WP :=
  pv (bin .eql x39 (.int .u8 6)) fun v162 =>
  F9_j10 R x0 x1 x5 x39 v162
theorem F9_j9_ok (R : ER) (e : Env) : den Pg R (cd Tryz.f9 [1,0,1,0,1,1,1,1]) e (inB 0 (setN (kont Pg R Tryz.f9) (fun e => F9_j1 R (e 0) (e 1) (e 5)))) = (F9_j9 R (e 0) (e 1) (e 5) (e 39)) := (den_join Pg R 0 (cd Tryz.f9 [1,0,1,0,1,1,1,1]) (cd Tryz.f9 [1,0,1,0,1,1,1,1,1]) e (inB 0 (setN (kont Pg R Tryz.f9) (fun e => F9_j1 R (e 0) (e 1) (e 5)))) (fun e => F9_j10 R (e 0) (e 1) (e 5) (e 39) (e 154)) _ (by kernel_rfl) (fun e => F9_j10_ok R e) (by kernel_rfl))
def F9_j7 (R : ER) (x0 x1 x5 x39 x99 : Value) : WP :=
  cnd x99 (F9_j8 R x0 x1 x5) (F9_j9 R x0 x1 x5 x39)
theorem F9_j7_ok (R : ER) (e : Env) : den Pg R (cd Tryz.f9 [1,0,1,0,1,1,1]) e (inB 0 (setN (kont Pg R Tryz.f9) (fun e => F9_j1 R (e 0) (e 1) (e 5)))) = (F9_j7 R (e 0) (e 1) (e 5) (e 39) (e 99)) := (den_if Pg R (cd Tryz.f9 [1,0,1,0,1,1,1]) (cd Tryz.f9 [1,0,1,0,1,1,1,0]) (cd Tryz.f9 [1,0,1,0,1,1,1,1]) e (inB 0 (setN (kont Pg R Tryz.f9) (fun e => F9_j1 R (e 0) (e 1) (e 5)))) (F9_j8 R (e 0) (e 1) (e 5)) (F9_j9 R (e 0) (e 1) (e 5) (e 39)) _ (by kernel_rfl) (F9_j8_ok R e) (F9_j9_ok R e) (by kernel_rfl))
def F9_j6 (R : ER) (x0 x1 x5 x39 : Value) : WP :=
  pv (bin .eql x39 (.int .u8 3)) fun v163 =>
  cnd v163 (
   F9_j7 R x0 x1 x5 x39 v163) (
   pv (bin .eql x39 (.int .u8 4)) fun v164 =>
   cnd v164 (
    F9_j7 R x0 x1 x5 x39 v164) (
    pv (bin .eql x39 (.int .u8 5)) fun v165 =>
    F9_j7 R x0 x1 x5 x39 v165))
theorem F9_j6_ok (R : ER) (e : Env) : den Pg R (cd Tryz.f9 [1,0,1,0,1,1]) e (inB 0 (setN (kont Pg R Tryz.f9) (fun e => F9_j1 R (e 0) (e 1) (e 5)))) = (F9_j6 R (e 0) (e 1) (e 5) (e 39)) := (den_join Pg R 0 (cd Tryz.f9 [1,0,1,0,1,1]) (cd Tryz.f9 [1,0,1,0,1,1,1]) e (inB 0 (setN (kont Pg R Tryz.f9) (fun e => F9_j1 R (e 0) (e 1) (e 5)))) (fun e => F9_j7 R (e 0) (e 1) (e 5) (e 39) (e 99)) _ (by kernel_rfl) (fun e => F9_j7_ok R e) (by kernel_rfl))
def F9_j4 (R : ER) (x0 x1 x5 x39 x40 : Value) : WP :=
  cnd x40 (F9_j5 R x0 x1 x5) (F9_j6 R x0 x1 x5 x39)
theorem F9_j4_ok (R : ER) (e : Env) : den Pg R (cd Tryz.f9 [1,0,1,0,1]) e (inB 0 (setN (kont Pg R Tryz.f9) (fun e => F9_j1 R (e 0) (e 1) (e 5)))) = (F9_j4 R (e 0) (e 1) (e 5) (e 39) (e 40)) := (den_if Pg R (cd Tryz.f9 [1,0,1,0,1]) (cd Tryz.f9 [1,0,1,0,1,0]) (cd Tryz.f9 [1,0,1,0,1,1]) e (inB 0 (setN (kont Pg R Tryz.f9) (fun e => F9_j1 R (e 0) (e 1) (e 5)))) (F9_j5 R (e 0) (e 1) (e 5)) (F9_j6 R (e 0) (e 1) (e 5) (e 39)) _ (by kernel_rfl) (F9_j5_ok R e) (F9_j6_ok R e) (by kernel_rfl))
def F9_j3 (R : ER) (x0 x1 x5 x39 : Value) : WP :=
  pv (bin .eql x39 (.int .u8 0)) fun v166 =>
  cnd v166 (
   F9_j4 R x0 x1 x5 x39 v166) (
   pv (bin .eql x39 (.int .u8 1)) fun v167 =>
   cnd v167 (
    F9_j4 R x0 x1 x5 x39 v167) (
    pv (bin .eql x39 (.int .u8 2)) fun v168 =>
    F9_j4 R x0 x1 x5 x39 v168))
theorem F9_j3_ok (R : ER) (e : Env) : den Pg R (cd Tryz.f9 [1,0,1]) e (setN (kont Pg R Tryz.f9) (fun e => F9_j1 R (e 0) (e 1) (e 5))) = (F9_j3 R (e 0) (e 1) (e 5) (e 39)) := (den_block Pg R (cd Tryz.f9 [1,0,1]) 0 (cd Tryz.f9 [1,0,1,0]) e (setN (kont Pg R Tryz.f9) (fun e => F9_j1 R (e 0) (e 1) (e 5))) _ (by kernel_rfl) (den_join Pg R 0 (cd Tryz.f9 [1,0,1,0]) (cd Tryz.f9 [1,0,1,0,1]) e (inB 0 (setN (kont Pg R Tryz.f9) (fun e => F9_j1 R (e 0) (e 1) (e 5)))) (fun e => F9_j4 R (e 0) (e 1) (e 5) (e 39) (e 40)) _ (by kernel_rfl) (fun e => F9_j4_ok R e) (by kernel_rfl)))
def F9_j2 (R : ER) (x0 x1 x5 : Value) : WP :=
  pv (faO 0 x5) fun v169 =>
  ld1 v169 fun v170 =>
  pv (bin .rem v170 (.int .u8 10)) fun v171 =>
  F9_j3 R x0 x1 x5 v171
theorem F9_j2_ok (R : ER) (e : Env) : den Pg R (cd Tryz.f9 [1,0]) e (setN (kont Pg R Tryz.f9) (fun e => F9_j1 R (e 0) (e 1) (e 5))) = (F9_j2 R (e 0) (e 1) (e 5)) := (den_join Pg R 0 (cd Tryz.f9 [1,0]) (cd Tryz.f9 [1,0,1]) e (setN (kont Pg R Tryz.f9) (fun e => F9_j1 R (e 0) (e 1) (e 5))) (fun e => F9_j3 R (e 0) (e 1) (e 5) (e 39)) _ (by kernel_rfl) (fun e => F9_j3_ok R e) (by kernel_rfl))
def F9 (R : ER) (x0 x1 x2 : Value) : WP :=
  bx 36 x2 fun v172 =>
  F9_j2 R x0 x1 v172
theorem F9_den (R : ER) (x0 x1 x2 : Value) : den Pg R (cd Tryz.f9 []) (argsEnv [x0, x1, x2]) (kont Pg R Tryz.f9) = F9 R x0 x1 x2 :=
  have h : ∀ e, den Pg R (cd Tryz.f9 []) e (kont Pg R Tryz.f9) = F9 R (e 0) (e 1) (e 2) := fun e => (den_join Pg R 1 (cd Tryz.f9 []) (cd Tryz.f9 [1,1]) e (kont Pg R Tryz.f9) (fun e => F9_j1 R (e 0) (e 1) (e 5)) _ (by kernel_rfl) (fun e => F9_j1_ok R e) (den_join Pg R 0 (pre 1 (cd Tryz.f9 [])) (cd Tryz.f9 [1,0]) e (setN (kont Pg R Tryz.f9) (fun e => F9_j1 R (e 0) (e 1) (e 5))) (fun e => F9_j2 R (e 0) (e 1) (e 5)) _ (by kernel_rfl) (fun e => F9_j2_ok R e) (by kernel_rfl)))
  h _
theorem F9_calls {R : ER} {x0 x1 x2 : Value} {w : World} (h : F9 R x0 x1 x2 w) : Calls Pg 9 ⟨[x0, x1, x2]⟩ w R :=
  calls_of_den Tryz.func9 (by kernel_rfl) (by kernel_rfl) (F9_den R x0 x1 x2) h
/-! ### 10: mqueue_Queue_Messages -/
def F10_j2 (R : ER) (x4 : Value) : WP :=
  R (.returned x4)
theorem F10_j2_ok (R : ER) (e : Env) : den Pg R (cd Tryz.f10 [1,1,1,1,1,1]) e (kont Pg R Tryz.f10) = (F10_j2 R (e 4)) := by kernel_rfl
def F10_j5 (R : ER) (k1 : V4) (x4 x16 x17 x18 : Value) : WP :=
  pv (ixS 3 x16 x18) fun v1 =>
  ldN 3 v1 fun v2 =>
  al Pg 97 fun v3 =>
  stN 3 v3 v2 fun _ =>
  pv (faO 0 v3) fun v4 =>
  ldN 2 v4 fun v5 =>
  cal Pg R 41 ⟨[v5]⟩ fun v6 =>
  valV Pg R (Instr.buildSlice 38 1 ⟨[(0, v6)]⟩) fun v7 =>
  blt Pg R .append ⟨[38,38]⟩ 38 ⟨[false, false]⟩ ⟨[x4, v7]⟩ fun v8 =>
  pv (bin .add x18 (.int .i64 1)) fun v9 =>
  k1 v8 x16 x17 v9
theorem F10_j5_ok (R : ER) (k1 : V4) (e : Env) : den Pg R (cd Tryz.f10 [1,1,1,1,1,0,1,0,0,1,1]) e (setN (inB 0 (setN (kont Pg R Tryz.f10) (fun e => F10_j2 R (e 4)))) (fun e => k1 (e 4) (e 16) (e 17) (e 18))) = (F10_j5 R k1 (e 4) (e 16) (e 17) (e 18)) := by kernel_rfl
def F10_b1 (R : ER) (k1 : V4) (x4 x16 x17 x18 : Value) : WP :=
  pv (bin .lss x18 x17) fun v10 =>
  cnd v10 (
   F10_j5 R k1 x4 x16 x17 x18) (
   F10_j2 R x4)
theorem F10_b1_ok (R : ER) (k1 : V4) (e : Env) : den Pg R (cd Tryz.f10 [1,1,1,1,1,0,1,0,0]) e (setN (inB 0 (setN (kont Pg R Tryz.f10) (fun e => F10_j2 R (e 4)))) (fun e => k1 (e 4) (e 16) (e 17) (e 18))) = (F10_b1 R k1 (e 4) (e 16) (e 17) (e 18)) := (den_join Pg R 1 (cd Tryz.f10 [1,1,1,1,1,0,1,0,0]) (cd Tryz.f10 [1,1,1,1,1,0,1,0,0,1,1]) e (setN (inB 0 (setN (kont Pg R Tryz.f10) (fun e => F10_j2 R (e 4)))) (fun e => k1 (e 4) (e 16) (e 17) (e 18))) (fun e => F10_j5 R k1 (e 4) (e 16) (e 17) (e 18)) _ (by kernel_rfl) (fun e => F10_j5_ok R k1 e) (by kernel_rfl))
noncomputable def F10_l1 (R : ER) (n : Nat) : V4 := Nat.rec (motive := fun _ => V4) (fun _ _ _ _ => fun _ => False) (fun _ ih => fun x4 x16 x17 x18 => F10_b1 R ih x4 x16 x17 x18) n
theorem F10_l1_succ (R : ER) (n : Nat) (x4 x16 x17 x18 : Value) : F10_l1 R (n + 1) x4 x16 x17 x18 = F10_b1 R (F10_l1 R n) x4 x16 x17 x18 := rfl
theorem F10_l1_ok (R : ER) : ∀ (n : Nat) (e : Env), iterL (den Pg R (cd Tryz.f10 [1,1,1,1,1,0,1,0,0])) n e (inB 0 (setN (kont Pg R Tryz.f10) (fun e => F10_j2 R (e 4)))) = F10_l1 R n (e 4) (e 16) (e 17) (e 18) :=
  iterL_join (den Pg R (cd Tryz.f10 [1,1,1,1,1,0,1,0,0])) (inB 0 (setN (kont Pg R Tryz.f10) (fun e => F10_j2 R (e 4)))) (fun n e => F10_l1 R n (e 4) (e 16) (e 17) (e 18)) (fun _ => rfl) (fun n e => (F10_b1_ok R (F10_l1 R n) e).trans (F10_l1_succ R n (e 4) (e 16) (e 17) (e 18)).symm)
def F10_j4 (R : ER) (x4 x16 x17 x18 : Value) : WP :=
  exN fun n => F10_l1 R n x4 x16 x17 x18
theorem F10_j4_ok (R : ER) (e : Env) : den Pg R (cd Tryz.f10 [1,1,1,1,1,0,1]) e (setN (kont Pg R Tryz.f10) (fun e => F10_j2 R (e 4))) = (F10_j4 R (e 4) (e 16) (e 17) (e 18)) := (den_block Pg R (cd Tryz.f10 [1,1,1,1,1,0,1]) 0 (cd Tryz.f10 [1,1,1,1,1,0,1,0]) e (setN (kont Pg R Tryz.f10) (fun e => F10_j2 R (e 4))) _ (by kernel_rfl) (den_loop Pg R (cd Tryz.f10 [1,1,1,1,1,0,1,0]) (cd Tryz.f10 [1,1,1,1,1,0,1,0,0]) e (inB 0 (setN (kont Pg R Tryz.f10) (fun e => F10_j2 R (e 4)))) (fun n e => F10_l1 R n (e 4) (e 16) (e 17) (e 18)) _ (by kernel_rfl) (F10_l1_ok R) (by kernel_rfl)))
def F10_j3 (R : ER) (x3 x4 : Value) : WP :=
  pv (lenS x3) fun v11 =>
  F10_j4 R x4 x3 v11 (.int .i64 0)
theorem F10_j3_ok (R : ER) (e : Env) : den Pg R (cd Tryz.f10 [1,1,1,1,1,0]) e (setN (kont Pg R Tryz.f10) (fun e => F10_j2 R (e 4))) = (F10_j3 R (e 3) (e 4)) := (den_join Pg R 0 (cd Tryz.f10 [1,1,1,1,1,0]) (cd Tryz.f10 [1,1,1,1,1,0,1]) e (setN (kont Pg R Tryz.f10) (fun e => F10_j2 R (e 4))) (fun e => F10_j4 R (e 4) (e 16) (e 17) (e 18)) _ (by kernel_rfl) (fun e => F10_j4_ok R e) (by kernel_rfl))
def F10_j1 (R : ER) (x0 : Value) : WP :=
  pv (nilO x0) fun v12 =>
  pv (faO 0 v12) fun v13 =>
  ld1 v13 fun v14 =>
  cal Pg R 38 ⟨[v14]⟩ fun v15 =>
  cal Pg R 39 ⟨[v15, (.func (.func 40) ⟨[]⟩ ⟨[]⟩)]⟩ fun v16 =>
  F10_j3 R v15 (.slice none 0 0)
theorem F10_j1_ok (R : ER) (e : Env) : den Pg R (cd Tryz.f10 [1,1]) e (kont Pg R Tryz.f10) = (F10_j1 R (e 0)) := (den_join Pg R 3 (cd Tryz.f10 [1,1]) (cd Tryz.f10 [1,1,1,1,1,1]) e (kont Pg R Tryz.f10) (fun e => F10_j2 R (e 4)) _ (by kernel_rfl) (fun e => F10_j2_ok R e) (den_join Pg R 2 (pre 3 (cd Tryz.f10 [1,1])) (cd Tryz.f10 [1,1,1,1,1,0]) e (setN (kont Pg R Tryz.f10) (fun e => F10_j2 R (e 4))) (fun e => F10_j3 R (e 3) (e 4)) _ (by kernel_rfl) (fun e => F10_j3_ok R e) (by kernel_rfl)))
def F10 (R : ER) (x0 : Value) : WP :=
  pv (eqNilP x0) fun v17 =>
  cnd v17 (
   R (.returned (.slice none 0 0))) (
   F10_j1 R x0)
theorem F10_den (R : ER) (x0 : Value) : den Pg R (cd Tryz.f10 []) (argsEnv [x0]) (kont Pg R Tryz.f10) = F10 R x0 :=
  have h : ∀ e, den Pg R (cd Tryz.f10 []) e (kont Pg R Tryz.f10) = F10 R (e 0) := fun e => (den_join Pg R 1 (cd Tryz.f10 []) (cd Tryz.f10 [1,1]) e (kont Pg R Tryz.f10) (fun e => F10_j1 R (e 0)) _ (by kernel_rfl) (fun e => F10_j1_ok R e) (by kernel_rfl))
  h _
theorem F10_calls {R : ER} {x0 : Value} {w : World} (h : F10 R x0 w) : Calls Pg 10 ⟨[x0]⟩ w R :=
  calls_of_den Tryz.func10 (by kernel_rfl) (by kernel_rfl) (F10_den R x0) h
/-! ### 11: mqueue_Queue_Receivers -/
def F11 (R : ER) (x0 : Value) : WP :=
  pv (eqNilP x0) fun v1 =>
  cnd v1 (
   R (.returned (.slice none 0 0))) (
   pv (nilO x0) fun v2 =>
  pv (faO 5 v2) fun v3 =>
  cal Pg R 42 ⟨[v3]⟩ fun v4 =>
  R (.returned v4))
theorem F11_den (R : ER) (x0 : Value) : den Pg R (cd Tryz.f11 []) (argsEnv [x0]) (kont Pg R Tryz.f11) = F11 R x0 :=
  have h : ∀ e, den Pg R (cd Tryz.f11 []) e (kont Pg R Tryz.f11) = F11 R (e 0) := fun e => by kernel_rfl
  h _
theorem F11_calls {R : ER} {x0 : Value} {w : World} (h : F11 R x0 w) : Calls Pg 11 ⟨[x0]⟩ w R :=
  calls_of_den Tryz.func11 (by kernel_rfl) (by kernel_rfl) (F11_den R x0) h
/-! ### 12: mqueue_Queue_Senders -/
def F12 (R : ER) (x0 : Value) : WP :=
  pv (eqNilP x0) fun v1 =>
  cnd v1 (
   R (.returned (.slice none 0 0))) (
   pv (nilO x0) fun v2 =>
  pv (faO 6 v2) fun v3 =>
  cal Pg R 43 ⟨[v3]⟩ fun v4 =>
  R (.returned v4))
theorem F12_den (R : ER) (x0 : Value) : den Pg R (cd Tryz.f12 []) (argsEnv [x0]) (kont Pg R Tryz.f12) = F12 R x0 :=
  have h : ∀ e, den Pg R (cd Tryz.f12 []) e (kont Pg R Tryz.f12) = F12 R (e 0) := fun e => by kernel_rfl
  h _
theorem F12_calls {R : ER} {x0 : Value} {w : World} (h : F12 R x0 w) : Calls Pg 12 ⟨[x0]⟩ w R :=
  calls_of_den Tryz.func12 (by kernel_rfl) (by kernel_rfl) (F12_den R x0) h
/-! ### 13: mqueue_Queue_Now -/
def F13 (R : ER) (x0 : Value) : WP :=
  pv (eqNilP x0) fun v1 =>
  cnd v1 (
   R (.returned (.int .i64 0))) (
   pv (nilO x0) fun v2 =>
  pv (faO 4 v2) fun v3 =>
  ld1 v3 fun v4 =>
  R (.returned v4))
theorem F13_den (R : ER) (x0 : Value) : den Pg R (cd Tryz.f13 []) (argsEnv [x0]) (kont Pg R Tryz.f13) = F13 R x0 :=
  have h : ∀ e, den Pg R (cd Tryz.f13 []) e (kont Pg R Tryz.f13) = F13 R (e 0) := fun e => by kernel_rfl
  h _
theorem F13_calls {R : ER} {x0 : Value} {w : World} (h : F13 R x0 w) : Calls Pg 13 ⟨[x0]⟩ w R :=
  calls_of_den Tryz.func13 (by kernel_rfl) (by kernel_rfl) (F13_den R x0) h
/-! ### 14: orpimentref25_Queue_Now -/
def F14 (R : ER) (x0 : Value) : WP :=
  pv (nilO x0) fun v1 =>
  pv (faO 5 v1) fun v2 =>
  ld1 v2 fun v3 =>
  R (.returned v3)
theorem F14_den (R : ER) (x0 : Value) : den Pg R (cd Tryz.f14 []) (argsEnv [x0]) (kont Pg R Tryz.f14) = F14 R x0 :=
  have h : ∀ e, den Pg R (cd Tryz.f14 []) e (kont Pg R Tryz.f14) = F14 R (e 0) := fun e => by kernel_rfl
  h _
theorem F14_calls {R : ER} {x0 : Value} {w : World} (h : F14 R x0 w) : Calls Pg 14 ⟨[x0]⟩ w R :=
  calls_of_den Tryz.func14 (by kernel_rfl) (by kernel_rfl) (F14_den R x0) h
/-! ### 15: slices_Equal -/
def F15_j2 (R : ER) : WP :=
  R (.returned (.bool true))
theorem F15_j2_ok (R : ER) (e : Env) : den Pg R (cd Tryz.f15 [1,1,1]) e (kont Pg R Tryz.f15) = (F15_j2 R) := by kernel_rfl
def F15_j5 (R : ER) (k1 : V4) (x0 x1 x12 x13 : Value) : WP :=
  drewV (
  pv (ixS 1 x0 x13) fun v1 =>
  ld1 v1 fun v2 =>
  pv (ixS 1 x1 x13) fun v3 =>
  ld1 v3 fun v4 =>
  pv (bin .neq v2 v4) fun v5 =>
  cnd v5 (
   R (.returned (.bool false))) (
   pv (bin .add x13 (.int .i64 1)) fun v6 =>
  k1 x0 x1 x12 v6))
theorem F15_j5_ok (R : ER) (k1 : V4) (e : Env) : den Pg R (cd Tryz.f15 [1,1,0,1,0,0,1,1]) e (setN (inB 0 (setN (kont Pg R Tryz.f15) (fun e => F15_j2 R))) (fun e => k1 (e 0) (e 1) (e 12) (e 13))) = (F15_j5 R k1 (e 0) (e 1) (e 12) (e 13)) := (by kernel_rfl)
def F15_b1 (R : ER) (k1 : V4) (x0 x1 x12 x13 : Value) : WP :=
  pv (bin .lss x13 x12) fun v7 =>
  cnd v7 (
   F15_j5 R k1 x0 x1 x12 x13) (
   F15_j2 R)
theorem F15_b1_ok (R : ER) (k1 : V4) (e : Env) : den Pg R (cd Tryz.f15 [1,1,0,1,0,0]) e (setN (inB 0 (setN (kont Pg R Tryz.f15) (fun e => F15_j2 R))) (fun e => k1 (e 0) (e 1) (e 12) (e 13))) = (F15_b1 R k1 (e 0) (e 1) (e 12) (e 13)) := (den_join Pg R 1 (cd Tryz.f15 [1,1,0,1,0,0]) (cd Tryz.f15 [1,1,0,1,0,0,1,1]) e (setN (inB 0 (setN (kont Pg R Tryz.f15) (fun e => F15_j2 R))) (fun e => k1 (e 0) (e 1) (e 12) (e 13))) (fun e => F15_j5 R k1 (e 0) (e 1) (e 12) (e 13)) _ (by kernel_rfl) (fun e => F15_j5_ok R k1 e) (by kernel_rfl))
noncomputable def F15_l1 (R : ER) (n : Nat) : V4 := Nat.rec (motive := fun _ => V4) (fun _ _ _ _ => fun _ => False) (fun _ ih => fun x0 x1 x12 x13 => F15_b1 R ih x0 x1 x12 x13) n
theorem F15_l1_succ (R : ER) (n : Nat) (x0 x1 x12 x13 : Value) : F15_l1 R (n + 1) x0 x1 x12 x13 = F15_b1 R (F15_l1 R n) x0 x1 x12 x13 := rfl
theorem F15_l1_ok (R : ER) : ∀ (n : Nat) (e : Env), iterL (den Pg R (cd Tryz.f15 [1,1,0,1,0,0])) n e (inB 0 (setN (kont Pg R Tryz.f15) (fun e => F15_j2 R))) = F15_l1 R n (e 0) (e 1) (e 12) (e 13) :=
  iterL_join (den Pg R (cd Tryz.f15 [1,1,0,1,0,0])) (inB 0 (setN (kont Pg R Tryz.f15) (fun e => F15_j2 R))) (fun n e => F15_l1 R n (e 0) (e 1) (e 12) (e 13)) (fun _ => rfl) (fun n e => (F15_b1_ok R (F15_l1 R n) e).trans (F15_l1_succ R n (e 0) (e 1) (e 12) (e 13)).symm)
def F15_j4 (R : ER) (x0 x1 x12 x13 : Value) : WP :=
  exN fun n => F15_l1 R n x0 x1 x12 x13
theorem F15_j4_ok (R : ER) (e : Env) : den Pg R (cd Tryz.f15 [1,1,0,1]) e (setN (kont Pg R Tryz.f15) (fun e => F15_j2 R)) = (F15_j4 R (e 0) (e 1) (e 12) (e 13)) := (den_block Pg R (cd Tryz.f15 [1,1,0,1]) 0 (cd Tryz.f15 [1,1,0,1,0]) e (setN (kont Pg R Tryz.f15) (fun e => F15_j2 R)) _ (by kernel_rfl) (den_loop Pg R (cd Tryz.f15 [1,1,0,1,0]) (cd Tryz.f15 [1,1,0,1,0,0]) e (inB 0 (setN (kont Pg R Tryz.f15) (fun e => F15_j2 R))) (fun n e => F15_l1 R n (e 0) (e 1) (e 12) (e 13)) _ (by kernel_rfl) (F15_l1_ok R) (by kernel_rfl)))
def F15_j3 (R : ER) (x0 x1 : Value) : WP :=
  pv (lenS x0) fun v8 =>
  F15_j4 R x0 x1 v8 (.int .i64 0)
theorem F15_j3_ok (R : ER) (e : Env) : den Pg R (cd Tryz.f15 [1,1,0]) e (setN (kont Pg R Tryz.f15) (fun e => F15_j2 R)) = (F15_j3 R (e 0) (e 1)) := (den_join Pg R 0 (cd Tryz.f15 [1,1,0]) (cd Tryz.f15 [1,1,0,1]) e (setN (kont Pg R Tryz.f15) (fun e => F15_j2 R)) (fun e => F15_j4 R (e 0) (e 1) (e 12) (e 13)) _ (by kernel_rfl) (fun e => F15_j4_ok R e) (by kernel_rfl))
def F15_j1 (R : ER) (x0 x1 : Value) : WP :=
  F15_j3 R x0 x1
theorem F15_j1_ok (R : ER) (e : Env) : den Pg R (cd Tryz.f15 [1,1]) e (kont Pg R Tryz.f15) = (F15_j1 R (e 0) (e 1)) := (den_join Pg R 0 (cd Tryz.f15 [1,1]) (cd Tryz.f15 [1,1,1]) e (kont Pg R Tryz.f15) (fun e => F15_j2 R) _ (by kernel_rfl) (fun e => F15_j2_ok R e) (den_conv Pg R (pre 0 (cd Tryz.f15 [1,1])) (cd Tryz.f15 [1,1,0]) e (setN (kont Pg R Tryz.f15) (fun e => F15_j2 R)) _ (by kernel_rfl) (F15_j3_ok R e)))
def F15 (R : ER) (x0 x1 : Value) : WP :=
  pv (lenS x0) fun v9 =>
  pv (lenS x1) fun v10 =>
  pv (bin .neq v9 v10) fun v11 =>
  cnd v11 (
   R (.returned (.bool false))) (
   F15_j1 R x0 x1)
theorem F15_den (R : ER) (x0 x1 : Value) : den Pg R (cd Tryz.f15 []) (argsEnv [x0, x1]) (kont Pg R Tryz.f15) = F15 R x0 x1 :=
  have h : ∀ e, den Pg R (cd Tryz.f15 []) e (kont Pg R Tryz.f15) = F15 R (e 0) (e 1) := fun e => (den_join Pg R 1 (cd Tryz.f15 []) (cd Tryz.f15 [1,1]) e (kont Pg R Tryz.f15) (fun e => F15_j1 R (e 0) (e 1)) _ (by kernel_rfl) (fun e => F15_j1_ok R e) (by kernel_rfl))
  h _
theorem F15_calls {R : ER} {x0 x1 : Value} {w : World} (h : F15 R x0 x1 w) : Calls Pg 15 ⟨[x0, x1]⟩ w R :=
  calls_of_den Tryz.func15 (by kernel_rfl) (by kernel_rfl) (F15_den R x0 x1) h
/-! ### 16: orpimentref25_Queue_Senders -/
def F16 (R : ER) (x0 : Value) : WP :=
  pv (nilO x0) fun v1 =>
  pv (faO 3 v1) fun v2 =>
  ld1 v2 fun v3 =>
  cal Pg R 44 ⟨[v3]⟩ fun v4 =>
  R (.returned v4)
theorem F16_den (R : ER) (x0 : Value) : den Pg R (cd Tryz.f16 []) (argsEnv [x0]) (kont Pg R Tryz.f16) = F16 R x0 :=
  have h : ∀ e, den Pg R (cd Tryz.f16 []) e (kont Pg R Tryz.f16) = F16 R (e 0) := fun e => by kernel_rfl
  h _
theorem F16_calls {R : ER} {x0 : Value} {w : World} (h : F16 R x0 w) : Calls Pg 16 ⟨[x0]⟩ w R :=
  calls_of_den Tryz.func16 (by kernel_rfl) (by kernel_rfl) (F16_den R x0) h
/-! ### 17: orpimentref25_Queue_Receivers -/
def F17 (R : ER) (x0 : Value) : WP :=
  pv (nilO x0) fun v1 =>
  pv (faO 4 v1) fun v2 =>
  ld1 v2 fun v3 =>
  cal Pg R 44 ⟨[v3]⟩ fun v4 =>
  R (.returned v4)
theorem F17_den (R : ER) (x0 : Value) : den Pg R (cd Tryz.f17 []) (argsEnv [x0]) (kont Pg R Tryz.f17) = F17 R x0 :=
  have h : ∀ e, den Pg R (cd Tryz.f17 []) e (kont Pg R Tryz.f17) = F17 R (e 0) := fun e => by kernel_rfl
  h _
theorem F17_calls {R : ER} {x0 : Value} {w : World} (h : F17 R x0 w) : Calls Pg 17 ⟨[x0]⟩ w R :=
  calls_of_den Tryz.func17 (by kernel_rfl) (by kernel_rfl) (F17_den R x0) h
/-! ### 18: slices_EqualFunc -/
def F18_j2 (R : ER) : WP :=
  R (.returned (.bool true))
theorem F18_j2_ok (R : ER) (e : Env) : den Pg R (cd Tryz.f18 [1,1,1]) e (kont Pg R Tryz.f18) = (F18_j2 R) := by kernel_rfl
def F18_j5 (R : ER) (k1 : V5) (x1 x2 x15 x16 x17 : Value) : WP :=
  pv (ixS 2 x15 x17) fun v1 =>
  ldN 2 v1 fun v2 =>
  al Pg 43 fun v3 =>
  stN 2 v3 v2 fun _ =>
  pv (ixS 2 x1 x17) fun v4 =>
  ldN 2 v4 fun v5 =>
  al Pg 49 fun v6 =>
  stN 2 v6 v5 fun _ =>
  ldN 2 v3 fun v7 =>
  ldN 2 v6 fun v8 =>
  calD Pg R x2 ⟨[v7, v8]⟩ fun v9 =>
  pv (unO .not v9) fun v10 =>
  cnd v10 (
   R (.returned (.bool false))) (
   pv (bin .add x17 (.int .i64 1)) fun v11 =>
  k1 x1 x2 x15 x16 v11)
theorem F18_j5_ok (R : ER) (k1 : V5) (e : Env) : den Pg R (cd Tryz.f18 [1,1,0,1,0,0,1,1]) e (setN (inB 0 (setN (kont Pg R Tryz.f18) (fun e => F18_j2 R))) (fun e => k1 (e 1) (e 2) (e 15) (e 16) (e 17))) = (F18_j5 R k1 (e 1) (e 2) (e 15) (e 16) (e 17)) := (by kernel_rfl)
def F18_b1 (R : ER) (k1 : V5) (x1 x2 x15 x16 x17 : Value) : WP :=
  pv (bin .lss x17 x16) fun v12 =>
  cnd v12 (
   F18_j5 R k1 x1 x2 x15 x16 x17) (
   F18_j2 R)
theorem F18_b1_ok (R : ER) (k1 : V5) (e : Env) : den Pg R (cd Tryz.f18 [1,1,0,1,0,0]) e (setN (inB 0 (setN (kont Pg R Tryz.f18) (fun e => F18_j2 R))) (fun e => k1 (e 1) (e 2) (e 15) (e 16) (e 17))) = (F18_b1 R k1 (e 1) (e 2) (e 15) (e 16) (e 17)) := (den_join Pg R 1 (cd Tryz.f18 [1,1,0,1,0,0]) (cd Tryz.f18 [1,1,0,1,0,0,1,1]) e (setN (inB 0 (setN (kont Pg R Tryz.f18) (fun e => F18_j2 R))) (fun e => k1 (e 1) (e 2) (e 15) (e 16) (e 17))) (fun e => F18_j5 R k1 (e 1) (e 2) (e 15) (e 16) (e 17)) _ (by kernel_rfl) (fun e => F18_j5_ok R k1 e) (by kernel_rfl))
noncomputable def F18_l1 (R : ER) (n : Nat) : V5 := Nat.rec (motive := fun _ => V5) (fun _ _ _ _ _ => fun _ => False) (fun _ ih => fun x1 x2 x15 x16 x17 => F18_b1 R ih x1 x2 x15 x16 x17) n
theorem F18_l1_succ (R : ER) (n : Nat) (x1 x2 x15 x16 x17 : Value) : F18_l1 R (n + 1) x1 x2 x15 x16 x17 = F18_b1 R (F18_l1 R n) x1 x2 x15 x16 x17 := rfl
theorem F18_l1_ok (R : ER) : ∀ (n : Nat) (e : Env), iterL (den Pg R (cd Tryz.f18 [1,1,0,1,0,0])) n e (inB 0 (setN (kont Pg R Tryz.f18) (fun e => F18_j2 R))) = F18_l1 R n (e 1) (e 2) (e 15) (e 16) (e 17) :=
  iterL_join (den Pg R (cd Tryz.f18 [1,1,0,1,0,0])) (inB 0 (setN (kont Pg R Tryz.f18) (fun e => F18_j2 R))) (fun n e => F18_l1 R n (e 1) (e 2) (e 15) (e 16) (e 17)) (fun _ => rfl) (fun n e => (F18_b1_ok R (F18_l1 R n) e).trans (F18_l1_succ R n (e 1) (e 2) (e 15) (e 16) (e 17)).symm)
def F18_j4 (R : ER) (x1 x2 x15 x16 x17 : Value) : WP :=
  exN fun n => F18_l1 R n x1 x2 x15 x16 x17
theorem F18_j4_ok (R : ER) (e : Env) : den Pg R (cd Tryz.f18 [1,1,0,1]) e (setN (kont Pg R Tryz.f18) (fun e => F18_j2 R)) = (F18_j4 R (e 1) (e 2) (e 15) (e 16) (e 17)) := (den_block Pg R (cd Tryz.f18 [1,1,0,1]) 0 (cd Tryz.f18 [1,1,0,1,0]) e (setN (kont Pg R Tryz.f18) (fun e => F18_j2 R)) _ (by kernel_rfl) (den_loop Pg R (cd Tryz.f18 [1,1,0,1,0]) (cd Tryz.f18 [1,1,0,1,0,0]) e (inB 0 (setN (kont Pg R Tryz.f18) (fun e => F18_j2 R))) (fun n e => F18_l1 R n (e 1) (e 2) (e 15) (e 16) (e 17)) _ (by kernel_rfl) (F18_l1_ok R) (by kernel_rfl)))
def F18_j3 (R : ER) (x0 x1 x2 : Value) : WP :=
  pv (lenS x0) fun v13 =>
  F18_j4 R x1 x2 x0 v13 (.int .i64 0)
theorem F18_j3_ok (R : ER) (e : Env) : den Pg R (cd Tryz.f18 [1,1,0]) e (setN (kont Pg R Tryz.f18) (fun e => F18_j2 R)) = (F18_j3 R (e 0) (e 1) (e 2)) := (den_join Pg R 0 (cd Tryz.f18 [1,1,0]) (cd Tryz.f18 [1,1,0,1]) e (setN (kont Pg R Tryz.f18) (fun e => F18_j2 R)) (fun e => F18_j4 R (e 1) (e 2) (e 15) (e 16) (e 17)) _ (by kernel_rfl) (fun e => F18_j4_ok R e) (by kernel_rfl))
def F18_j1 (R : ER) (x0 x1 x2 : Value) : WP :=
  F18_j3 R x0 x1 x2
theorem F18_j1_ok (R : ER) (e : Env) : den Pg R (cd Tryz.f18 [1,1]) e (kont Pg R Tryz.f18) = (F18_j1 R (e 0) (e 1) (e 2)) := (den_join Pg R 0 (cd Tryz.f18 [1,1]) (cd Tryz.f18 [1,1,1]) e (kont Pg R Tryz.f18) (fun e => F18_j2 R) _ (by kernel_rfl) (fun e => F18_j2_ok R e) (den_conv Pg R (pre 0 (cd Tryz.f18 [1,1])) (cd Tryz.f18 [1,1,0]) e (setN (kont Pg R Tryz.f18) (fun e => F18_j2 R)) _ (by kernel_rfl) (F18_j3_ok R e)))
def F18 (R : ER) (x0 x1 x2 : Value) : WP :=
  pv (lenS x0) fun v14 =>
  pv (lenS x1) fun v15 =>
  pv (bin .neq v14 v15) fun v16 =>
  cnd v16 (
   R (.returned (.bool false))) (
   F18_j1 R x0 x1 x2)
theorem F18_den (R : ER) (x0 x1 x2 : Value) : den Pg R (cd Tryz.f18 []) (argsEnv [x0, x1, x2]) (kont Pg R Tryz.f18) = F18 R x0 x1 x2 :=
  have h : ∀ e, den Pg R (cd Tryz.f18 []) e (kont Pg R Tryz.f18) = F18 R (e 0) (e 1) (e 2) := fun e => (den_join Pg R 1 (cd Tryz.f18 []) (cd Tryz.f18 [1,1]) e (kont Pg R Tryz.f18) (fun e => F18_j1 R (e 0) (e 1) (e 2)) _ (by kernel_rfl) (fun e => F18_j1_ok R e) (by kernel_rfl))
  h _
theorem F18_calls {R : ER} {x0 x1 x2 : Value} {w : World} (h : F18 R x0 x1 x2 w) : Calls Pg 18 ⟨[x0, x1, x2]⟩ w R :=
  calls_of_den Tryz.func18 (by kernel_rfl) (by kernel_rfl) (F18_den R x0 x1 x2) h
/-! ### 19: orpimentref25_Queue_Messages -/
def F19_j1 (R : ER) (x3 : Value) : WP :=
  R (.returned x3)
theorem F19_j1_ok (R : ER) (e : Env) : den Pg R (cd Tryz.f19 [1,1,1]) e (kont Pg R Tryz.f19) = (F19_j1 R (e 3)) := by kernel_rfl
def F19_j4 (R : ER) (k1 : V3) (x0 x3 x4 : Value) : WP :=
  pv (nilO x0) fun v1 =>
  pv (faO 2 v1) fun v2 =>
  ld1 v2 fun v3 =>
  pv (ixS 2 v3 x4) fun v4 =>
  ldN 2 v4 fun v5 =>
  cal Pg R 45 ⟨[v5]⟩ fun v6 =>
  valV Pg R (Instr.buildSlice 48 1 ⟨[(0, v6)]⟩) fun v7 =>
  blt Pg R .append ⟨[48,48]⟩ 48 ⟨[false, false]⟩ ⟨[x3, v7]⟩ fun v8 =>
  pv (bin .add x4 (.int .i64 1)) fun v9 =>
  k1 x0 v8 v9
theorem F19_j4_ok (R : ER) (k1 : V3) (e : Env) : den Pg R (cd Tryz.f19 [1,1,0,1,0,0,1]) e (setN (inB 0 (setN (kont Pg R Tryz.f19) (fun e => F19_j1 R (e 3)))) (fun e => k1 (e 0) (e 3) (e 4))) = (F19_j4 R k1 (e 0) (e 3) (e 4)) := by kernel_rfl
def F19_b1 (R : ER) (k1 : V3) (x0 x3 x4 : Value) : WP :=
  pv (nilO x0) fun v10 =>
  pv (faO 2 v10) fun v11 =>
  ld1 v11 fun v12 =>
  pv (lenS v12) fun v13 =>
  pv (bin .lss x4 v13) fun v14 =>
  cnd v14 (
   F19_j4 R k1 x0 x3 x4) (
   F19_j1 R x3)
theorem F19_b1_ok (R : ER) (k1 : V3) (e : Env) : den Pg R (cd Tryz.f19 [1,1,0,1,0,0]) e (setN (inB 0 (setN (kont Pg R Tryz.f19) (fun e => F19_j1 R (e 3)))) (fun e => k1 (e 0) (e 3) (e 4))) = (F19_b1 R k1 (e 0) (e 3) (e 4)) := (den_join Pg R 0 (cd Tryz.f19 [1,1,0,1,0,0]) (cd Tryz.f19 [1,1,0,1,0,0,1]) e (setN (inB 0 (setN (kont Pg R Tryz.f19) (fun e => F19_j1 R (e 3)))) (fun e => k1 (e 0) (e 3) (e 4))) (fun e => F19_j4 R k1 (e 0) (e 3) (e 4)) _ (by kernel_rfl) (fun e => F19_j4_ok R k1 e) (by kernel_rfl))
noncomputable def F19_l1 (R : ER) (n : Nat) : V3 := Nat.rec (motive := fun _ => V3) (fun _ _ _ => fun _ => False) (fun _ ih => fun x0 x3 x4 => F19_b1 R ih x0 x3 x4) n
theorem F19_l1_succ (R : ER) (n : Nat) (x0 x3 x4 : Value) : F19_l1 R (n + 1) x0 x3 x4 = F19_b1 R (F19_l1 R n) x0 x3 x4 := rfl
theorem F19_l1_ok (R : ER) : ∀ (n : Nat) (e : Env), iterL (den Pg R (cd Tryz.f19 [1,1,0,1,0,0])) n e (inB 0 (setN (kont Pg R Tryz.f19) (fun e => F19_j1 R (e 3)))) = F19_l1 R n (e 0) (e 3) (e 4) :=
  iterL_join (den Pg R (cd Tryz.f19 [1,1,0,1,0,0])) (inB 0 (setN (kont Pg R Tryz.f19) (fun e => F19_j1 R (e 3)))) (fun n e => F19_l1 R n (e 0) (e 3) (e 4)) (fun _ => rfl) (fun n e => (F19_b1_ok R (F19_l1 R n) e).trans (F19_l1_succ R n (e 0) (e 3) (e 4)).symm)
def F19_j3 (R : ER) (x0 x3 x4 : Value) : WP :=
  exN fun n => F19_l1 R n x0 x3 x4
theorem F19_j3_ok (R : ER) (e : Env) : den Pg R (cd Tryz.f19 [1,1,0,1]) e (setN (kont Pg R Tryz.f19) (fun e => F19_j1 R (e 3))) = (F19_j3 R (e 0) (e 3) (e 4)) := (den_block Pg R (cd Tryz.f19 [1,1,0,1]) 0 (cd Tryz.f19 [1,1,0,1,0]) e (setN (kont Pg R Tryz.f19) (fun e => F19_j1 R (e 3))) _ (by kernel_rfl) (den_loop Pg R (cd Tryz.f19 [1,1,0,1,0]) (cd Tryz.f19 [1,1,0,1,0,0]) e (inB 0 (setN (kont Pg R Tryz.f19) (fun e => F19_j1 R (e 3)))) (fun n e => F19_l1 R n (e 0) (e 3) (e 4)) _ (by kernel_rfl) (F19_l1_ok R) (by kernel_rfl)))
def F19_j2 (R : ER) (x0 x3 : Value) : WP :=
  F19_j3 R x0 x3 (.int .i64 0)
theorem F19_j2_ok (R : ER) (e : Env) : den Pg R (cd Tryz.f19 [1,1,0]) e (setN (kont Pg R Tryz.f19) (fun e => F19_j1 R (e 3))) = (F19_j2 R (e 0) (e 3)) := (den_join Pg R 0 (cd Tryz.f19 [1,1,0]) (cd Tryz.f19 [1,1,0,1]) e (setN (kont Pg R Tryz.f19) (fun e => F19_j1 R (e 3))) (fun e => F19_j3 R (e 0) (e 3) (e 4)) _ (by kernel_rfl) (fun e => F19_j3_ok R e) (by kernel_rfl))
def F19 (R : ER) (x0 : Value) : WP :=
  F19_j2 R x0 (.slice none 0 0)
theorem F19_den (R : ER) (x0 : Value) : den Pg R (cd Tryz.f19 []) (argsEnv [x0]) (kont Pg R Tryz.f19) = F19 R x0 :=
  have h : ∀ e, den Pg R (cd Tryz.f19 []) e (kont Pg R Tryz.f19) = F19 R (e 0) := fun e => (den_join Pg R 2 (cd Tryz.f19 []) (cd Tryz.f19 [1,1,1]) e (kont Pg R Tryz.f19) (fun e => F19_j1 R (e 3)) _ (by kernel_rfl) (fun e => F19_j1_ok R e) (den_join Pg R 1 (pre 2 (cd Tryz.f19 [])) (cd Tryz.f19 [1,1,0]) e (setN (kont Pg R Tryz.f19) (fun e => F19_j1 R (e 3))) (fun e => F19_j2 R (e 0) (e 3)) _ (by kernel_rfl) (fun e => F19_j2_ok R e) (by kernel_rfl)))
  h _
theorem F19_calls {R : ER} {x0 : Value} {w : World} (h : F19 R x0 w) : Calls Pg 19 ⟨[x0]⟩ w R :=
  calls_of_den Tryz.func19 (by kernel_rfl) (by kernel_rfl) (F19_den R x0) h
/-! ### 20: orpimentlaw25_message -/
def F20 (R : ER) (x0 x1 : Value) : WP :=
  bx 43 x0 fun v1 =>
  bx 49 x1 fun v2 =>
  pv (faO 0 v1) fun v3 =>
  ld1 v3 fun v4 =>
  pv (faO 0 v2) fun v5 =>
  ld1 v5 fun v6 =>
  pv (bin .eql v4 v6) fun v7 =>
  gd v7 true (pv (faO 1 v1)) fun v8 =>
  gd v7 true (ld1 v8) fun v9 =>
  gd v7 true (pv (faO 1 v2)) fun v10 =>
  gd v7 true (ld1 v10) fun v11 =>
  gd v7 true (cal Pg R 46 ⟨[v9, v11]⟩) fun v12 =>
  pv (pickO v7 v12 (.bool false)) fun v13 =>
  R (.returned v13)
theorem F20_den (R : ER) (x0 x1 : Value) : den Pg R (cd Tryz.f20 []) (argsEnv [x0, x1]) (kont Pg R Tryz.f20) = F20 R x0 x1 :=
  have h : ∀ e, den Pg R (cd Tryz.f20 []) e (kont Pg R Tryz.f20) = F20 R (e 0) (e 1) := fun e => by kernel_rfl
  h _
theorem F20_calls {R : ER} {x0 x1 : Value} {w : World} (h : F20 R x0 x1 w) : Calls Pg 20 ⟨[x0, x1]⟩ w R :=
  calls_of_den Tryz.func20 (by kernel_rfl) (by kernel_rfl) (F20_den R x0 x1) h
/-! ### 21: slices_ContainsFunc -/
def F21 (R : ER) (x0 x1 : Value) : WP :=
  cal Pg R 47 ⟨[x0, x1]⟩ fun v1 =>
  pv (bin .geq v1 (.int .i64 0)) fun v2 =>
  R (.returned v2)
theorem F21_den (R : ER) (x0 x1 : Value) : den Pg R (cd Tryz.f21 []) (argsEnv [x0, x1]) (kont Pg R Tryz.f21) = F21 R x0 x1 :=
  have h : ∀ e, den Pg R (cd Tryz.f21 []) e (kont Pg R Tryz.f21) = F21 R (e 0) (e 1) := fun e => by kernel_rfl
  h _
theorem F21_calls {R : ER} {x0 x1 : Value} {w : World} (h : F21 R x0 x1 w) : Calls Pg 21 ⟨[x0, x1]⟩ w R :=
  calls_of_den Tryz.func21 (by kernel_rfl) (by kernel_rfl) (F21_den R x0 x1) h
/-! ### 22: orpimentlaw25_few_1 -/
def F22 (R : ER) (x0 : Value) : WP :=
  bx 36 x0 fun v1 =>
  pv (faO 3 v1) fun v2 =>
  ld1 v2 fun v3 =>
  pv (lenS v3) fun v4 =>
  pv (bin .gtr v4 (.int .i64 5000)) fun v5 =>
  R (.returned v5)
theorem F22_den (R : ER) (x0 : Value) : den Pg R (cd Tryz.f22 []) (argsEnv [x0]) (kont Pg R Tryz.f22) = F22 R x0 :=
  have h : ∀ e, den Pg R (cd Tryz.f22 []) e (kont Pg R Tryz.f22) = F22 R (e 0) := fun e => by kernel_rfl
  h _
theorem F22_calls {R : ER} {x0 : Value} {w : World} (h : F22 R x0 w) : Calls Pg 22 ⟨[x0]⟩ w R :=
  calls_of_den Tryz.func22 (by kernel_rfl) (by kernel_rfl) (F22_den R x0) h
/-! ### 23: mqueue_Queue_Send -/
def F23_j3 (R : ER) (x0 x1 x4 x7 : Value) : WP :=
  drewV (
  pv (nilO x0) fun v1 =>
  pv (faO 6 v1) fun v2 =>
  pv (faO 0 v2) fun v3 =>
  ld1 v3 fun v4 =>
  ldN 2 x7 fun v5 =>
  mem fun w7 => cal Pg noR 41 ⟨[v5]⟩ fun v6 =>
  rd1 v3 v4 <|
  pv (bldO [.int .i64 0, .int .i64 0, .int .i64 0, .slice none 0 0] [(0,1, x1), (1,1, x4), (2,2, v6)]) fun v8 =>
  mem fun w10 => valV Pg noR (Instr.buildSlice 57 1 ⟨[(0, v8)]⟩) fun v9 =>
  rd1 v3 v4 <|
  mem fun w12 => blt Pg noR .append ⟨[57,57]⟩ 57 ⟨[false, false]⟩ ⟨[v4, v9]⟩ fun v11 =>
  pv (nilO x0) fun v13 =>
  pv (faO 6 v13) fun v14 =>
  pv (faO 0 v14) fun v15 =>
  mem fun w17 => st1 v15 v11 fun v16 =>
  R (.returned (.tuple ⟨[(.bool true), (.slice none 0 0), (.slice none 0 0), (.int .i64 0)]⟩)))
theorem F23_j3_ok (R : ER) (e : Env) : den Pg R (cd Tryz.f23 [1,1,1,1]) e (kont Pg R Tryz.f23) = (F23_j3 R (e 0) (e 1) (e 4) (e 7)) := by kernel_rfl
def F23_j4 (R : ER) (x0 x1 x3 x4 x7 : Value) : WP :=
  pv (nilO x0) fun v18 =>
  pv (faO 6 v18) fun v19 =>
  pv (faO 0 v19) fun v20 =>
  ld1 v20 fun v21 =>
  pv (lenS v21) fun v22 =>
  cal Pg R 52 ⟨[x0, x3, x4, v22]⟩ fun v23 =>
  pv (bin .neq v23 (.int .i64 0)) fun v24 =>
  cnd v24 (
   R (.returned (.tuple ⟨[(.bool false), (.slice none 0 0), (.slice none 0 0), v23]⟩))) (
   F23_j3 R x0 x1 x4 x7)
theorem F23_j4_ok (R : ER) (e : Env) : den Pg R (cd Tryz.f23 [1,1,1,0]) e (setN (kont Pg R Tryz.f23) (fun e => F23_j3 R (e 0) (e 1) (e 4) (e 7))) = (F23_j4 R (e 0) (e 1) (e 3) (e 4) (e 7)) := (by kernel_rfl)
def F23_j2 (R : ER) (x0 x1 x3 x4 x7 : Value) : WP :=
  F23_j4 R x0 x1 x3 x4 x7
theorem F23_j2_ok (R : ER) (e : Env) : den Pg R (cd Tryz.f23 [1,1,1]) e (kont Pg R Tryz.f23) = (F23_j2 R (e 0) (e 1) (e 3) (e 4) (e 7)) := (den_join Pg R 0 (cd Tryz.f23 [1,1,1]) (cd Tryz.f23 [1,1,1,1]) e (kont Pg R Tryz.f23) (fun e => F23_j3 R (e 0) (e 1) (e 4) (e 7)) _ (by kernel_rfl) (fun e => F23_j3_ok R e) (den_conv Pg R (pre 0 (cd Tryz.f23 [1,1,1])) (cd Tryz.f23 [1,1,1,0]) e (setN (kont Pg R Tryz.f23) (fun e => F23_j3 R (e 0) (e 1) (e 4) (e 7))) _ (by kernel_rfl) (F23_j4_ok R e)))
def F23_j7 (R : ER) (x0 x7 : Value) : WP :=
  ldN 2 x7 fun v25 =>
  cal Pg R 51 ⟨[x0, v25]⟩ fun v26 =>
  pv (extO 0 v26) fun v27 =>
  pv (extO 1 v26) fun v28 =>
  R (.returned (.tuple ⟨[(.bool false), v27, v28, (.int .i64 0)]⟩))
theorem F23_j7_ok (R : ER) (e : Env) : den Pg R (cd Tryz.f23 [1,1,0,1,0]) e (setN (kont Pg R Tryz.f23) (fun e => F23_j2 R (e 0) (e 1) (e 3) (e 4) (e 7))) = (F23_j7 R (e 0) (e 7)) := by kernel_rfl
def F23_j6 (R : ER) (x0 x1 x3 x4 x7 x57 : Value) : WP :=
  cnd x57 (F23_j7 R x0 x7) (F23_j2 R x0 x1 x3 x4 x7)
theorem F23_j6_ok (R : ER) (e : Env) : den Pg R (cd Tryz.f23 [1,1,0,1]) e (setN (kont Pg R Tryz.f23) (fun e => F23_j2 R (e 0) (e 1) (e 3) (e 4) (e 7))) = (F23_j6 R (e 0) (e 1) (e 3) (e 4) (e 7) (e 57)) := (den_if Pg R (cd Tryz.f23 [1,1,0,1]) (cd Tryz.f23 [1,1,0,1,0]) (cd Tryz.f23 [1,1,0,1,1]) e (setN (kont Pg R Tryz.f23) (fun e => F23_j2 R (e 0) (e 1) (e 3) (e 4) (e 7))) (F23_j7 R (e 0) (e 7)) _ _ (by kernel_rfl) (F23_j7_ok R e) rfl (by kernel_rfl))
def F23_j5 (R : ER) (x0 x1 x3 x4 x7 : Value) : WP :=
  drewV (
  pv (nilO x0) fun v29 =>
  pv (faO 0 v29) fun v30 =>
  ld1 v30 fun v31 =>
  mem fun w33 => cal Pg noR 50 ⟨[v31]⟩ fun v32 =>
  pv (nilO x0) fun v34 =>
  pv (faO 1 v34) fun v35 =>
  ld1S [w33] v35 fun v36 =>
  pv (bin .lss v32 v36) fun v37 =>
  F23_j6 R x0 x1 x3 x4 x7 v37)
theorem F23_j5_ok (R : ER) (e : Env) : den Pg R (cd Tryz.f23 [1,1,0]) e (setN (kont Pg R Tryz.f23) (fun e => F23_j2 R (e 0) (e 1) (e 3) (e 4) (e 7))) = (F23_j5 R (e 0) (e 1) (e 3) (e 4) (e 7)) := (den_join Pg R 0 (cd Tryz.f23 [1,1,0]) (cd Tryz.f23 [1,1,0,1]) e (setN (kont Pg R Tryz.f23) (fun e => F23_j2 R (e 0) (e 1) (e 3) (e 4) (e 7))) (fun e => F23_j6 R (e 0) (e 1) (e 3) (e 4) (e 7) (e 57)) _ (by kernel_rfl) (fun e => F23_j6_ok R e) (by kernel_rfl))
def F23_j1 (R : ER) (x0 x1 x3 x4 x7 : Value) : WP :=
  F23_j5 R x0 x1 x3 x4 x7
theorem F23_j1_ok (R : ER) (e : Env) : den Pg R (cd Tryz.f23 [1,1]) e (kont Pg R Tryz.f23) = (F23_j1 R (e 0) (e 1) (e 3) (e 4) (e 7)) := (den_join Pg R 0 (cd Tryz.f23 [1,1]) (cd Tryz.f23 [1,1,1]) e (kont Pg R Tryz.f23) (fun e => F23_j2 R (e 0) (e 1) (e 3) (e 4) (e 7)) _ (by kernel_rfl) (fun e => F23_j2_ok R e) (den_conv Pg R (pre 0 (cd Tryz.f23 [1,1])) (cd Tryz.f23 [1,1,0]) e (setN (kont Pg R Tryz.f23) (fun e => F23_j2 R (e 0) (e 1) (e 3) (e 4) (e 7))) _ (by kernel_rfl) (F23_j5_ok R e)))
def F23_j12 (R : ER) (x0 x1 x3 x4 x7 : Value) : WP :=
  drewV (
  pv (faO 1 x7) fun v38 =>
  ld1 v38 fun v39 =>
  pv (lenS v39) fun v40 =>
  pv (nilO x0) fun v41 =>
  pv (faO 2 v41) fun v42 =>
  ld1 v42 fun v43 =>
  pv (bin .gtr v40 v43) fun v44 =>
  cnd v44 (
   R (.returned (.tuple ⟨[(.bool false), (.slice none 0 0), (.slice none 0 0), (.int .i64 20)]⟩))) (
   cal Pg R 49 ⟨[x0, x1]⟩ fun v45 =>
   cnd v45 (
    R (.returned (.tuple ⟨[(.bool false), (.slice none 0 0), (.slice none 0 0), (.int .i64 5)]⟩))) (
    F23_j1 R x0 x1 x3 x4 x7)))
theorem F23_j12_ok (R : ER) (e : Env) : den Pg R (cd Tryz.f23 [1,0,0,1,1,1,1]) e (inB 0 (setN (kont Pg R Tryz.f23) (fun e => F23_j1 R (e 0) (e 1) (e 3) (e 4) (e 7)))) = (F23_j12 R (e 0) (e 1) (e 3) (e 4) (e 7)) := (by kernel_rfl)
def F23_j11 (R : ER) (x0 x1 x3 x4 x7 x20 : Value) : WP :=
  cnd x20 (R (.returned (.tuple ⟨[(.bool false), (.slice none 0 0), (.slice none 0 0), (.int .i64 34)]⟩))) (F23_j12 R x0 x1 x3 x4 x7)
theorem F23_j11_ok (R : ER) (e : Env) : den Pg R (cd Tryz.f23 [1,0,0,1,1,1]) e (inB 0 (setN (kont Pg R Tryz.f23) (fun e => F23_j1 R (e 0) (e 1) (e 3) (e 4) (e 7)))) = (F23_j11 R (e 0) (e 1) (e 3) (e 4) (e 7) (e 20)) := (den_if Pg R (cd Tryz.f23 [1,0,0,1,1,1]) (cd Tryz.f23 [1,0,0,1,1,1,0]) (cd Tryz.f23 [1,0,0,1,1,1,1]) e (inB 0 (setN (kont Pg R Tryz.f23) (fun e => F23_j1 R (e 0) (e 1) (e 3) (e 4) (e 7)))) _ (F23_j12 R (e 0) (e 1) (e 3) (e 4) (e 7)) _ (by kernel_rfl) rfl (F23_j12_ok R e) (by kernel_rfl))
def F23_j10 (R : ER) (x0 x1 x3 x4 x7 : Value) : WP :=
  cal Pg R 48 ⟨[x1, x4]⟩ fun v46 =>
  pv (unO .not v46) fun v47 =>
  gd v47 false (pv (faO 0 x7)) fun v48 =>
  gd v47 false (ld1 v48) fun v49 =>
  gd v47 false (pv (bin .lss v49 (.int .i64 0))) fun v50 =>
  pv (pickO v47 (.bool true) v50) fun v51 =>
  gd v51 false (pv (faO 0 x7)) fun v52 =>
  gd v51 false (ld1 v52) fun v53 =>
  gd v51 false (pv (bin .gtr v53 (.int .i64 31))) fun v54 =>
  pv (pickO v51 (.bool true) v54) fun v55 =>
  F23_j11 R x0 x1 x3 x4 x7 v55
theorem F23_j10_ok (R : ER) (e : Env) : den Pg R (cd Tryz.f23 [1,0,0,1,1]) e (inB 0 (setN (kont Pg R Tryz.f23) (fun e => F23_j1 R (e 0) (e 1) (e 3) (e 4) (e 7)))) = (F23_j10 R (e 0) (e 1) (e 3) (e 4) (e 7)) := (den_join Pg R 0 (cd Tryz.f23 [1,0,0,1,1]) (cd Tryz.f23 [1,0,0,1,1,1]) e (inB 0 (setN (kont Pg R Tryz.f23) (fun e => F23_j1 R (e 0) (e 1) (e 3) (e 4) (e 7)))) (fun e => F23_j11 R (e 0) (e 1) (e 3) (e 4) (e 7) (e 20)) _ (by kernel_rfl) (fun e => F23_j11_ok R e) (by kernel_rfl))
def F23_j9 (R : ER) (x0 x1 x3 x4 x7 x17 : Value) : WP :=
  cnd x17 (R (.returned (.tuple ⟨[(.bool false), (.slice none 0 0), (.slice none 0 0), (.int .i64 35)]⟩))) (F23_j10 R x0 x1 x3 x4 x7)
theorem F23_j9_ok (R : ER) (e : Env) : den Pg R (cd Tryz.f23 [1,0,0,1]) e (inB 0 (setN (kont Pg R Tryz.f23) (fun e => F23_j1 R (e 0) (e 1) (e 3) (e 4) (e 7)))) = (F23_j9 R (e 0) (e 1) (e 3) (e 4) (e 7) (e 17)) := (den_if Pg R (cd Tryz.f23 [1,0,0,1]) (cd Tryz.f23 [1,0,0,1,0]) (cd Tryz.f23 [1,0,0,1,1]) e (inB 0 (setN (kont Pg R Tryz.f23) (fun e => F23_j1 R (e 0) (e 1) (e 3) (e 4) (e 7)))) _ (F23_j10 R (e 0) (e 1) (e 3) (e 4) (e 7)) _ (by kernel_rfl) rfl (F23_j10_ok R e) (by kernel_rfl))
def F23_j8 (R : ER) (x0 x1 x3 x4 x7 : Value) : WP :=
  pv (eqNilP x0) fun v56 =>
  F23_j9 R x0 x1 x3 x4 x7 v56
theorem F23_j8_ok (R : ER) (e : Env) : den Pg R (cd Tryz.f23 [1,0]) e (setN (kont Pg R Tryz.f23) (fun e => F23_j1 R (e 0) (e 1) (e 3) (e 4) (e 7))) = (F23_j8 R (e 0) (e 1) (e 3) (e 4) (e 7)) := (den_block Pg R (cd Tryz.f23 [1,0]) 0 (cd Tryz.f23 [1,0,0]) e (setN (kont Pg R Tryz.f23) (fun e => F23_j1 R (e 0) (e 1) (e 3) (e 4) (e 7))) _ (by kernel_rfl) (den_join Pg R 0 (cd Tryz.f23 [1,0,0]) (cd Tryz.f23 [1,0,0,1]) e (inB 0 (setN (kont Pg R Tryz.f23) (fun e => F23_j1 R (e 0) (e 1) (e 3) (e 4) (e 7)))) (fun e => F23_j9 R (e 0) (e 1) (e 3) (e 4) (e 7) (e 17)) _ (by kernel_rfl) (fun e => F23_j9_ok R e) (by kernel_rfl)))
def F23 (R : ER) (x0 x1 x2 x3 x4 : Value) : WP :=
  bx 43 x2 fun v57 =>
  F23_j8 R x0 x1 x3 x4 v57
theorem F23_den (R : ER) (x0 x1 x2 x3 x4 : Value) : den Pg R (cd Tryz.f23 []) (argsEnv [x0, x1, x2, x3, x4]) (kont Pg R Tryz.f23) = F23 R x0 x1 x2 x3 x4 :=
  have h : ∀ e, den Pg R (cd Tryz.f23 []) e (kont Pg R Tryz.f23) = F23 R (e 0) (e 1) (e 2) (e 3) (e 4) := fun e => (den_join Pg R 1 (cd Tryz.f23 []) (cd Tryz.f23 [1,1]) e (kont Pg R Tryz.f23) (fun e => F23_j1 R (e 0) (e 1) (e 3) (e 4) (e 7)) _ (by kernel_rfl) (fun e => F23_j1_ok R e) (den_join Pg R 0 (pre 1 (cd Tryz.f23 [])) (cd Tryz.f23 [1,0]) e (setN (kont Pg R Tryz.f23) (fun e => F23_j1 R (e 0) (e 1) (e 3) (e 4) (e 7))) (fun e => F23_j8 R (e 0) (e 1) (e 3) (e 4) (e 7)) _ (by kernel_rfl) (fun e => F23_j8_ok R e) (by kernel_rfl)))
  h _
theorem F23_calls {R : ER} {x0 x1 x2 x3 x4 : Value} {w : World} (h : F23 R x0 x1 x2 x3 x4 w) : Calls Pg 23 ⟨[x0, x1, x2, x3, x4]⟩ w R :=
  calls_of_den Tryz.func23 (by kernel_rfl) (by kernel_rfl) (F23_den R x0 x1 x2 x3 x4) h
/-! ### 24: mqueue_Queue_Receive -/
def F24_j3 (R : ER) (x0 x8 x14 : Value) : WP :=
  pv (nilO x0) fun v1 =>
  pv (faO 6 v1) fun v2 =>
  cal Pg R 54 ⟨[v2]⟩ fun v3 =>
  al Pg 113 fun v4 =>
  stN 4 v4 v3 fun _ =>
  pv (faO 2 v4) fun v5 =>
  ldN 2 v5 fun v6 =>
  cal Pg R 51 ⟨[x0, v6]⟩ fun v7 =>
  pv (extO 0 v7) fun v8 =>
  pv (extO 1 v7) fun v9 =>
  drewV (
  ldN 2 x14 fun v10 =>
  pv (faO 0 v4) fun v11 =>
  ld1 v11 fun v12 =>
  pv (bldO [.int .i64 0, .int .i64 0, .slice none 0 0, .int .i64 0] [(0,1, v12)]) fun v13 =>
  allW [
  (mem fun w15 => valV Pg noR (Instr.buildSlice 65 1 ⟨[(0, v13)]⟩) fun v14 =>
   rdN 2 x14 v10 <|
   mem fun w17 => stN 2 x8 v10 fun v16 =>
   rd1 v11 v12 <|
   ldN 2 x8 fun v18 => R (.returned (.tuple ⟨[v18, (.bool false), v14, v9, (.int .i64 0)]⟩))),
  (mem fun w20 => stN 2 x8 v10 fun v19 =>
   rd1 v11 v12 <|
   mem fun w22 => valV Pg noR (Instr.buildSlice 65 1 ⟨[(0, v13)]⟩) fun v21 =>
   rdN 2 x14 v10 <|
   ldN 2 x8 fun v23 => R (.returned (.tuple ⟨[v23, (.bool false), v21, v9, (.int .i64 0)]⟩)))])
theorem F24_j3_ok (R : ER) (e : Env) : den Pg R (cd Tryz.f24 [1,1,1,1,1]) e (kont Pg R Tryz.f24) = (F24_j3 R (e 0) (e 8) (e 14)) := by kernel_rfl
def F24_j4 (R : ER) (x0 x8 x14 : Value) : WP :=
  pv (nilO x0) fun v24 =>
  pv (faO 6 v24) fun v25 =>
  pv (faO 0 v25) fun v26 =>
  ld1 v26 fun v27 =>
  pv (lenS v27) fun v28 =>
  pv (bin .eql v28 (.int .i64 0)) fun v29 =>
  cnd v29 (
   ldN 2 x14 fun v30 =>
   stN 2 x8 v30 fun _ =>
   ldN 2 x8 fun v31 => R (.returned (.tuple ⟨[v31, (.bool false), (.slice none 0 0), (.slice none 0 0), (.int .i64 0)]⟩))) (
   F24_j3 R x0 x8 x14)
theorem F24_j4_ok (R : ER) (e : Env) : den Pg R (cd Tryz.f24 [1,1,1,1,0]) e (setN (kont Pg R Tryz.f24) (fun e => F24_j3 R (e 0) (e 8) (e 14))) = (F24_j4 R (e 0) (e 8) (e 14)) := (by kernel_rfl)
def F24_j2 (R : ER) (x0 x8 : Value) : WP :=
  cal Pg R 53 ⟨[(.iface 23 x0)]⟩ fun v32 =>
  valV Pg R (Instr.typeAssert v32 20 97 false) fun v33 =>
  pv (fldN 0 2 v33) fun v34 =>
  al Pg 43 fun v35 =>
  stN 2 v35 v34 fun _ =>
  F24_j4 R x0 x8 v35
theorem F24_j2_ok (R : ER) (e : Env) : den Pg R (cd Tryz.f24 [1,1,1]) e (kont Pg R Tryz.f24) = (F24_j2 R (e 0) (e 8)) := (den_join Pg R 1 (cd Tryz.f24 [1,1,1]) (cd Tryz.f24 [1,1,1,1,1]) e (kont Pg R Tryz.f24) (fun e => F24_j3 R (e 0) (e 8) (e 14)) _ (by kernel_rfl) (fun e => F24_j3_ok R e) (den_join Pg R 0 (pre 1 (cd Tryz.f24 [1,1,1])) (cd Tryz.f24 [1,1,1,1,0]) e (setN (kont Pg R Tryz.f24) (fun e => F24_j3 R (e 0) (e 8) (e 14))) (fun e => F24_j4 R (e 0) (e 8) (e 14)) _ (by kernel_rfl) (fun e => F24_j4_ok R e) (by kernel_rfl)))
def F24_j8 (R : ER) (x0 x1 x3 x8 : Value) : WP :=
  pv (nilO x0) fun v36 =>
  pv (faO 5 v36) fun v37 =>
  pv (faO 0 v37) fun v38 =>
  ld1 v38 fun v39 =>
  pv (bldO [.int .i64 0, .int .i64 0] [(0,1, x1), (1,1, x3)]) fun v40 =>
  valV Pg R (Instr.buildSlice 54 1 ⟨[(0, v40)]⟩) fun v41 =>
  blt Pg R .append ⟨[54,54]⟩ 54 ⟨[false, false]⟩ ⟨[v39, v41]⟩ fun v42 =>
  pv (nilO x0) fun v43 =>
  pv (faO 5 v43) fun v44 =>
  pv (faO 0 v44) fun v45 =>
  st1 v45 v42 fun _ =>
  pv (bldO [.int .i64 0, .slice none 0 0] []) fun v46 =>
  stN 2 x8 v46 fun _ =>
  ldN 2 x8 fun v47 => R (.returned (.tuple ⟨[v47, (.bool true), (.slice none 0 0), (.slice none 0 0), (.int .i64 0)]⟩))
theorem F24_j8_ok (R : ER) (e : Env) : den Pg R (cd Tryz.f24 [1,1,0,1,0,1]) e (setN (kont Pg R Tryz.f24) (fun e => F24_j2 R (e 0) (e 8))) = (F24_j8 R (e 0) (e 1) (e 3) (e 8)) := by kernel_rfl
def F24_j9 (R : ER) (x0 x1 x2 x3 x8 : Value) : WP :=
  pv (nilO x0) fun v48 =>
  pv (faO 5 v48) fun v49 =>
  pv (faO 0 v49) fun v50 =>
  ld1 v50 fun v51 =>
  pv (lenS v51) fun v52 =>
  cal Pg R 52 ⟨[x0, x2, x3, v52]⟩ fun v53 =>
  pv (bin .neq v53 (.int .i64 0)) fun v54 =>
  cnd v54 (
   pv (bldO [.int .i64 0, .slice none 0 0] []) fun v55 =>
   stN 2 x8 v55 fun _ =>
   ldN 2 x8 fun v56 => R (.returned (.tuple ⟨[v56, (.bool false), (.slice none 0 0), (.slice none 0 0), v53]⟩))) (
   F24_j8 R x0 x1 x3 x8)
theorem F24_j9_ok (R : ER) (e : Env) : den Pg R (cd Tryz.f24 [1,1,0,1,0,0]) e (setN (setN (kont Pg R Tryz.f24) (fun e => F24_j2 R (e 0) (e 8))) (fun e => F24_j8 R (e 0) (e 1) (e 3) (e 8))) = (F24_j9 R (e 0) (e 1) (e 2) (e 3) (e 8)) := (by kernel_rfl)
def F24_j7 (R : ER) (x0 x1 x2 x3 x8 : Value) : WP :=
  F24_j9 R x0 x1 x2 x3 x8
theorem F24_j7_ok (R : ER) (e : Env) : den Pg R (cd Tryz.f24 [1,1,0,1,0]) e (setN (kont Pg R Tryz.f24) (fun e => F24_j2 R (e 0) (e 8))) = (F24_j7 R (e 0) (e 1) (e 2) (e 3) (e 8)) := (den_join Pg R 0 (cd Tryz.f24 [1,1,0,1,0]) (cd Tryz.f24 [1,1,0,1,0,1]) e (setN (kont Pg R Tryz.f24) (fun e => F24_j2 R (e 0) (e 8))) (fun e => F24_j8 R (e 0) (e 1) (e 3) (e 8)) _ (by kernel_rfl) (fun e => F24_j8_ok R e) (den_conv Pg R (pre 0 (cd Tryz.f24 [1,1,0,1,0])) (cd Tryz.f24 [1,1,0,1,0,0]) e (setN (setN (kont Pg R Tryz.f24) (fun e => F24_j2 R (e 0) (e 8))) (fun e => F24_j8 R (e 0) (e 1) (e 3) (e 8))) _ (by kernel_rfl) (F24_j9_ok R e)))
def F24_j6 (R : ER) (x0 x1 x2 x3 x8 x38 : Value) : WP :=
  cnd x38 (F24_j7 R x0 x1 x2 x3 x8) (F24_j2 R x0 x8)
theorem F24_j6_ok (R : ER) (e : Env) : den Pg R (cd Tryz.f24 [1,1,0,1]) e (setN (kont Pg R Tryz.f24) (fun e => F24_j2 R (e 0) (e 8))) = (F24_j6 R (e 0) (e 1) (e 2) (e 3) (e 8) (e 38)) := (den_if Pg R (cd Tryz.f24 [1,1,0,1]) (cd Tryz.f24 [1,1,0,1,0]) (cd Tryz.f24 [1,1,0,1,1]) e (setN (kont Pg R Tryz.f24) (fun e => F24_j2 R (e 0) (e 8))) (F24_j7 R (e 0) (e 1) (e 2) (e 3) (e 8)) _ _ (by kernel_rfl) (F24_j7_ok R e) rfl (by kernel_rfl))
def F24_j5 (R : ER) (x0 x1 x2 x3 x8 : Value) : WP :=
  pv (nilO x0) fun v57 =>
  pv (faO 0 v57) fun v58 =>
  ld1 v58 fun v59 =>
  cal Pg R 50 ⟨[v59]⟩ fun v60 =>
  pv (bin .eql v60 (.int .i64 0)) fun v61 =>
  F24_j6 R x0 x1 x2 x3 x8 v61
theorem F24_j5_ok (R : ER) (e : Env) : den Pg R (cd Tryz.f24 [1,1,0]) e (setN (kont Pg R Tryz.f24) (fun e => F24_j2 R (e 0) (e 8))) = (F24_j5 R (e 0) (e 1) (e 2) (e 3) (e 8)) := (den_join Pg R 0 (cd Tryz.f24 [1,1,0]) (cd Tryz.f24 [1,1,0,1]) e (setN (kont Pg R Tryz.f24) (fun e => F24_j2 R (e 0) (e 8))) (fun e => F24_j6 R (e 0) (e 1) (e 2) (e 3) (e 8) (e 38)) _ (by kernel_rfl) (fun e => F24_j6_ok R e) (by kernel_rfl))
def F24_j1 (R : ER) (x0 x1 x2 x3 x8 : Value) : WP :=
  F24_j5 R x0 x1 x2 x3 x8
theorem F24_j1_ok (R : ER) (e : Env) : den Pg R (cd Tryz.f24 [1,1]) e (kont Pg R Tryz.f24) = (F24_j1 R (e 0) (e 1) (e 2) (e 3) (e 8)) := (den_join Pg R 0 (cd Tryz.f24 [1,1]) (cd Tryz.f24 [1,1,1]) e (kont Pg R Tryz.f24) (fun e => F24_j2 R (e 0) (e 8)) _ (by kernel_rfl) (fun e => F24_j2_ok R e) (den_conv Pg R (pre 0 (cd Tryz.f24 [1,1])) (cd Tryz.f24 [1,1,0]) e (setN (kont Pg R Tryz.f24) (fun e => F24_j2 R (e 0) (e 8))) _ (by kernel_rfl) (F24_j5_ok R e)))
def F24_j14 (R : ER) (x0 x1 x2 x3 x8 : Value) : WP :=
  cal Pg R 49 ⟨[x0, x1]⟩ fun v62 =>
  cnd v62 (
   pv (bldO [.int .i64 0, .slice none 0 0] []) fun v63 =>
   stN 2 x8 v63 fun _ =>
   ldN 2 x8 fun v64 => R (.returned (.tuple ⟨[v64, (.bool false), (.slice none 0 0), (.slice none 0 0), (.int .i64 5)]⟩))) (
   F24_j1 R x0 x1 x2 x3 x8)
theorem F24_j14_ok (R : ER) (e : Env) : den Pg R (cd Tryz.f24 [1,0,0,1,1,1,1]) e (inB 0 (setN (kont Pg R Tryz.f24) (fun e => F24_j1 R (e 0) (e 1) (e 2) (e 3) (e 8)))) = (F24_j14 R (e 0) (e 1) (e 2) (e 3) (e 8)) := by kernel_rfl
def F24_j13 (R : ER) (x0 x1 x2 x3 x8 x22 : Value) : WP :=
  cnd x22 (pv (bldO [.int .i64 0, .slice none 0 0] []) fun v65 =>
  stN 2 x8 v65 fun _ =>
  ldN 2 x8 fun v66 => R (.returned (.tuple ⟨[v66, (.bool false), (.slice none 0 0), (.slice none 0 0), (.int .i64 34)]⟩))) (F24_j14 R x0 x1 x2 x3 x8)
theorem F24_j13_ok (R : ER) (e : Env) : den Pg R (cd Tryz.f24 [1,0,0,1,1,1]) e (inB 0 (setN (kont Pg R Tryz.f24) (fun e => F24_j1 R (e 0) (e 1) (e 2) (e 3) (e 8)))) = (F24_j13 R (e 0) (e 1) (e 2) (e 3) (e 8) (e 22)) := (den_if Pg R (cd Tryz.f24 [1,0,0,1,1,1]) (cd Tryz.f24 [1,0,0,1,1,1,0]) (cd Tryz.f24 [1,0,0,1,1,1,1]) e (inB 0 (setN (kont Pg R Tryz.f24) (fun e => F24_j1 R (e 0) (e 1) (e 2) (e 3) (e 8)))) _ (F24_j14 R (e 0) (e 1) (e 2) (e 3) (e 8)) _ (by kernel_rfl) rfl (F24_j14_ok R e) (by kernel_rfl))
def F24_j12 (R : ER) (x0 x1 x2 x3 x8 : Value) : WP :=
  cal Pg R 48 ⟨[x1, x3]⟩ fun v67 =>
  pv (unO .not v67) fun v68 =>
  F24_j13 R x0 x1 x2 x3 x8 v68
theorem F24_j12_ok (R : ER) (e : Env) : den Pg R (cd Tryz.f24 [1,0,0,1,1]) e (inB 0 (setN (kont Pg R Tryz.f24) (fun e => F24_j1 R (e 0) (e 1) (e 2) (e 3) (e 8)))) = (F24_j12 R (e 0) (e 1) (e 2) (e 3) (e 8)) := (den_join Pg R 0 (cd Tryz.f24 [1,0,0,1,1]) (cd Tryz.f24 [1,0,0,1,1,1]) e (inB 0 (setN (kont Pg R Tryz.f24) (fun e => F24_j1 R (e 0) (e 1) (e 2) (e 3) (e 8)))) (fun e => F24_j13 R (e 0) (e 1) (e 2) (e 3) (e 8) (e 22)) _ (by kernel_rfl) (fun e => F24_j13_ok R e) (by kernel_rfl))
def F24_j11 (R : ER) (x0 x1 x2 x3 x8 x18 : Value) : WP :=
  cnd x18 (pv (bldO [.int .i64 0, .slice none 0 0] []) fun v69 =>
  stN 2 x8 v69 fun _ =>
  ldN 2 x8 fun v70 => R (.returned (.tuple ⟨[v70, (.bool false), (.slice none 0 0), (.slice none 0 0), (.int .i64 35)]⟩))) (F24_j12 R x0 x1 x2 x3 x8)
theorem F24_j11_ok (R : ER) (e : Env) : den Pg R (cd Tryz.f24 [1,0,0,1]) e (inB 0 (setN (kont Pg R Tryz.f24) (fun e => F24_j1 R (e 0) (e 1) (e 2) (e 3) (e 8)))) = (F24_j11 R (e 0) (e 1) (e 2) (e 3) (e 8) (e 18)) := (den_if Pg R (cd Tryz.f24 [1,0,0,1]) (cd Tryz.f24 [1,0,0,1,0]) (cd Tryz.f24 [1,0,0,1,1]) e (inB 0 (setN (kont Pg R Tryz.f24) (fun e => F24_j1 R (e 0) (e 1) (e 2) (e 3) (e 8)))) _ (F24_j12 R (e 0) (e 1) (e 2) (e 3) (e 8)) _ (by kernel_rfl) rfl (F24_j12_ok R e) (by kernel_rfl))
def F24_j10 (R : ER) (x0 x1 x2 x3 x8 : Value) : WP :=
  pv (eqNilP x0) fun v71 =>
  F24_j11 R x0 x1 x2 x3 x8 v71
theorem F24_j10_ok (R : ER) (e : Env) : den Pg R (cd Tryz.f24 [1,0]) e (setN (kont Pg R Tryz.f24) (fun e => F24_j1 R (e 0) (e 1) (e 2) (e 3) (e 8))) = (F24_j10 R (e 0) (e 1) (e 2) (e 3) (e 8)) := (den_block Pg R (cd Tryz.f24 [1,0]) 0 (cd Tryz.f24 [1,0,0]) e (setN (kont Pg R Tryz.f24) (fun e => F24_j1 R (e 0) (e 1) (e 2) (e 3) (e 8))) _ (by kernel_rfl) (den_join Pg R 0 (cd Tryz.f24 [1,0,0]) (cd Tryz.f24 [1,0,0,1]) e (inB 0 (setN (kont Pg R Tryz.f24) (fun e => F24_j1 R (e 0) (e 1) (e 2) (e 3) (e 8)))) (fun e => F24_j11 R (e 0) (e 1) (e 2) (e 3) (e 8) (e 18)) _ (by kernel_rfl) (fun e => F24_j11_ok R e) (by kernel_rfl)))
def F24 (R : ER) (x0 x1 x2 x3 : Value) : WP :=
  al Pg 43 fun v72 =>
  F24_j10 R x0 x1 x2 x3 v72
theorem F24_den (R : ER) (x0 x1 x2 x3 : Value) : den Pg R (cd Tryz.f24 []) (argsEnv [x0, x1, x2, x3]) (kont Pg R Tryz.f24) = F24 R x0 x1 x2 x3 :=
  have h : ∀ e, den Pg R (cd Tryz.f24 []) e (kont Pg R Tryz.f24) = F24 R (e 0) (e 1) (e 2) (e 3) := fun e => (den_join Pg R 1 (cd Tryz.f24 []) (cd Tryz.f24 [1,1]) e (kont Pg R Tryz.f24) (fun e => F24_j1 R (e 0) (e 1) (e 2) (e 3) (e 8)) _ (by kernel_rfl) (fun e => F24_j1_ok R e) (den_join Pg R 0 (pre 1 (cd Tryz.f24 [])) (cd Tryz.f24 [1,0]) e (setN (kont Pg R Tryz.f24) (fun e => F24_j1 R (e 0) (e 1) (e 2) (e 3) (e 8))) (fun e => F24_j10 R (e 0) (e 1) (e 2) (e 3) (e 8)) _ (by kernel_rfl) (fun e => F24_j10_ok R e) (by kernel_rfl)))
  h _
theorem F24_calls {R : ER} {x0 x1 x2 x3 : Value} {w : World} (h : F24 R x0 x1 x2 x3 w) : Calls Pg 24 ⟨[x0, x1, x2, x3]⟩ w R :=
  calls_of_den Tryz.func24 (by kernel_rfl) (by kernel_rfl) (F24_den R x0 x1 x2 x3) h
/-! ### 25: slices_Clone -/
def F25 (R : ER) (x0 : Value) : WP :=
  pv (eqNilS x0) fun v1 =>
  cnd v1 (
   R (.returned (.slice none 0 0))) (
   valV Pg R (Instr.buildSlice 32 0 ⟨[]⟩) fun v2 =>
  blt Pg R .append ⟨[32,32]⟩ 32 ⟨[false, false]⟩ ⟨[v2, x0]⟩ fun v3 =>
  R (.returned v3))
theorem F25_den (R : ER) (x0 : Value) : den Pg R (cd Tryz.f25 []) (argsEnv [x0]) (kont Pg R Tryz.f25) = F25 R x0 :=
  have h : ∀ e, den Pg R (cd Tryz.f25 []) e (kont Pg R Tryz.f25) = F25 R (e 0) := fun e => by kernel_rfl
  h _
theorem F25_calls {R : ER} {x0 : Value} {w : World} (h : F25 R x0 w) : Calls Pg 25 ⟨[x0]⟩ w R :=
  calls_of_den Tryz.func25 (by kernel_rfl) (by kernel_rfl) (F25_den R x0) h
/-! ### 26: orpimentref25_Queue_Send -/
def F26_j5 (R : ER) (x0 x1 x4 x7 : Value) : WP :=
  drewV (
  pv (nilO x0) fun v1 =>
  pv (faO 3 v1) fun v2 =>
  ld1 v2 fun v3 =>
  ldN 2 x7 fun v4 =>
  mem fun w6 => cal Pg noR 45 ⟨[v4]⟩ fun v5 =>
  rd1 v2 v3 <|
  pv (bldO [.int .i64 0, .int .i64 0, .slice none 0 0, .int .i64 0] [(0,1, x1), (1,2, v5), (3,1, x4)]) fun v7 =>
  mem fun w9 => valV Pg noR (Instr.buildSlice 71 1 ⟨[(0, v7)]⟩) fun v8 =>
  rd1 v2 v3 <|
  mem fun w11 => blt Pg noR .append ⟨[71,71]⟩ 71 ⟨[false, false]⟩ ⟨[v3, v8]⟩ fun v10 =>
  pv (nilO x0) fun v12 =>
  pv (faO 3 v12) fun v13 =>
  mem fun w15 => st1 v13 v10 fun v14 =>
  R (.returned (.tuple ⟨[(.bool true), (.slice none 0 0), (.slice none 0 0), (.int .i64 0)]⟩)))
theorem F26_j5_ok (R : ER) (e : Env) : den Pg R (cd Tryz.f26 [1,1,1,1,1,1]) e (kont Pg R Tryz.f26) = (F26_j5 R (e 0) (e 1) (e 4) (e 7)) := by kernel_rfl
def F26_j6 (R : ER) (x0 x1 x3 x4 x7 : Value) : WP :=
  pv (nilO x0) fun v16 =>
  pv (faO 3 v16) fun v17 =>
  ld1 v17 fun v18 =>
  cal Pg R 57 ⟨[x0, x3, x4, v18]⟩ fun v19 =>
  pv (bin .neq v19 (.int .i64 0)) fun v20 =>
  cnd v20 (
   R (.returned (.tuple ⟨[(.bool false), (.slice none 0 0), (.slice none 0 0), v19]⟩))) (
   F26_j5 R x0 x1 x4 x7)
theorem F26_j6_ok (R : ER) (e : Env) : den Pg R (cd Tryz.f26 [1,1,1,1,1,0]) e (setN (kont Pg R Tryz.f26) (fun e => F26_j5 R (e 0) (e 1) (e 4) (e 7))) = (F26_j6 R (e 0) (e 1) (e 3) (e 4) (e 7)) := (by kernel_rfl)
def F26_j4 (R : ER) (x0 x1 x3 x4 x7 : Value) : WP :=
  F26_j6 R x0 x1 x3 x4 x7
theorem F26_j4_ok (R : ER) (e : Env) : den Pg R (cd Tryz.f26 [1,1,1,1,1]) e (kont Pg R Tryz.f26) = (F26_j4 R (e 0) (e 1) (e 3) (e 4) (e 7)) := (den_join Pg R 0 (cd Tryz.f26 [1,1,1,1,1]) (cd Tryz.f26 [1,1,1,1,1,1]) e (kont Pg R Tryz.f26) (fun e => F26_j5 R (e 0) (e 1) (e 4) (e 7)) _ (by kernel_rfl) (fun e => F26_j5_ok R e) (den_conv Pg R (pre 0 (cd Tryz.f26 [1,1,1,1,1])) (cd Tryz.f26 [1,1,1,1,1,0]) e (setN (kont Pg R Tryz.f26) (fun e => F26_j5 R (e 0) (e 1) (e 4) (e 7))) _ (by kernel_rfl) (F26_j6_ok R e)))
def F26_j9 (R : ER) (x0 x7 : Value) : WP :=
  ldN 2 x7 fun v21 =>
  cal Pg R 45 ⟨[v21]⟩ fun v22 =>
  cal Pg R 56 ⟨[x0, v22]⟩ fun v23 =>
  pv (extO 0 v23) fun v24 =>
  pv (extO 1 v23) fun v25 =>
  R (.returned (.tuple ⟨[(.bool false), v24, v25, (.int .i64 0)]⟩))
theorem F26_j9_ok (R : ER) (e : Env) : den Pg R (cd Tryz.f26 [1,1,1,1,0,1,0]) e (setN (kont Pg R Tryz.f26) (fun e => F26_j4 R (e 0) (e 1) (e 3) (e 4) (e 7))) = (F26_j9 R (e 0) (e 7)) := by kernel_rfl
def F26_j8 (R : ER) (x0 x1 x3 x4 x7 x61 : Value) : WP :=
  cnd x61 (F26_j9 R x0 x7) (F26_j4 R x0 x1 x3 x4 x7)
theorem F26_j8_ok (R : ER) (e : Env) : den Pg R (cd Tryz.f26 [1,1,1,1,0,1]) e (setN (kont Pg R Tryz.f26) (fun e => F26_j4 R (e 0) (e 1) (e 3) (e 4) (e 7))) = (F26_j8 R (e 0) (e 1) (e 3) (e 4) (e 7) (e 61)) := (den_if Pg R (cd Tryz.f26 [1,1,1,1,0,1]) (cd Tryz.f26 [1,1,1,1,0,1,0]) (cd Tryz.f26 [1,1,1,1,0,1,1]) e (setN (kont Pg R Tryz.f26) (fun e => F26_j4 R (e 0) (e 1) (e 3) (e 4) (e 7))) (F26_j9 R (e 0) (e 7)) _ _ (by kernel_rfl) (F26_j9_ok R e) rfl (by kernel_rfl))
def F26_j7 (R : ER) (x0 x1 x3 x4 x7 : Value) : WP :=
  drewV (
  pv (nilO x0) fun v26 =>
  pv (faO 2 v26) fun v27 =>
  ld1 v27 fun v28 =>
  pv (lenS v28) fun v29 =>
  pv (nilO x0) fun v30 =>
  pv (faO 0 v30) fun v31 =>
  ld1 v31 fun v32 =>
  pv (bin .lss v29 v32) fun v33 =>
  F26_j8 R x0 x1 x3 x4 x7 v33)
theorem F26_j7_ok (R : ER) (e : Env) : den Pg R (cd Tryz.f26 [1,1,1,1,0]) e (setN (kont Pg R Tryz.f26) (fun e => F26_j4 R (e 0) (e 1) (e 3) (e 4) (e 7))) = (F26_j7 R (e 0) (e 1) (e 3) (e 4) (e 7)) := (den_join Pg R 0 (cd Tryz.f26 [1,1,1,1,0]) (cd Tryz.f26 [1,1,1,1,0,1]) e (setN (kont Pg R Tryz.f26) (fun e => F26_j4 R (e 0) (e 1) (e 3) (e 4) (e 7))) (fun e => F26_j8 R (e 0) (e 1) (e 3) (e 4) (e 7) (e 61)) _ (by kernel_rfl) (fun e => F26_j8_ok R e) (by kernel_rfl))
def F26_j3 (R : ER) (x0 x1 x3 x4 x7 : Value) : WP :=
  F26_j7 R x0 x1 x3 x4 x7
theorem F26_j3_ok (R : ER) (e : Env) : den Pg R (cd Tryz.f26 [1,1,1,1]) e (kont Pg R Tryz.f26) = (F26_j3 R (e 0) (e 1) (e 3) (e 4) (e 7)) := (den_join Pg R 0 (cd Tryz.f26 [1,1,1,1]) (cd Tryz.f26 [1,1,1,1,1]) e (kont Pg R Tryz.f26) (fun e => F26_j4 R (e 0) (e 1) (e 3) (e 4) (e 7)) _ (by kernel_rfl) (fun e => F26_j4_ok R e) (den_conv Pg R (pre 0 (cd Tryz.f26 [1,1,1,1])) (cd Tryz.f26 [1,1,1,1,0]) e (setN (kont Pg R Tryz.f26) (fun e => F26_j4 R (e 0) (e 1) (e 3) (e 4) (e 7))) _ (by kernel_rfl) (F26_j7_ok R e)))
def F26_j2 (R : ER) (x0 x1 x3 x4 x7 : Value) : WP :=
  cal Pg R 55 ⟨[x0, x1]⟩ fun v34 =>
  cnd v34 (
   R (.returned (.tuple ⟨[(.bool false), (.slice none 0 0), (.slice none 0 0), (.int .i64 5)]⟩))) (
   F26_j3 R x0 x1 x3 x4 x7)
theorem F26_j2_ok (R : ER) (e : Env) : den Pg R (cd Tryz.f26 [1,1,1]) e (kont Pg R Tryz.f26) = (F26_j2 R (e 0) (e 1) (e 3) (e 4) (e 7)) := (den_join Pg R 0 (cd Tryz.f26 [1,1,1]) (cd Tryz.f26 [1,1,1,1]) e (kont Pg R Tryz.f26) (fun e => F26_j3 R (e 0) (e 1) (e 3) (e 4) (e 7)) _ (by kernel_rfl) (fun e => F26_j3_ok R e) (by kernel_rfl))
def F26_j1 (R : ER) (x0 x1 x3 x4 x7 : Value) : WP :=
  drewV (
  pv (faO 1 x7) fun v35 =>
  ld1 v35 fun v36 =>
  pv (lenS v36) fun v37 =>
  pv (nilO x0) fun v38 =>
  pv (faO 1 v38) fun v39 =>
  ld1 v39 fun v40 =>
  pv (bin .gtr v37 v40) fun v41 =>
  cnd v41 (
   R (.returned (.tuple ⟨[(.bool false), (.slice none 0 0), (.slice none 0 0), (.int .i64 20)]⟩))) (
   F26_j2 R x0 x1 x3 x4 x7))
theorem F26_j1_ok (R : ER) (e : Env) : den Pg R (cd Tryz.f26 [1,1]) e (kont Pg R Tryz.f26) = (F26_j1 R (e 0) (e 1) (e 3) (e 4) (e 7)) := (den_join Pg R 0 (cd Tryz.f26 [1,1]) (cd Tryz.f26 [1,1,1]) e (kont Pg R Tryz.f26) (fun e => F26_j2 R (e 0) (e 1) (e 3) (e 4) (e 7)) _ (by kernel_rfl) (fun e => F26_j2_ok R e) (by kernel_rfl))
def F26_j10 (R : ER) (x0 x1 x3 x4 x7 : Value) : WP :=
  pv (bin .lss x1 (.int .i64 0)) fun v42 =>
  gd v42 false (pv (some x1)) fun v43 =>
  gd v42 false (pv (bin .geq v43 (.int .i64 256))) fun v44 =>
  pv (pickO v42 (.bool true) v44) fun v45 =>
  gd v45 false (pv (faO 0 x7)) fun v46 =>
  gd v45 false (ld1 v46) fun v47 =>
  gd v45 false (pv (bin .lss v47 (.int .i64 0))) fun v48 =>
  pv (pickO v45 (.bool true) v48) fun v49 =>
  gd v49 false (pv (faO 0 x7)) fun v50 =>
  gd v49 false (ld1 v50) fun v51 =>
  gd v49 false (pv (bin .gtr v51 (.int .i64 31))) fun v52 =>
  pv (pickO v49 (.bool true) v52) fun v53 =>
  gd v53 false (pv (some x4)) fun v54 =>
  gd v53 false (pv (bin .lss v54 (.int .i64 0))) fun v55 =>
  pv (pickO v53 (.bool true) v55) fun v56 =>
  gd v56 false (pv (some x4)) fun v57 =>
  gd v56 false (pv (bin .gtr v57 (.int .i64 1099511627776))) fun v58 =>
  pv (pickO v56 (.bool true) v58) fun v59 =>
  cnd v59 (
   R (.returned (.tuple ⟨[(.bool false), (.slice none 0 0), (.slice none 0 0), (.int .i64 34)]⟩))) (
   F26_j1 R x0 x1 x3 x4 x7)
theorem F26_j10_ok (R : ER) (e : Env) : den Pg R (cd Tryz.f26 [1,0]) e (setN (kont Pg R Tryz.f26) (fun e => F26_j1 R (e 0) (e 1) (e 3) (e 4) (e 7))) = (F26_j10 R (e 0) (e 1) (e 3) (e 4) (e 7)) := (by kernel_rfl)
def F26 (R : ER) (x0 x1 x2 x3 x4 : Value) : WP :=
  bx 49 x2 fun v60 =>
  F26_j10 R x0 x1 x3 x4 v60
theorem F26_den (R : ER) (x0 x1 x2 x3 x4 : Value) : den Pg R (cd Tryz.f26 []) (argsEnv [x0, x1, x2, x3, x4]) (kont Pg R Tryz.f26) = F26 R x0 x1 x2 x3 x4 :=
  have h : ∀ e, den Pg R (cd Tryz.f26 []) e (kont Pg R Tryz.f26) = F26 R (e 0) (e 1) (e 2) (e 3) (e 4) := fun e => (den_join Pg R 1 (cd Tryz.f26 []) (cd Tryz.f26 [1,1]) e (kont Pg R Tryz.f26) (fun e => F26_j1 R (e 0) (e 1) (e 3) (e 4) (e 7)) _ (by kernel_rfl) (fun e => F26_j1_ok R e) (den_join Pg R 0 (pre 1 (cd Tryz.f26 [])) (cd Tryz.f26 [1,0]) e (setN (kont Pg R Tryz.f26) (fun e => F26_j1 R (e 0) (e 1) (e 3) (e 4) (e 7))) (fun e => F26_j10 R (e 0) (e 1) (e 3) (e 4) (e 7)) _ (by kernel_rfl) (fun e => F26_j10_ok R e) (by kernel_rfl)))
  h _
theorem F26_calls {R : ER} {x0 x1 x2 x3 x4 : Value} {w : World} (h : F26 R x0 x1 x2 x3 x4 w) : Calls Pg 26 ⟨[x0, x1, x2, x3, x4]⟩ w R :=
  calls_of_den Tryz.func26 (by kernel_rfl) (by kernel_rfl) (F26_den R x0 x1 x2 x3 x4) h
/-! ### 27: orpimentlaw25_ends -/
def F27 (R : ER) (x0 x1 : Value) : WP :=
  cal Pg R 58 ⟨[x0, x1, (.func (.func 59) ⟨[]⟩ ⟨[]⟩)]⟩ fun v1 =>
  R (.returned v1)
theorem F27_den (R : ER) (x0 x1 : Value) : den Pg R (cd Tryz.f27 []) (argsEnv [x0, x1]) (kont Pg R Tryz.f27) = F27 R x0 x1 :=
  have h : ∀ e, den Pg R (cd Tryz.f27 []) e (kont Pg R Tryz.f27) = F27 R (e 0) (e 1) := fun e => by kernel_rfl
  h _
theorem F27_calls {R : ER} {x0 x1 : Value} {w : World} (h : F27 R x0 x1 w) : Calls Pg 27 ⟨[x0, x1]⟩ w R :=
  calls_of_den Tryz.func27 (by kernel_rfl) (by kernel_rfl) (F27_den R x0 x1) h
/-! ### 28: orpimentlaw25_notices -/
def F28 (R : ER) (x0 x1 : Value) : WP :=
  cal Pg R 60 ⟨[x0, x1, (.func (.func 61) ⟨[]⟩ ⟨[]⟩)]⟩ fun v1 =>
  R (.returned v1)
theorem F28_den (R : ER) (x0 x1 : Value) : den Pg R (cd Tryz.f28 []) (argsEnv [x0, x1]) (kont Pg R Tryz.f28) = F28 R x0 x1 :=
  have h : ∀ e, den Pg R (cd Tryz.f28 []) e (kont Pg R Tryz.f28) = F28 R (e 0) (e 1) := fun e => by kernel_rfl
  h _
theorem F28_calls {R : ER} {x0 x1 : Value} {w : World} (h : F28 R x0 x1 w) : Calls Pg 28 ⟨[x0, x1]⟩ w R :=
  calls_of_den Tryz.func28 (by kernel_rfl) (by kernel_rfl) (F28_den R x0 x1) h
/-! ### 29: orpimentref25_Queue_Receive -/
def F29_j4 (R : ER) (x0 x1 x3 x8 : Value) : WP :=
  pv (nilO x0) fun v1 =>
  pv (faO 4 v1) fun v2 =>
  ld1 v2 fun v3 =>
  pv (bldO [.int .i64 0, .int .i64 0, .slice none 0 0, .int .i64 0] [(0,1, x1), (3,1, x3)]) fun v4 =>
  valV Pg R (Instr.buildSlice 71 1 ⟨[(0, v4)]⟩) fun v5 =>
  blt Pg R .append ⟨[71,71]⟩ 71 ⟨[false, false]⟩ ⟨[v3, v5]⟩ fun v6 =>
  pv (nilO x0) fun v7 =>
  pv (faO 4 v7) fun v8 =>
  st1 v8 v6 fun _ =>
  pv (bldO [.int .i64 0, .slice none 0 0] []) fun v9 =>
  stN 2 x8 v9 fun _ =>
  ldN 2 x8 fun v10 => R (.returned (.tuple ⟨[v10, (.bool true), (.slice none 0 0), (.slice none 0 0), (.int .i64 0)]⟩))
theorem F29_j4_ok (R : ER) (e : Env) : den Pg R (cd Tryz.f29 [1,1,1,1,1]) e (kont Pg R Tryz.f29) = (F29_j4 R (e 0) (e 1) (e 3) (e 8)) := by kernel_rfl
def F29_j5 (R : ER) (x0 x1 x2 x3 x8 : Value) : WP :=
  pv (nilO x0) fun v11 =>
  pv (faO 4 v11) fun v12 =>
  ld1 v12 fun v13 =>
  cal Pg R 57 ⟨[x0, x2, x3, v13]⟩ fun v14 =>
  pv (bin .neq v14 (.int .i64 0)) fun v15 =>
  cnd v15 (
   pv (bldO [.int .i64 0, .slice none 0 0] []) fun v16 =>
   stN 2 x8 v16 fun _ =>
   ldN 2 x8 fun v17 => R (.returned (.tuple ⟨[v17, (.bool false), (.slice none 0 0), (.slice none 0 0), v14]⟩))) (
   F29_j4 R x0 x1 x3 x8)
theorem F29_j5_ok (R : ER) (e : Env) : den Pg R (cd Tryz.f29 [1,1,1,1,0]) e (setN (kont Pg R Tryz.f29) (fun e => F29_j4 R (e 0) (e 1) (e 3) (e 8))) = (F29_j5 R (e 0) (e 1) (e 2) (e 3) (e 8)) := (by kernel_rfl)
def F29_j3 (R : ER) (x0 x1 x2 x3 x8 : Value) : WP :=
  F29_j5 R x0 x1 x2 x3 x8
theorem F29_j3_ok (R : ER) (e : Env) : den Pg R (cd Tryz.f29 [1,1,1,1]) e (kont Pg R Tryz.f29) = (F29_j3 R (e 0) (e 1) (e 2) (e 3) (e 8)) := (den_join Pg R 0 (cd Tryz.f29 [1,1,1,1]) (cd Tryz.f29 [1,1,1,1,1]) e (kont Pg R Tryz.f29) (fun e => F29_j4 R (e 0) (e 1) (e 3) (e 8)) _ (by kernel_rfl) (fun e => F29_j4_ok R e) (den_conv Pg R (pre 0 (cd Tryz.f29 [1,1,1,1])) (cd Tryz.f29 [1,1,1,1,0]) e (setN (kont Pg R Tryz.f29) (fun e => F29_j4 R (e 0) (e 1) (e 3) (e 8))) _ (by kernel_rfl) (F29_j5_ok R e)))
def F29_j9 (R : ER) (x0 x8 x13 : Value) : WP :=
  pv (nilO x0) fun v18 =>
  pv (faO 3 v18) fun v19 =>
  ld1 v19 fun v20 =>
  pv (ixS 4 v20 (.int .i64 0)) fun v21 =>
  ldN 4 v21 fun v22 =>
  al Pg 124 fun v23 =>
  stN 4 v23 v22 fun _ =>
  pv (nilO x0) fun v24 =>
  pv (faO 3 v24) fun v25 =>
  ld1 v25 fun v26 =>
  pv (slS 4 v26 (some (.int .i64 1)) none) fun v27 =>
  pv (nilO x0) fun v28 =>
  pv (faO 3 v28) fun v29 =>
  st1 v29 v27 fun _ =>
  pv (faO 1 v23) fun v30 =>
  ldN 2 v30 fun v31 =>
  cal Pg R 56 ⟨[x0, v31]⟩ fun v32 =>
  pv (extO 0 v32) fun v33 =>
  pv (extO 1 v32) fun v34 =>
  drewV (
  ldN 2 x13 fun v35 =>
  pv (faO 0 v23) fun v36 =>
  ld1 v36 fun v37 =>
  pv (bldO [.int .i64 0, .int .i64 0, .slice none 0 0, .int .i64 0] [(0,1, v37)]) fun v38 =>
  allW [
  (mem fun w40 => valV Pg noR (Instr.buildSlice 77 1 ⟨[(0, v38)]⟩) fun v39 =>
   rdN 2 x13 v35 <|
   mem fun w42 => stN 2 x8 v35 fun v41 =>
   rd1 v36 v37 <|
   ldN 2 x8 fun v43 => R (.returned (.tuple ⟨[v43, (.bool false), v39, v34, (.int .i64 0)]⟩))),
  (mem fun w45 => stN 2 x8 v35 fun v44 =>
   rd1 v36 v37 <|
   mem fun w47 => valV Pg noR (Instr.buildSlice 77 1 ⟨[(0, v38)]⟩) fun v46 =>
   rdN 2 x13 v35 <|
   ldN 2 x8 fun v48 => R (.returned (.tuple ⟨[v48, (.bool false), v46, v34, (.int .i64 0)]⟩)))])
theorem F29_j9_ok (R : ER) (e : Env) : den Pg R (cd Tryz.f29 [1,1,1,0,1,0,1,1,1]) e (setN (kont Pg R Tryz.f29) (fun e => F29_j3 R (e 0) (e 1) (e 2) (e 3) (e 8))) = (F29_j9 R (e 0) (e 8) (e 13)) := by kernel_rfl
def F29_j8 (R : ER) (x0 x8 : Value) : WP :=
  pv (nilO x0) fun v49 =>
  pv (faO 2 v49) fun v50 =>
  ld1 v50 fun v51 =>
  pv (ixS 2 v51 (.int .i64 0)) fun v52 =>
  ldN 2 v52 fun v53 =>
  al Pg 49 fun v54 =>
  stN 2 v54 v53 fun _ =>
  valV Pg R (Instr.buildSlice 48 0 ⟨[]⟩) fun v55 =>
  pv (nilO x0) fun v56 =>
  pv (faO 2 v56) fun v57 =>
  ld1 v57 fun v58 =>
  pv (slS 2 v58 (some (.int .i64 1)) none) fun v59 =>
  blt Pg R .append ⟨[48,48]⟩ 48 ⟨[false, false]⟩ ⟨[v55, v59]⟩ fun v60 =>
  pv (nilO x0) fun v61 =>
  pv (faO 2 v61) fun v62 =>
  st1 v62 v60 fun _ =>
  pv (nilO x0) fun v63 =>
  pv (faO 3 v63) fun v64 =>
  ld1 v64 fun v65 =>
  pv (lenS v65) fun v66 =>
  pv (bin .eql v66 (.int .i64 0)) fun v67 =>
  cnd v67 (
   ldN 2 v54 fun v68 =>
   stN 2 x8 v68 fun _ =>
   ldN 2 x8 fun v69 => R (.returned (.tuple ⟨[v69, (.bool false), (.slice none 0 0), (.slice none 0 0), (.int .i64 0)]⟩))) (
   F29_j9 R x0 x8 v54)
theorem F29_j8_ok (R : ER) (e : Env) : den Pg R (cd Tryz.f29 [1,1,1,0,1,0]) e (setN (kont Pg R Tryz.f29) (fun e => F29_j3 R (e 0) (e 1) (e 2) (e 3) (e 8))) = (F29_j8 R (e 0) (e 8)) := (den_join Pg R 2 (cd Tryz.f29 [1,1,1,0,1,0]) (cd Tryz.f29 [1,1,1,0,1,0,1,1,1]) e (setN (kont Pg R Tryz.f29) (fun e => F29_j3 R (e 0) (e 1) (e 2) (e 3) (e 8))) (fun e => F29_j9 R (e 0) (e 8) (e 13)) _ (by kernel_rfl) (fun e => F29_j9_ok R e) (by kernel_rfl))
def F29_j7 (R : ER) (x0 x1 x2 x3 x8 x42 : Value) : WP :=
  cnd x42 (F29_j8 R x0 x8) (F29_j3 R x0 x1 x2 x3 x8)
theorem F29_j7_ok (R : ER) (e : Env) : den Pg R (cd Tryz.f29 [1,1,1,0,1]) e (setN (kont Pg R Tryz.f29) (fun e => F29_j3 R (e 0) (e 1) (e 2) (e 3) (e 8))) = (F29_j7 R (e 0) (e 1) (e 2) (e 3) (e 8) (e 42)) := (den_if Pg R (cd Tryz.f29 [1,1,1,0,1]) (cd Tryz.f29 [1,1,1,0,1,0]) (cd Tryz.f29 [1,1,1,0,1,1]) e (setN (kont Pg R Tryz.f29) (fun e => F29_j3 R (e 0) (e 1) (e 2) (e 3) (e 8))) (F29_j8 R (e 0) (e 8)) _ _ (by kernel_rfl) (F29_j8_ok R e) rfl (by kernel_rfl))
def F29_j6 (R : ER) (x0 x1 x2 x3 x8 : Value) : WP :=
  pv (nilO x0) fun v70 =>
  pv (faO 2 v70) fun v71 =>
  ld1 v71 fun v72 =>
  pv (lenS v72) fun v73 =>
  pv (bin .gtr v73 (.int .i64 0)) fun v74 =>
  F29_j7 R x0 x1 x2 x3 x8 v74
theorem F29_j6_ok (R : ER) (e : Env) : den Pg R (cd Tryz.f29 [1,1,1,0]) e (setN (kont Pg R Tryz.f29) (fun e => F29_j3 R (e 0) (e 1) (e 2) (e 3) (e 8))) = (F29_j6 R (e 0) (e 1) (e 2) (e 3) (e 8)) := (den_join Pg R 0 (cd Tryz.f29 [1,1,1,0]) (cd Tryz.f29 [1,1,1,0,1]) e (setN (kont Pg R Tryz.f29) (fun e => F29_j3 R (e 0) (e 1) (e 2) (e 3) (e 8))) (fun e => F29_j7 R (e 0) (e 1) (e 2) (e 3) (e 8) (e 42)) _ (by kernel_rfl) (fun e => F29_j7_ok R e) (by kernel_rfl))
def F29_j2 (R : ER) (x0 x1 x2 x3 x8 : Value) : WP :=
  F29_j6 R x0 x1 x2 x3 x8
theorem F29_j2_ok (R : ER) (e : Env) : den Pg R (cd Tryz.f29 [1,1,1]) e (kont Pg R Tryz.f29) = (F29_j2 R (e 0) (e 1) (e 2) (e 3) (e 8)) := (den_join Pg R 0 (cd Tryz.f29 [1,1,1]) (cd Tryz.f29 [1,1,1,1]) e (kont Pg R Tryz.f29) (fun e => F29_j3 R (e 0) (e 1) (e 2) (e 3) (e 8)) _ (by kernel_rfl) (fun e => F29_j3_ok R e) (den_conv Pg R (pre 0 (cd Tryz.f29 [1,1,1])) (cd Tryz.f29 [1,1,1,0]) e (setN (kont Pg R Tryz.f29) (fun e => F29_j3 R (e 0) (e 1) (e 2) (e 3) (e 8))) _ (by kernel_rfl) (F29_j6_ok R e)))
def F29_j1 (R : ER) (x0 x1 x2 x3 x8 : Value) : WP :=
  cal Pg R 55 ⟨[x0, x1]⟩ fun v75 =>
  cnd v75 (
   pv (bldO [.int .i64 0, .slice none 0 0] []) fun v76 =>
   stN 2 x8 v76 fun _ =>
   ldN 2 x8 fun v77 => R (.returned (.tuple ⟨[v77, (.bool false), (.slice none 0 0), (.slice none 0 0), (.int .i64 5)]⟩))) (
   F29_j2 R x0 x1 x2 x3 x8)
theorem F29_j1_ok (R : ER) (e : Env) : den Pg R (cd Tryz.f29 [1,1]) e (kont Pg R Tryz.f29) = (F29_j1 R (e 0) (e 1) (e 2) (e 3) (e 8)) := (den_join Pg R 0 (cd Tryz.f29 [1,1]) (cd Tryz.f29 [1,1,1]) e (kont Pg R Tryz.f29) (fun e => F29_j2 R (e 0) (e 1) (e 2) (e 3) (e 8)) _ (by kernel_rfl) (fun e => F29_j2_ok R e) (by kernel_rfl))
def F29_j10 (R : ER) (x0 x1 x2 x3 x8 : Value) : WP :=
  pv (bin .lss x1 (.int .i64 0)) fun v78 =>
  gd v78 false (pv (some x1)) fun v79 =>
  gd v78 false (pv (bin .geq v79 (.int .i64 256))) fun v80 =>
  pv (pickO v78 (.bool true) v80) fun v81 =>
  gd v81 false (pv (some x3)) fun v82 =>
  gd v81 false (pv (bin .lss v82 (.int .i64 0))) fun v83 =>
  pv (pickO v81 (.bool true) v83) fun v84 =>
  gd v84 false (pv (some x3)) fun v85 =>
  gd v84 false (pv (bin .gtr v85 (.int .i64 1099511627776))) fun v86 =>
  pv (pickO v84 (.bool true) v86) fun v87 =>
  cnd v87 (
   pv (bldO [.int .i64 0, .slice none 0 0] []) fun v88 =>
   stN 2 x8 v88 fun _ =>
   ldN 2 x8 fun v89 => R (.returned (.tuple ⟨[v89, (.bool false), (.slice none 0 0), (.slice none 0 0), (.int .i64 34)]⟩))) (
   F29_j1 R x0 x1 x2 x3 x8)
theorem F29_j10_ok (R : ER) (e : Env) : den Pg R (cd Tryz.f29 [1,0]) e (setN (kont Pg R Tryz.f29) (fun e => F29_j1 R (e 0) (e 1) (e 2) (e 3) (e 8))) = (F29_j10 R (e 0) (e 1) (e 2) (e 3) (e 8)) := (by kernel_rfl)
def F29 (R : ER) (x0 x1 x2 x3 : Value) : WP :=
  al Pg 49 fun v90 =>
  F29_j10 R x0 x1 x2 x3 v90
theorem F29_den (R : ER) (x0 x1 x2 x3 : Value) : den Pg R (cd Tryz.f29 []) (argsEnv [x0, x1, x2, x3]) (kont Pg R Tryz.f29) = F29 R x0 x1 x2 x3 :=
  have h : ∀ e, den Pg R (cd Tryz.f29 []) e (kont Pg R Tryz.f29) = F29 R (e 0) (e 1) (e 2) (e 3) := fun e => (den_join Pg R 1 (cd Tryz.f29 []) (cd Tryz.f29 [1,1]) e (kont Pg R Tryz.f29) (fun e => F29_j1 R (e 0) (e 1) (e 2) (e 3) (e 8)) _ (by kernel_rfl) (fun e => F29_j1_ok R e) (den_join Pg R 0 (pre 1 (cd Tryz.f29 [])) (cd Tryz.f29 [1,0]) e (setN (kont Pg R Tryz.f29) (fun e => F29_j1 R (e 0) (e 1) (e 2) (e 3) (e 8))) (fun e => F29_j10 R (e 0) (e 1) (e 2) (e 3) (e 8)) _ (by kernel_rfl) (fun e => F29_j10_ok R e) (by kernel_rfl)))
  h _
theorem F29_calls {R : ER} {x0 x1 x2 x3 : Value} {w : World} (h : F29 R x0 x1 x2 x3 w) : Calls Pg 29 ⟨[x0, x1, x2, x3]⟩ w R :=
  calls_of_den Tryz.func29 (by kernel_rfl) (by kernel_rfl) (F29_den R x0 x1 x2 x3) h
/-! ### 30: mqueue_Queue_Cancel -/
def F30 (R : ER) (x0 x1 : Value) : WP :=
  pv (eqNilP x0) fun v1 =>
  cnd v1 (
   R (.returned (.tuple ⟨[(.slice none 0 0), (.slice none 0 0), (.int .i64 35)]⟩))) (
   pv (nilO x0) fun v2 =>
   pv (faO 6 v2) fun v3 =>
   cal Pg R 62 ⟨[v3, x1]⟩ fun v4 =>
   pv (unO .not v4) fun v5 =>
   gd v5 true (pv (some x0)) fun v6 =>
   gd v5 true (pv (nilO v6)) fun v7 =>
   gd v5 true (pv (faO 5 v7)) fun v8 =>
   gd v5 true (pv (some x1)) fun v9 =>
   gd v5 true (cal Pg R 63 ⟨[v8, v9]⟩) fun v10 =>
   gd v5 true (pv (unO .not v10)) fun v11 =>
   pv (pickO v5 v11 (.bool false)) fun v12 =>
   cnd v12 (
    R (.returned (.tuple ⟨[(.slice none 0 0), (.slice none 0 0), (.int .i64 22)]⟩))) (
    pv (bldO [.int .i64 0, .int .i64 0, .slice none 0 0, .int .i64 0] [(0,1, x1), (3,1, (.int .i64 13))]) fun v13 =>
  valV Pg R (Instr.buildSlice 65 1 ⟨[(0, v13)]⟩) fun v14 =>
  R (.returned (.tuple ⟨[v14, (.slice none 0 0), (.int .i64 0)]⟩))))
theorem F30_den (R : ER) (x0 x1 : Value) : den Pg R (cd Tryz.f30 []) (argsEnv [x0, x1]) (kont Pg R Tryz.f30) = F30 R x0 x1 :=
  have h : ∀ e, den Pg R (cd Tryz.f30 []) e (kont Pg R Tryz.f30) = F30 R (e 0) (e 1) := fun e => (by kernel_rfl)
  h _
theorem F30_calls {R : ER} {x0 x1 : Value} {w : World} (h : F30 R x0 x1 w) : Calls Pg 30 ⟨[x0, x1]⟩ w R :=
  calls_of_den Tryz.func30 (by kernel_rfl) (by kernel_rfl) (F30_den R x0 x1) h
/-! ### 31: orpimentref25_Queue_Cancel -/
def F31_j1 (R : ER) (x0 x1 : Value) : WP :=
  pv (nilO x0) fun v1 =>
  pv (faO 4 v1) fun v2 =>
  ld1 v2 fun v3 =>
  cal Pg R 64 ⟨[v3, x1]⟩ fun v4 =>
  pv (bin .geq v4 (.int .i64 0)) fun v5 =>
  cnd v5 (
   pv (nilO x0) fun v6 =>
   pv (faO 4 v6) fun v7 =>
   ld1 v7 fun v8 =>
   cal Pg R 65 ⟨[v8, v4]⟩ fun v9 =>
   pv (nilO x0) fun v10 =>
   pv (faO 4 v10) fun v11 =>
   st1 v11 v9 fun _ =>
   pv (bldO [.int .i64 0, .int .i64 0, .slice none 0 0, .int .i64 0] [(0,1, x1), (3,1, (.int .i64 13))]) fun v12 =>
   valV Pg R (Instr.buildSlice 77 1 ⟨[(0, v12)]⟩) fun v13 =>
   R (.returned (.tuple ⟨[v13, (.slice none 0 0), (.int .i64 0)]⟩))) (
   R (.returned (.tuple ⟨[(.slice none 0 0), (.slice none 0 0), (.int .i64 22)]⟩)))
theorem F31_j1_ok (R : ER) (e : Env) : den Pg R (cd Tryz.f31 [1,1]) e (kont Pg R Tryz.f31) = (F31_j1 R (e 0) (e 1)) := (by kernel_rfl)
def F31_j4 (R : ER) (x0 x1 x7 : Value) : WP :=
  pv (nilO x0) fun v14 =>
  pv (faO 3 v14) fun v15 =>
  ld1 v15 fun v16 =>
  cal Pg R 65 ⟨[v16, x7]⟩ fun v17 =>
  pv (nilO x0) fun v18 =>
  pv (faO 3 v18) fun v19 =>
  st1 v19 v17 fun _ =>
  pv (bldO [.int .i64 0, .int .i64 0, .slice none 0 0, .int .i64 0] [(0,1, x1), (3,1, (.int .i64 13))]) fun v20 =>
  valV Pg R (Instr.buildSlice 77 1 ⟨[(0, v20)]⟩) fun v21 =>
  R (.returned (.tuple ⟨[v21, (.slice none 0 0), (.int .i64 0)]⟩))
theorem F31_j4_ok (R : ER) (e : Env) : den Pg R (cd Tryz.f31 [1,0,1,1,0]) e (setN (kont Pg R Tryz.f31) (fun e => F31_j1 R (e 0) (e 1))) = (F31_j4 R (e 0) (e 1) (e 7)) := by kernel_rfl
def F31_j3 (R : ER) (x0 x1 x7 x16 : Value) : WP :=
  cnd x16 (F31_j4 R x0 x1 x7) (F31_j1 R x0 x1)
theorem F31_j3_ok (R : ER) (e : Env) : den Pg R (cd Tryz.f31 [1,0,1,1]) e (setN (kont Pg R Tryz.f31) (fun e => F31_j1 R (e 0) (e 1))) = (F31_j3 R (e 0) (e 1) (e 7) (e 16)) := (den_if Pg R (cd Tryz.f31 [1,0,1,1]) (cd Tryz.f31 [1,0,1,1,0]) (cd Tryz.f31 [1,0,1,1,1]) e (setN (kont Pg R Tryz.f31) (fun e => F31_j1 R (e 0) (e 1))) (F31_j4 R (e 0) (e 1) (e 7)) _ _ (by kernel_rfl) (F31_j4_ok R e) rfl (by kernel_rfl))
def F31_j2 (R : ER) (x0 x1 : Value) : WP :=
  pv (nilO x0) fun v22 =>
  pv (faO 3 v22) fun v23 =>
  ld1 v23 fun v24 =>
  cal Pg R 64 ⟨[v24, x1]⟩ fun v25 =>
  pv (bin .geq v25 (.int .i64 0)) fun v26 =>
  F31_j3 R x0 x1 v25 v26
theorem F31_j2_ok (R : ER) (e : Env) : den Pg R (cd Tryz.f31 [1,0]) e (setN (kont Pg R Tryz.f31) (fun e => F31_j1 R (e 0) (e 1))) = (F31_j2 R (e 0) (e 1)) := (den_join Pg R 1 (cd Tryz.f31 [1,0]) (cd Tryz.f31 [1,0,1,1]) e (setN (kont Pg R Tryz.f31) (fun e => F31_j1 R (e 0) (e 1))) (fun e => F31_j3 R (e 0) (e 1) (e 7) (e 16)) _ (by kernel_rfl) (fun e => F31_j3_ok R e) (by kernel_rfl))
def F31 (R : ER) (x0 x1 : Value) : WP :=
  F31_j2 R x0 x1
theorem F31_den (R : ER) (x0 x1 : Value) : den Pg R (cd Tryz.f31 []) (argsEnv [x0, x1]) (kont Pg R Tryz.f31) = F31 R x0 x1 :=
  have h : ∀ e, den Pg R (cd Tryz.f31 []) e (kont Pg R Tryz.f31) = F31 R (e 0) (e 1) := fun e => (den_join Pg R 1 (cd Tryz.f31 []) (cd Tryz.f31 [1,1]) e (kont Pg R Tryz.f31) (fun e => F31_j1 R (e 0) (e 1)) _ (by kernel_rfl) (fun e => F31_j1_ok R e) (den_join Pg R 0 (pre 1 (cd Tryz.f31 [])) (cd Tryz.f31 [1,0]) e (setN (kont Pg R Tryz.f31) (fun e => F31_j1 R (e 0) (e 1))) (fun e => F31_j2 R (e 0) (e 1)) _ (by kernel_rfl) (fun e => F31_j2_ok R e) (by kernel_rfl)))
  h _
theorem F31_calls {R : ER} {x0 x1 : Value} {w : World} (h : F31 R x0 x1 w) : Calls Pg 31 ⟨[x0, x1]⟩ w R :=
  calls_of_den Tryz.func31 (by kernel_rfl) (by kernel_rfl) (F31_den R x0 x1) h
/-! ### 32: mqueue_Queue_Advance -/
def F32_j4 (R : ER) (x12 : Value) : WP :=
  R (.returned (.tuple ⟨[x12, (.slice none 0 0), (.int .i64 0)]⟩))
theorem F32_j4_ok (R : ER) (e : Env) : den Pg R (cd Tryz.f32 [1,1,1,1,1,1,1,1,1]) e (kont Pg R Tryz.f32) = (F32_j4 R (e 12)) := by kernel_rfl
def F32_j7 (R : ER) (k1 : V4) (x12 x76 x77 x78 : Value) : WP :=
  pv (ixS 2 x76 x78) fun v1 =>
  ldN 2 v1 fun v2 =>
  al Pg 136 fun v3 =>
  stN 2 v3 v2 fun _ =>
  pv (faO 0 v3) fun v4 =>
  ld1 v4 fun v5 =>
  pv (bldO [.int .i64 0, .int .i64 0, .slice none 0 0, .int .i64 0] [(0,1, v5), (3,1, (.int .i64 37))]) fun v6 =>
  valV Pg R (Instr.buildSlice 65 1 ⟨[(0, v6)]⟩) fun v7 =>
  blt Pg R .append ⟨[65,65]⟩ 65 ⟨[false, false]⟩ ⟨[x12, v7]⟩ fun v8 =>
  pv (bin .add x78 (.int .i64 1)) fun v9 =>
  k1 v8 x76 x77 v9
theorem F32_j7_ok (R : ER) (k1 : V4) (e : Env) : den Pg R (cd Tryz.f32 [1,1,1,1,1,1,1,1,0,1,0,0,1,1]) e (setN (inB 5 (setN (kont Pg R Tryz.f32) (fun e => F32_j4 R (e 12)))) (fun e => k1 (e 12) (e 76) (e 77) (e 78))) = (F32_j7 R k1 (e 12) (e 76) (e 77) (e 78)) := by kernel_rfl
def F32_b1 (R : ER) (k1 : V4) (x12 x76 x77 x78 : Value) : WP :=
  pv (bin .lss x78 x77) fun v10 =>
  cnd v10 (
   F32_j7 R k1 x12 x76 x77 x78) (
   F32_j4 R x12)
theorem F32_b1_ok (R : ER) (k1 : V4) (e : Env) : den Pg R (cd Tryz.f32 [1,1,1,1,1,1,1,1,0,1,0,0]) e (setN (inB 5 (setN (kont Pg R Tryz.f32) (fun e => F32_j4 R (e 12)))) (fun e => k1 (e 12) (e 76) (e 77) (e 78))) = (F32_b1 R k1 (e 12) (e 76) (e 77) (e 78)) := (den_join Pg R 1 (cd Tryz.f32 [1,1,1,1,1,1,1,1,0,1,0,0]) (cd Tryz.f32 [1,1,1,1,1,1,1,1,0,1,0,0,1,1]) e (setN (inB 5 (setN (kont Pg R Tryz.f32) (fun e => F32_j4 R (e 12)))) (fun e => k1 (e 12) (e 76) (e 77) (e 78))) (fun e => F32_j7 R k1 (e 12) (e 76) (e 77) (e 78)) _ (by kernel_rfl) (fun e => F32_j7_ok R k1 e) (by kernel_rfl))
noncomputable def F32_l1 (R : ER) (n : Nat) : V4 := Nat.rec (motive := fun _ => V4) (fun _ _ _ _ => fun _ => False) (fun _ ih => fun x12 x76 x77 x78 => F32_b1 R ih x12 x76 x77 x78) n
theorem F32_l1_succ (R : ER) (n : Nat) (x12 x76 x77 x78 : Value) : F32_l1 R (n + 1) x12 x76 x77 x78 = F32_b1 R (F32_l1 R n) x12 x76 x77 x78 := rfl
theorem F32_l1_ok (R : ER) : ∀ (n : Nat) (e : Env), iterL (den Pg R (cd Tryz.f32 [1,1,1,1,1,1,1,1,0,1,0,0])) n e (inB 5 (setN (kont Pg R Tryz.f32) (fun e => F32_j4 R (e 12)))) = F32_l1 R n (e 12) (e 76) (e 77) (e 78) :=
  iterL_join (den Pg R (cd Tryz.f32 [1,1,1,1,1,1,1,1,0,1,0,0])) (inB 5 (setN (kont Pg R Tryz.f32) (fun e => F32_j4 R (e 12)))) (fun n e => F32_l1 R n (e 12) (e 76) (e 77) (e 78)) (fun _ => rfl) (fun n e => (F32_b1_ok R (F32_l1 R n) e).trans (F32_l1_succ R n (e 12) (e 76) (e 77) (e 78)).symm)
def F32_j6 (R : ER) (x12 x76 x77 x78 : Value) : WP :=
  exN fun n => F32_l1 R n x12 x76 x77 x78
theorem F32_j6_ok (R : ER) (e : Env) : den Pg R (cd Tryz.f32 [1,1,1,1,1,1,1,1,0,1]) e (setN (kont Pg R Tryz.f32) (fun e => F32_j4 R (e 12))) = (F32_j6 R (e 12) (e 76) (e 77) (e 78)) := (den_block Pg R (cd Tryz.f32 [1,1,1,1,1,1,1,1,0,1]) 5 (cd Tryz.f32 [1,1,1,1,1,1,1,1,0,1,0]) e (setN (kont Pg R Tryz.f32) (fun e => F32_j4 R (e 12))) _ (by kernel_rfl) (den_loop Pg R (cd Tryz.f32 [1,1,1,1,1,1,1,1,0,1,0]) (cd Tryz.f32 [1,1,1,1,1,1,1,1,0,1,0,0]) e (inB 5 (setN (kont Pg R Tryz.f32) (fun e => F32_j4 R (e 12)))) (fun n e => F32_l1 R n (e 12) (e 76) (e 77) (e 78)) _ (by kernel_rfl) (F32_l1_ok R) (by kernel_rfl)))
def F32_j5 (R : ER) (x7 x12 : Value) : WP :=
  pv (lenS x7) fun v11 =>
  F32_j6 R x12 x7 v11 (.int .i64 0)
theorem F32_j5_ok (R : ER) (e : Env) : den Pg R (cd Tryz.f32 [1,1,1,1,1,1,1,1,0]) e (setN (kont Pg R Tryz.f32) (fun e => F32_j4 R (e 12))) = (F32_j5 R (e 7) (e 12)) := (den_join Pg R 0 (cd Tryz.f32 [1,1,1,1,1,1,1,1,0]) (cd Tryz.f32 [1,1,1,1,1,1,1,1,0,1]) e (setN (kont Pg R Tryz.f32) (fun e => F32_j4 R (e 12))) (fun e => F32_j6 R (e 12) (e 76) (e 77) (e 78)) _ (by kernel_rfl) (fun e => F32_j6_ok R e) (by kernel_rfl))
def F32_j3 (R : ER) (x7 : Value) : WP :=
  cal Pg R 68 ⟨[x7, (.func (.func 69) ⟨[]⟩ ⟨[]⟩)]⟩ fun v12 =>
  F32_j5 R x7 (.slice none 0 0)
theorem F32_j3_ok (R : ER) (e : Env) : den Pg R (cd Tryz.f32 [1,1,1,1,1,1]) e (kont Pg R Tryz.f32) = (F32_j3 R (e 7)) := (den_join Pg R 2 (cd Tryz.f32 [1,1,1,1,1,1]) (cd Tryz.f32 [1,1,1,1,1,1,1,1,1]) e (kont Pg R Tryz.f32) (fun e => F32_j4 R (e 12)) _ (by kernel_rfl) (fun e => F32_j4_ok R e) (den_join Pg R 1 (pre 2 (cd Tryz.f32 [1,1,1,1,1,1])) (cd Tryz.f32 [1,1,1,1,1,1,1,1,0]) e (setN (kont Pg R Tryz.f32) (fun e => F32_j4 R (e 12))) (fun e => F32_j5 R (e 7) (e 12)) _ (by kernel_rfl) (fun e => F32_j5_ok R e) (by kernel_rfl)))
def F32_j10 (R : ER) (k1 : V4) (x7 x59 x60 x61 : Value) : WP :=
  pv (ixS 2 x59 x61) fun v13 =>
  ldN 2 v13 fun v14 =>
  al Pg 115 fun v15 =>
  stN 2 v15 v14 fun _ =>
  pv (faO 0 v15) fun v16 =>
  ld1 v16 fun v17 =>
  pv (faO 1 v15) fun v18 =>
  ld1 v18 fun v19 =>
  pv (bldO [.int .i64 0, .int .i64 0] [(0,1, v17), (1,1, v19)]) fun v20 =>
  valV Pg R (Instr.buildSlice 133 1 ⟨[(0, v20)]⟩) fun v21 =>
  blt Pg R .append ⟨[133,133]⟩ 133 ⟨[false, false]⟩ ⟨[x7, v21]⟩ fun v22 =>
  pv (bin .add x61 (.int .i64 1)) fun v23 =>
  k1 v22 x59 x60 v23
theorem F32_j10_ok (R : ER) (k1 : V4) (e : Env) : den Pg R (cd Tryz.f32 [1,1,1,1,1,0,1,0,0,1,1]) e (setN (inB 3 (setN (kont Pg R Tryz.f32) (fun e => F32_j3 R (e 7)))) (fun e => k1 (e 7) (e 59) (e 60) (e 61))) = (F32_j10 R k1 (e 7) (e 59) (e 60) (e 61)) := by kernel_rfl
def F32_b2 (R : ER) (k1 : V4) (x7 x59 x60 x61 : Value) : WP :=
  pv (bin .lss x61 x60) fun v24 =>
  cnd v24 (
   F32_j10 R k1 x7 x59 x60 x61) (
   F32_j3 R x7)
theorem F32_b2_ok (R : ER) (k1 : V4) (e : Env) : den Pg R (cd Tryz.f32 [1,1,1,1,1,0,1,0,0]) e (setN (inB 3 (setN (kont Pg R Tryz.f32) (fun e => F32_j3 R (e 7)))) (fun e => k1 (e 7) (e 59) (e 60) (e 61))) = (F32_b2 R k1 (e 7) (e 59) (e 60) (e 61)) := (den_join Pg R 1 (cd Tryz.f32 [1,1,1,1,1,0,1,0,0]) (cd Tryz.f32 [1,1,1,1,1,0,1,0,0,1,1]) e (setN (inB 3 (setN (kont Pg R Tryz.f32) (fun e => F32_j3 R (e 7)))) (fun e => k1 (e 7) (e 59) (e 60) (e 61))) (fun e => F32_j10 R k1 (e 7) (e 59) (e 60) (e 61)) _ (by kernel_rfl) (fun e => F32_j10_ok R k1 e) (by kernel_rfl))
noncomputable def F32_l2 (R : ER) (n : Nat) : V4 := Nat.rec (motive := fun _ => V4) (fun _ _ _ _ => fun _ => False) (fun _ ih => fun x7 x59 x60 x61 => F32_b2 R ih x7 x59 x60 x61) n
theorem F32_l2_succ (R : ER) (n : Nat) (x7 x59 x60 x61 : Value) : F32_l2 R (n + 1) x7 x59 x60 x61 = F32_b2 R (F32_l2 R n) x7 x59 x60 x61 := rfl
theorem F32_l2_ok (R : ER) : ∀ (n : Nat) (e : Env), iterL (den Pg R (cd Tryz.f32 [1,1,1,1,1,0,1,0,0])) n e (inB 3 (setN (kont Pg R Tryz.f32) (fun e => F32_j3 R (e 7)))) = F32_l2 R n (e 7) (e 59) (e 60) (e 61) :=
  iterL_join (den Pg R (cd Tryz.f32 [1,1,1,1,1,0,1,0,0])) (inB 3 (setN (kont Pg R Tryz.f32) (fun e => F32_j3 R (e 7)))) (fun n e => F32_l2 R n (e 7) (e 59) (e 60) (e 61)) (fun _ => rfl) (fun n e => (F32_b2_ok R (F32_l2 R n) e).trans (F32_l2_succ R n (e 7) (e 59) (e 60) (e 61)).symm)
def F32_j9 (R : ER) (x7 x59 x60 x61 : Value) : WP :=
  exN fun n => F32_l2 R n x7 x59 x60 x61
theorem F32_j9_ok (R : ER) (e : Env) : den Pg R (cd Tryz.f32 [1,1,1,1,1,0,1]) e (setN (kont Pg R Tryz.f32) (fun e => F32_j3 R (e 7))) = (F32_j9 R (e 7) (e 59) (e 60) (e 61)) := (den_block Pg R (cd Tryz.f32 [1,1,1,1,1,0,1]) 3 (cd Tryz.f32 [1,1,1,1,1,0,1,0]) e (setN (kont Pg R Tryz.f32) (fun e => F32_j3 R (e 7))) _ (by kernel_rfl) (den_loop Pg R (cd Tryz.f32 [1,1,1,1,1,0,1,0]) (cd Tryz.f32 [1,1,1,1,1,0,1,0,0]) e (inB 3 (setN (kont Pg R Tryz.f32) (fun e => F32_j3 R (e 7)))) (fun n e => F32_l2 R n (e 7) (e 59) (e 60) (e 61)) _ (by kernel_rfl) (F32_l2_ok R) (by kernel_rfl)))
def F32_j8 (R : ER) (x0 x1 x7 : Value) : WP :=
  pv (nilO x0) fun v25 =>
  pv (faO 5 v25) fun v26 =>
  cal Pg R 67 ⟨[v26, x1]⟩ fun v27 =>
  pv (lenS v27) fun v28 =>
  F32_j9 R x7 v27 v28 (.int .i64 0)
theorem F32_j8_ok (R : ER) (e : Env) : den Pg R (cd Tryz.f32 [1,1,1,1,1,0]) e (setN (kont Pg R Tryz.f32) (fun e => F32_j3 R (e 7))) = (F32_j8 R (e 0) (e 1) (e 7)) := (den_join Pg R 0 (cd Tryz.f32 [1,1,1,1,1,0]) (cd Tryz.f32 [1,1,1,1,1,0,1]) e (setN (kont Pg R Tryz.f32) (fun e => F32_j3 R (e 7))) (fun e => F32_j9 R (e 7) (e 59) (e 60) (e 61)) _ (by kernel_rfl) (fun e => F32_j9_ok R e) (by kernel_rfl))
def F32_j2 (R : ER) (x0 x1 x7 : Value) : WP :=
  F32_j8 R x0 x1 x7
theorem F32_j2_ok (R : ER) (e : Env) : den Pg R (cd Tryz.f32 [1,1,1,1,1]) e (kont Pg R Tryz.f32) = (F32_j2 R (e 0) (e 1) (e 7)) := (den_join Pg R 0 (cd Tryz.f32 [1,1,1,1,1]) (cd Tryz.f32 [1,1,1,1,1,1]) e (kont Pg R Tryz.f32) (fun e => F32_j3 R (e 7)) _ (by kernel_rfl) (fun e => F32_j3_ok R e) (den_conv Pg R (pre 0 (cd Tryz.f32 [1,1,1,1,1])) (cd Tryz.f32 [1,1,1,1,1,0]) e (setN (kont Pg R Tryz.f32) (fun e => F32_j3 R (e 7))) _ (by kernel_rfl) (F32_j8_ok R e)))
def F32_j13 (R : ER) (k1 : V6) (x0 x1 x7 x40 x41 x42 : Value) : WP :=
  pv (ixS 4 x40 x42) fun v29 =>
  ldN 4 v29 fun v30 =>
  al Pg 113 fun v31 =>
  stN 4 v31 v30 fun _ =>
  pv (faO 0 v31) fun v32 =>
  ld1 v32 fun v33 =>
  pv (faO 1 v31) fun v34 =>
  ld1 v34 fun v35 =>
  pv (bldO [.int .i64 0, .int .i64 0] [(0,1, v33), (1,1, v35)]) fun v36 =>
  valV Pg R (Instr.buildSlice 133 1 ⟨[(0, v36)]⟩) fun v37 =>
  blt Pg R .append ⟨[133,133]⟩ 133 ⟨[false, false]⟩ ⟨[x7, v37]⟩ fun v38 =>
  pv (bin .add x42 (.int .i64 1)) fun v39 =>
  k1 x0 x1 v38 x40 x41 v39
theorem F32_j13_ok (R : ER) (k1 : V6) (e : Env) : den Pg R (cd Tryz.f32 [1,1,1,1,0,1,0,0,1,1]) e (setN (inB 1 (setN (kont Pg R Tryz.f32) (fun e => F32_j2 R (e 0) (e 1) (e 7)))) (fun e => k1 (e 0) (e 1) (e 7) (e 40) (e 41) (e 42))) = (F32_j13 R k1 (e 0) (e 1) (e 7) (e 40) (e 41) (e 42)) := by kernel_rfl
def F32_b3 (R : ER) (k1 : V6) (x0 x1 x7 x40 x41 x42 : Value) : WP :=
  pv (bin .lss x42 x41) fun v40 =>
  cnd v40 (
   F32_j13 R k1 x0 x1 x7 x40 x41 x42) (
   F32_j2 R x0 x1 x7)
theorem F32_b3_ok (R : ER) (k1 : V6) (e : Env) : den Pg R (cd Tryz.f32 [1,1,1,1,0,1,0,0]) e (setN (inB 1 (setN (kont Pg R Tryz.f32) (fun e => F32_j2 R (e 0) (e 1) (e 7)))) (fun e => k1 (e 0) (e 1) (e 7) (e 40) (e 41) (e 42))) = (F32_b3 R k1 (e 0) (e 1) (e 7) (e 40) (e 41) (e 42)) := (den_join Pg R 1 (cd Tryz.f32 [1,1,1,1,0,1,0,0]) (cd Tryz.f32 [1,1,1,1,0,1,0,0,1,1]) e (setN (inB 1 (setN (kont Pg R Tryz.f32) (fun e => F32_j2 R (e 0) (e 1) (e 7)))) (fun e => k1 (e 0) (e 1) (e 7) (e 40) (e 41) (e 42))) (fun e => F32_j13 R k1 (e 0) (e 1) (e 7) (e 40) (e 41) (e 42)) _ (by kernel_rfl) (fun e => F32_j13_ok R k1 e) (by kernel_rfl))
noncomputable def F32_l3 (R : ER) (n : Nat) : V6 := Nat.rec (motive := fun _ => V6) (fun _ _ _ _ _ _ => fun _ => False) (fun _ ih => fun x0 x1 x7 x40 x41 x42 => F32_b3 R ih x0 x1 x7 x40 x41 x42) n
theorem F32_l3_succ (R : ER) (n : Nat) (x0 x1 x7 x40 x41 x42 : Value) : F32_l3 R (n + 1) x0 x1 x7 x40 x41 x42 = F32_b3 R (F32_l3 R n) x0 x1 x7 x40 x41 x42 := rfl
theorem F32_l3_ok (R : ER) : ∀ (n : Nat) (e : Env), iterL (den Pg R (cd Tryz.f32 [1,1,1,1,0,1,0,0])) n e (inB 1 (setN (kont Pg R Tryz.f32) (fun e => F32_j2 R (e 0) (e 1) (e 7)))) = F32_l3 R n (e 0) (e 1) (e 7) (e 40) (e 41) (e 42) :=
  iterL_join (den Pg R (cd Tryz.f32 [1,1,1,1,0,1,0,0])) (inB 1 (setN (kont Pg R Tryz.f32) (fun e => F32_j2 R (e 0) (e 1) (e 7)))) (fun n e => F32_l3 R n (e 0) (e 1) (e 7) (e 40) (e 41) (e 42)) (fun _ => rfl) (fun n e => (F32_b3_ok R (F32_l3 R n) e).trans (F32_l3_succ R n (e 0) (e 1) (e 7) (e 40) (e 41) (e 42)).symm)
def F32_j12 (R : ER) (x0 x1 x7 x40 x41 x42 : Value) : WP :=
  exN fun n => F32_l3 R n x0 x1 x7 x40 x41 x42
theorem F32_j12_ok (R : ER) (e : Env) : den Pg R (cd Tryz.f32 [1,1,1,1,0,1]) e (setN (kont Pg R Tryz.f32) (fun e => F32_j2 R (e 0) (e 1) (e 7))) = (F32_j12 R (e 0) (e 1) (e 7) (e 40) (e 41) (e 42)) := (den_block Pg R (cd Tryz.f32 [1,1,1,1,0,1]) 1 (cd Tryz.f32 [1,1,1,1,0,1,0]) e (setN (kont Pg R Tryz.f32) (fun e => F32_j2 R (e 0) (e 1) (e 7))) _ (by kernel_rfl) (den_loop Pg R (cd Tryz.f32 [1,1,1,1,0,1,0]) (cd Tryz.f32 [1,1,1,1,0,1,0,0]) e (inB 1 (setN (kont Pg R Tryz.f32) (fun e => F32_j2 R (e 0) (e 1) (e 7)))) (fun n e => F32_l3 R n (e 0) (e 1) (e 7) (e 40) (e 41) (e 42)) _ (by kernel_rfl) (F32_l3_ok R) (by kernel_rfl)))
def F32_j11 (R : ER) (x0 x1 x7 : Value) : WP :=
  pv (nilO x0) fun v41 =>
  pv (faO 6 v41) fun v42 =>
  cal Pg R 66 ⟨[v42, x1]⟩ fun v43 =>
  pv (lenS v43) fun v44 =>
  F32_j12 R x0 x1 x7 v43 v44 (.int .i64 0)
theorem F32_j11_ok (R : ER) (e : Env) : den Pg R (cd Tryz.f32 [1,1,1,1,0]) e (setN (kont Pg R Tryz.f32) (fun e => F32_j2 R (e 0) (e 1) (e 7))) = (F32_j11 R (e 0) (e 1) (e 7)) := (den_join Pg R 0 (cd Tryz.f32 [1,1,1,1,0]) (cd Tryz.f32 [1,1,1,1,0,1]) e (setN (kont Pg R Tryz.f32) (fun e => F32_j2 R (e 0) (e 1) (e 7))) (fun e => F32_j12 R (e 0) (e 1) (e 7) (e 40) (e 41) (e 42)) _ (by kernel_rfl) (fun e => F32_j12_ok R e) (by kernel_rfl))
def F32_j1 (R : ER) (x0 x1 : Value) : WP :=
  pv (nilO x0) fun v45 =>
  pv (faO 4 v45) fun v46 =>
  st1 v46 x1 fun _ =>
  F32_j11 R x0 x1 (.slice none 0 0)
theorem F32_j1_ok (R : ER) (e : Env) : den Pg R (cd Tryz.f32 [1,1]) e (kont Pg R Tryz.f32) = (F32_j1 R (e 0) (e 1)) := (den_join Pg R 2 (cd Tryz.f32 [1,1]) (cd Tryz.f32 [1,1,1,1,1]) e (kont Pg R Tryz.f32) (fun e => F32_j2 R (e 0) (e 1) (e 7)) _ (by kernel_rfl) (fun e => F32_j2_ok R e) (den_join Pg R 1 (pre 2 (cd Tryz.f32 [1,1])) (cd Tryz.f32 [1,1,1,1,0]) e (setN (kont Pg R Tryz.f32) (fun e => F32_j2 R (e 0) (e 1) (e 7))) (fun e => F32_j11 R (e 0) (e 1) (e 7)) _ (by kernel_rfl) (fun e => F32_j11_ok R e) (by kernel_rfl)))
def F32_j18 (R : ER) (x0 x1 : Value) : WP :=
  pv (nilO x0) fun v47 =>
  pv (faO 4 v47) fun v48 =>
  ld1 v48 fun v49 =>
  pv (bin .lss x1 v49) fun v50 =>
  cnd v50 (
   R (.returned (.tuple ⟨[(.slice none 0 0), (.slice none 0 0), (.int .i64 30)]⟩))) (
   F32_j1 R x0 x1)
theorem F32_j18_ok (R : ER) (e : Env) : den Pg R (cd Tryz.f32 [1,0,0,1,1,1,1]) e (inB 0 (setN (kont Pg R Tryz.f32) (fun e => F32_j1 R (e 0) (e 1)))) = (F32_j18 R (e 0) (e 1)) := by kernel_rfl
def F32_j17 (R : ER) (x0 x1 x18 : Value) : WP :=
  cnd x18 (R (.returned (.tuple ⟨[(.slice none 0 0), (.slice none 0 0), (.int .i64 34)]⟩))) (F32_j18 R x0 x1)
theorem F32_j17_ok (R : ER) (e : Env) : den Pg R (cd Tryz.f32 [1,0,0,1,1,1]) e (inB 0 (setN (kont Pg R Tryz.f32) (fun e => F32_j1 R (e 0) (e 1)))) = (F32_j17 R (e 0) (e 1) (e 18)) := (den_if Pg R (cd Tryz.f32 [1,0,0,1,1,1]) (cd Tryz.f32 [1,0,0,1,1,1,0]) (cd Tryz.f32 [1,0,0,1,1,1,1]) e (inB 0 (setN (kont Pg R Tryz.f32) (fun e => F32_j1 R (e 0) (e 1)))) _ (F32_j18 R (e 0) (e 1)) _ (by kernel_rfl) rfl (F32_j18_ok R e) (by kernel_rfl))
def F32_j16 (R : ER) (x0 x1 : Value) : WP :=
  pv (bin .lss x1 (.int .i64 0)) fun v51 =>
  gd v51 false (pv (some x1)) fun v52 =>
  gd v51 false (pv (bin .gtr v52 (.int .i64 1099511627776))) fun v53 =>
  pv (pickO v51 (.bool true) v53) fun v54 =>
  F32_j17 R x0 x1 v54
theorem F32_j16_ok (R : ER) (e : Env) : den Pg R (cd Tryz.f32 [1,0,0,1,1]) e (inB 0 (setN (kont Pg R Tryz.f32) (fun e => F32_j1 R (e 0) (e 1)))) = (F32_j16 R (e 0) (e 1)) := (den_join Pg R 0 (cd Tryz.f32 [1,0,0,1,1]) (cd Tryz.f32 [1,0,0,1,1,1]) e (inB 0 (setN (kont Pg R Tryz.f32) (fun e => F32_j1 R (e 0) (e 1)))) (fun e => F32_j17 R (e 0) (e 1) (e 18)) _ (by kernel_rfl) (fun e => F32_j17_ok R e) (by kernel_rfl))
def F32_j15 (R : ER) (x0 x1 x15 : Value) : WP :=
  cnd x15 (R (.returned (.tuple ⟨[(.slice none 0 0), (.slice none 0 0), (.int .i64 35)]⟩))) (F32_j16 R x0 x1)
theorem F32_j15_ok (R : ER) (e : Env) : den Pg R (cd Tryz.f32 [1,0,0,1]) e (inB 0 (setN (kont Pg R Tryz.f32) (fun e => F32_j1 R (e 0) (e 1)))) = (F32_j15 R (e 0) (e 1) (e 15)) := (den_if Pg R (cd Tryz.f32 [1,0,0,1]) (cd Tryz.f32 [1,0,0,1,0]) (cd Tryz.f32 [1,0,0,1,1]) e (inB 0 (setN (kont Pg R Tryz.f32) (fun e => F32_j1 R (e 0) (e 1)))) _ (F32_j16 R (e 0) (e 1)) _ (by kernel_rfl) rfl (F32_j16_ok R e) (by kernel_rfl))
def F32_j14 (R : ER) (x0 x1 : Value) : WP :=
  pv (eqNilP x0) fun v55 =>
  F32_j15 R x0 x1 v55
theorem F32_j14_ok (R : ER) (e : Env) : den Pg R (cd Tryz.f32 [1,0]) e (setN (kont Pg R Tryz.f32) (fun e => F32_j1 R (e 0) (e 1))) = (F32_j14 R (e 0) (e 1)) := (den_block Pg R (cd Tryz.f32 [1,0]) 0 (cd Tryz.f32 [1,0,0]) e (setN (kont Pg R Tryz.f32) (fun e => F32_j1 R (e 0) (e 1))) _ (by kernel_rfl) (den_join Pg R 0 (cd Tryz.f32 [1,0,0]) (cd Tryz.f32 [1,0,0,1]) e (inB 0 (setN (kont Pg R Tryz.f32) (fun e => F32_j1 R (e 0) (e 1)))) (fun e => F32_j15 R (e 0) (e 1) (e 15)) _ (by kernel_rfl) (fun e => F32_j15_ok R e) (by kernel_rfl)))
def F32 (R : ER) (x0 x1 : Value) : WP :=
  F32_j14 R x0 x1
theorem F32_den (R : ER) (x0 x1 : Value) : den Pg R (cd Tryz.f32 []) (argsEnv [x0, x1]) (kont Pg R Tryz.f32) = F32 R x0 x1 :=
  have h : ∀ e, den Pg R (cd Tryz.f32 []) e (kont Pg R Tryz.f32) = F32 R (e 0) (e 1) := fun e => (den_join Pg R 1 (cd Tryz.f32 []) (cd Tryz.f32 [1,1]) e (kont Pg R Tryz.f32) (fun e => F32_j1 R (e 0) (e 1)) _ (by kernel_rfl) (fun e => F32_j1_ok R e) (den_join Pg R 0 (pre 1 (cd Tryz.f32 [])) (cd Tryz.f32 [1,0]) e (setN (kont Pg R Tryz.f32) (fun e => F32_j1 R (e 0) (e 1))) (fun e => F32_j14 R (e 0) (e 1)) _ (by kernel_rfl) (fun e => F32_j14_ok R e) (by kernel_rfl)))
  h _
theorem F32_calls {R : ER} {x0 x1 : Value} {w : World} (h : F32 R x0 x1 w) : Calls Pg 32 ⟨[x0, x1]⟩ w R :=
  calls_of_den Tryz.func32 (by kernel_rfl) (by kernel_rfl) (F32_den R x0 x1) h
/-! ### 33: orpimentref25_Queue_Advance -/
def F33_j6 (R : ER) (k1 : V3) (x0 x1 x7 x8 : Value) : WP :=
  pv (nilO x0) fun v1 =>
  pv (faO 3 v1) fun v2 =>
  ld1 v2 fun v3 =>
  pv (ixS 4 v3 x8) fun v4 =>
  pv (faO 0 v4) fun v5 =>
  ld1 v5 fun v6 =>
  pv (bldO [.int .i64 0, .int .i64 0, .slice none 0 0, .int .i64 0] [(0,1, v6), (3,1, (.int .i64 37))]) fun v7 =>
  valV Pg R (Instr.buildSlice 77 1 ⟨[(0, v7)]⟩) fun v8 =>
  blt Pg R .append ⟨[77,77]⟩ 77 ⟨[false, false]⟩ ⟨[x7, v8]⟩ fun v9 =>
  pv (nilO x0) fun v10 =>
  pv (faO 3 v10) fun v11 =>
  ld1 v11 fun v12 =>
  cal Pg R 65 ⟨[v12, x8]⟩ fun v13 =>
  pv (nilO x0) fun v14 =>
  pv (faO 3 v14) fun v15 =>
  st1 v15 v13 fun _ =>
  k1 x0 x1 v9
theorem F33_j6_ok (R : ER) (k1 : V3) (e : Env) : den Pg R (cd Tryz.f33 [1,1,1,1,1,0,0,0,1,1,1,0]) e (inB 1 (setN (inB 0 (kont Pg R Tryz.f33)) (fun e => k1 (e 0) (e 1) (e 7)))) = (F33_j6 R k1 (e 0) (e 1) (e 7) (e 8)) := by kernel_rfl
def F33_j7 (R : ER) (k1 : V3) (x0 x1 x7 x9 : Value) : WP :=
  pv (nilO x0) fun v16 =>
  pv (faO 4 v16) fun v17 =>
  ld1 v17 fun v18 =>
  pv (ixS 4 v18 x9) fun v19 =>
  pv (faO 0 v19) fun v20 =>
  ld1 v20 fun v21 =>
  pv (bldO [.int .i64 0, .int .i64 0, .slice none 0 0, .int .i64 0] [(0,1, v21), (3,1, (.int .i64 37))]) fun v22 =>
  valV Pg R (Instr.buildSlice 77 1 ⟨[(0, v22)]⟩) fun v23 =>
  blt Pg R .append ⟨[77,77]⟩ 77 ⟨[false, false]⟩ ⟨[x7, v23]⟩ fun v24 =>
  pv (nilO x0) fun v25 =>
  pv (faO 4 v25) fun v26 =>
  ld1 v26 fun v27 =>
  cal Pg R 65 ⟨[v27, x9]⟩ fun v28 =>
  pv (nilO x0) fun v29 =>
  pv (faO 4 v29) fun v30 =>
  st1 v30 v28 fun _ =>
  k1 x0 x1 v24
theorem F33_j7_ok (R : ER) (k1 : V3) (e : Env) : den Pg R (cd Tryz.f33 [1,1,1,1,1,0,0,0,1,1,1,1]) e (inB 1 (setN (inB 0 (kont Pg R Tryz.f33)) (fun e => k1 (e 0) (e 1) (e 7)))) = (F33_j7 R k1 (e 0) (e 1) (e 7) (e 9)) := by kernel_rfl
def F33_j5 (R : ER) (k1 : V3) (x0 x1 x7 x8 x9 x69 : Value) : WP :=
  cnd x69 (F33_j6 R k1 x0 x1 x7 x8) (F33_j7 R k1 x0 x1 x7 x9)
theorem F33_j5_ok (R : ER) (k1 : V3) (e : Env) : den Pg R (cd Tryz.f33 [1,1,1,1,1,0,0,0,1,1,1]) e (inB 1 (setN (inB 0 (kont Pg R Tryz.f33)) (fun e => k1 (e 0) (e 1) (e 7)))) = (F33_j5 R k1 (e 0) (e 1) (e 7) (e 8) (e 9) (e 69)) := (den_if Pg R (cd Tryz.f33 [1,1,1,1,1,0,0,0,1,1,1]) (cd Tryz.f33 [1,1,1,1,1,0,0,0,1,1,1,0]) (cd Tryz.f33 [1,1,1,1,1,0,0,0,1,1,1,1]) e (inB 1 (setN (inB 0 (kont Pg R Tryz.f33)) (fun e => k1 (e 0) (e 1) (e 7)))) (F33_j6 R k1 (e 0) (e 1) (e 7) (e 8)) (F33_j7 R k1 (e 0) (e 1) (e 7) (e 9)) _ (by kernel_rfl) (F33_j6_ok R k1 e) (F33_j7_ok R k1 e) (by kernel_rfl))
def F33_j4 (R : ER) (k1 : V3) (x0 x1 x7 x8 x9 : Value) : WP :=
  drewV (
  pv (bin .lss x9 (.int .i64 0)) fun v31 =>
  gd v31 false (pv (some x8)) fun v32 =>
  gd v31 false (pv (bin .geq v32 (.int .i64 0))) fun v33 =>
  gd v31 false (pv (some v33)) fun v34 =>
  gd v34 true (pv (some x0)) fun v35 =>
  gd v34 true (pv (nilO v35)) fun v36 =>
  gd v34 true (pv (faO 3 v36)) fun v37 =>
  gd v34 true (ld1 v37) fun v38 =>
  gd v34 true (pv (some x8)) fun v39 =>
  gd v34 true (pv (ixS 4 v38 v39)) fun v40 =>
  gd v34 true (pv (faO 3 v40)) fun v41 =>
  gd v34 true (ld1 v41) fun v42 =>
  gd v34 true (pv (some x0)) fun v43 =>
  gd v34 true (pv (nilO v43)) fun v44 =>
  gd v34 true (pv (faO 4 v44)) fun v45 =>
  gd v34 true (ld1 v45) fun v46 =>
  gd v34 true (pv (some x9)) fun v47 =>
  gd v34 true (pv (ixS 4 v46 v47)) fun v48 =>
  gd v34 true (pv (faO 3 v48)) fun v49 =>
  gd v34 true (ld1 v49) fun v50 =>
  gd v34 true (pv (bin .leq v42 v50)) fun v51 =>
  gd v31 false (pv (pickO v34 v51 (.bool false))) fun v52 =>
  pv (pickO v31 (.bool true) v52) fun v53 =>
  F33_j5 R k1 x0 x1 x7 x8 x9 v53)
theorem F33_j4_ok (R : ER) (k1 : V3) (e : Env) : den Pg R (cd Tryz.f33 [1,1,1,1,1,0,0,0,1,1]) e (inB 1 (setN (inB 0 (kont Pg R Tryz.f33)) (fun e => k1 (e 0) (e 1) (e 7)))) = (F33_j4 R k1 (e 0) (e 1) (e 7) (e 8) (e 9)) := (den_join Pg R 0 (cd Tryz.f33 [1,1,1,1,1,0,0,0,1,1]) (cd Tryz.f33 [1,1,1,1,1,0,0,0,1,1,1]) e (inB 1 (setN (inB 0 (kont Pg R Tryz.f33)) (fun e => k1 (e 0) (e 1) (e 7)))) (fun e => F33_j5 R k1 (e 0) (e 1) (e 7) (e 8) (e 9) (e 69)) _ (by kernel_rfl) (fun e => F33_j5_ok R k1 e) (by kernel_rfl))
def F33_b1 (R : ER) (k1 : V3) (x0 x1 x7 : Value) : WP :=
  drewV (
  pv (nilO x0) fun v54 =>
  pv (faO 3 v54) fun v55 =>
  ld1 v55 fun v56 =>
  mem fun w58 => cal Pg noR 71 ⟨[v56, x1]⟩ fun v57 =>
  pv (nilO x0) fun v59 =>
  pv (faO 4 v59) fun v60 =>
  ld1S [w58] v60 fun v61 =>
  mem fun w63 => cal Pg noR 71 ⟨[v61, x1]⟩ fun v62 =>
  pv (bin .lss v57 (.int .i64 0)) fun v64 =>
  gd v64 true (pv (some v62)) fun v65 =>
  gd v64 true (pv (bin .lss v65 (.int .i64 0))) fun v66 =>
  pv (pickO v64 v66 (.bool false)) fun v67 =>
  cnd v67 (
   R (.returned (.tuple ⟨[x7, (.slice none 0 0), (.int .i64 0)]⟩))) (
   F33_j4 R k1 x0 x1 x7 v57 v62))
theorem F33_b1_ok (R : ER) (k1 : V3) (e : Env) : den Pg R (cd Tryz.f33 [1,1,1,1,1,0,0]) e (setN (inB 0 (kont Pg R Tryz.f33)) (fun e => k1 (e 0) (e 1) (e 7))) = (F33_b1 R k1 (e 0) (e 1) (e 7)) := (den_block Pg R (cd Tryz.f33 [1,1,1,1,1,0,0]) 1 (cd Tryz.f33 [1,1,1,1,1,0,0,0]) e (setN (inB 0 (kont Pg R Tryz.f33)) (fun e => k1 (e 0) (e 1) (e 7))) _ (by kernel_rfl) (den_join Pg R 1 (cd Tryz.f33 [1,1,1,1,1,0,0,0]) (cd Tryz.f33 [1,1,1,1,1,0,0,0,1,1]) e (inB 1 (setN (inB 0 (kont Pg R Tryz.f33)) (fun e => k1 (e 0) (e 1) (e 7)))) (fun e => F33_j4 R k1 (e 0) (e 1) (e 7) (e 8) (e 9)) _ (by kernel_rfl) (fun e => F33_j4_ok R k1 e) (by kernel_rfl)))
noncomputable def F33_l1 (R : ER) (n : Nat) : V3 := Nat.rec (motive := fun _ => V3) (fun _ _ _ => fun _ => False) (fun _ ih => fun x0 x1 x7 => F33_b1 R ih x0 x1 x7) n
theorem F33_l1_succ (R : ER) (n : Nat) (x0 x1 x7 : Value) : F33_l1 R (n + 1) x0 x1 x7 = F33_b1 R (F33_l1 R n) x0 x1 x7 := rfl
theorem F33_l1_ok (R : ER) : ∀ (n : Nat) (e : Env), iterL (den Pg R (cd Tryz.f33 [1,1,1,1,1,0,0])) n e (inB 0 (kont Pg R Tryz.f33)) = F33_l1 R n (e 0) (e 1) (e 7) :=
  iterL_join (den Pg R (cd Tryz.f33 [1,1,1,1,1,0,0])) (inB 0 (kont Pg R Tryz.f33)) (fun n e => F33_l1 R n (e 0) (e 1) (e 7)) (fun _ => rfl) (fun n e => (F33_b1_ok R (F33_l1 R n) e).trans (F33_l1_succ R n (e 0) (e 1) (e 7)).symm)
def F33_j3 (R : ER) (x0 x1 x7 : Value) : WP :=
  exN fun n => F33_l1 R n x0 x1 x7
theorem F33_j3_ok (R : ER) (e : Env) : den Pg R (cd Tryz.f33 [1,1,1,1,1]) e (kont Pg R Tryz.f33) = (F33_j3 R (e 0) (e 1) (e 7)) := (den_block Pg R (cd Tryz.f33 [1,1,1,1,1]) 0 (cd Tryz.f33 [1,1,1,1,1,0]) e (kont Pg R Tryz.f33) _ (by kernel_rfl) (den_loop Pg R (cd Tryz.f33 [1,1,1,1,1,0]) (cd Tryz.f33 [1,1,1,1,1,0,0]) e (inB 0 (kont Pg R Tryz.f33)) (fun n e => F33_l1 R n (e 0) (e 1) (e 7)) _ (by kernel_rfl) (F33_l1_ok R) (by kernel_rfl)))
def F33_j2 (R : ER) (x0 x1 : Value) : WP :=
  pv (nilO x0) fun v68 =>
  pv (faO 5 v68) fun v69 =>
  st1 v69 x1 fun _ =>
  F33_j3 R x0 x1 (.slice none 0 0)
theorem F33_j2_ok (R : ER) (e : Env) : den Pg R (cd Tryz.f33 [1,1,1]) e (kont Pg R Tryz.f33) = (F33_j2 R (e 0) (e 1)) := (den_join Pg R 1 (cd Tryz.f33 [1,1,1]) (cd Tryz.f33 [1,1,1,1,1]) e (kont Pg R Tryz.f33) (fun e => F33_j3 R (e 0) (e 1) (e 7)) _ (by kernel_rfl) (fun e => F33_j3_ok R e) (by kernel_rfl))
def F33_j1 (R : ER) (x0 x1 : Value) : WP :=
  pv (nilO x0) fun v70 =>
  pv (faO 5 v70) fun v71 =>
  ld1 v71 fun v72 =>
  pv (bin .lss x1 v72) fun v73 =>
  cnd v73 (
   R (.returned (.tuple ⟨[(.slice none 0 0), (.slice none 0 0), (.int .i64 30)]⟩))) (
   F33_j2 R x0 x1)
theorem F33_j1_ok (R : ER) (e : Env) : den Pg R (cd Tryz.f33 [1,1]) e (kont Pg R Tryz.f33) = (F33_j1 R (e 0) (e 1)) := (den_join Pg R 0 (cd Tryz.f33 [1,1]) (cd Tryz.f33 [1,1,1]) e (kont Pg R Tryz.f33) (fun e => F33_j2 R (e 0) (e 1)) _ (by kernel_rfl) (fun e => F33_j2_ok R e) (by kernel_rfl))
def F33 (R : ER) (x0 x1 : Value) : WP :=
  pv (bin .lss x1 (.int .i64 0)) fun v74 =>
  gd v74 false (pv (some x1)) fun v75 =>
  gd v74 false (pv (bin .gtr v75 (.int .i64 1099511627776))) fun v76 =>
  pv (pickO v74 (.bool true) v76) fun v77 =>
  cnd v77 (
   R (.returned (.tuple ⟨[(.slice none 0 0), (.slice none 0 0), (.int .i64 34)]⟩))) (
   F33_j1 R x0 x1)
theorem F33_den (R : ER) (x0 x1 : Value) : den Pg R (cd Tryz.f33 []) (argsEnv [x0, x1]) (kont Pg R Tryz.f33) = F33 R x0 x1 :=
  have h : ∀ e, den Pg R (cd Tryz.f33 []) e (kont Pg R Tryz.f33) = F33 R (e 0) (e 1) := fun e => (den_join Pg R 1 (cd Tryz.f33 []) (cd Tryz.f33 [1,1]) e (kont Pg R Tryz.f33) (fun e => F33_j1 R (e 0) (e 1)) _ (by kernel_rfl) (fun e => F33_j1_ok R e) (by kernel_rfl))
  h _
theorem F33_calls {R : ER} {x0 x1 : Value} {w : World} (h : F33 R x0 x1 w) : Calls Pg 33 ⟨[x0, x1]⟩ w R :=
  calls_of_den Tryz.func33 (by kernel_rfl) (by kernel_rfl) (F33_den R x0 x1) h
/-! ### 34: mqueue_Queue_Register -/
def F34 (R : ER) (x0 x1 : Value) : WP :=
  bx 92 x1 fun v1 =>
  pv (eqNilP x0) fun v2 =>
  cnd v2 (
   R (.returned (.int .i64 35))) (
   pv (faO 0 v1) fun v3 =>
   ld1 v3 fun v4 =>
   pv (bin .lss v4 (.int .i64 0)) fun v5 =>
   gd v5 false (pv (faO 0 v1)) fun v6 =>
   gd v5 false (ld1 v6) fun v7 =>
   gd v5 false (pv (bin .geq v7 (.int .i64 256))) fun v8 =>
   pv (pickO v5 (.bool true) v8) fun v9 =>
   cnd v9 (
    R (.returned (.int .i64 34))) (
    pv (faO 1 v1) fun v10 =>
    pv (faO 0 v10) fun v11 =>
    ld1 v11 fun v12 =>
    pv (bin .lss v12 (.int .i64 0)) fun v13 =>
    gd v13 false (pv (faO 1 v1)) fun v14 =>
    gd v13 false (pv (faO 0 v14)) fun v15 =>
    gd v13 false (ld1 v15) fun v16 =>
    gd v13 false (pv (bin .geq v16 (.int .i64 5))) fun v17 =>
    pv (pickO v13 (.bool true) v17) fun v18 =>
    cnd v18 (
     R (.returned (.int .i64 17))) (
     pv (nilO x0) fun v19 =>
     pv (faO 7 v19) fun v20 =>
     ld1 v20 fun v21 =>
     pv (neNilP v21) fun v22 =>
     cnd v22 (
      R (.returned (.int .i64 5))) (
      pv (nilO x0) fun v23 =>
  pv (faO 7 v23) fun v24 =>
  st1 v24 v1 fun _ =>
  R (.returned (.int .i64 0))))))
theorem F34_den (R : ER) (x0 x1 : Value) : den Pg R (cd Tryz.f34 []) (argsEnv [x0, x1]) (kont Pg R Tryz.f34) = F34 R x0 x1 :=
  have h : ∀ e, den Pg R (cd Tryz.f34 []) e (kont Pg R Tryz.f34) = F34 R (e 0) (e 1) := fun e => (by kernel_rfl)
  h _
theorem F34_calls {R : ER} {x0 x1 : Value} {w : World} (h : F34 R x0 x1 w) : Calls Pg 34 ⟨[x0, x1]⟩ w R :=
  calls_of_den Tryz.func34 (by kernel_rfl) (by kernel_rfl) (F34_den R x0 x1) h
/-! ### 35: orpimentref25_Queue_Register -/
def F35_j3 (R : ER) (x0 x3 : Value) : WP :=
  ldN 6 x3 fun v1 =>
  pv (nilO x0) fun v2 =>
  pv (faO 6 v2) fun v3 =>
  stN 6 v3 v1 fun _ =>
  pv (nilO x0) fun v4 =>
  pv (faO 12 v4) fun v5 =>
  st1 v5 (.bool true) fun _ =>
  R (.returned (.int .i64 0))
theorem F35_j3_ok (R : ER) (e : Env) : den Pg R (cd Tryz.f35 [1,1,1,1]) e (kont Pg R Tryz.f35) = (F35_j3 R (e 0) (e 3)) := by kernel_rfl
def F35_j2 (R : ER) (x0 x3 : Value) : WP :=
  pv (nilO x0) fun v6 =>
  pv (faO 12 v6) fun v7 =>
  ld1 v7 fun v8 =>
  cnd v8 (
   R (.returned (.int .i64 5))) (
   F35_j3 R x0 x3)
theorem F35_j2_ok (R : ER) (e : Env) : den Pg R (cd Tryz.f35 [1,1,1]) e (kont Pg R Tryz.f35) = (F35_j2 R (e 0) (e 3)) := (den_join Pg R 0 (cd Tryz.f35 [1,1,1]) (cd Tryz.f35 [1,1,1,1]) e (kont Pg R Tryz.f35) (fun e => F35_j3 R (e 0) (e 3)) _ (by kernel_rfl) (fun e => F35_j3_ok R e) (by kernel_rfl))
def F35_j1 (R : ER) (x0 x3 : Value) : WP :=
  pv (faO 1 x3) fun v9 =>
  pv (faO 0 v9) fun v10 =>
  ld1 v10 fun v11 =>
  pv (bin .lss v11 (.int .i64 0)) fun v12 =>
  gd v12 false (pv (faO 1 x3)) fun v13 =>
  gd v12 false (pv (faO 0 v13)) fun v14 =>
  gd v12 false (ld1 v14) fun v15 =>
  gd v12 false (pv (bin .geq v15 (.int .i64 5))) fun v16 =>
  pv (pickO v12 (.bool true) v16) fun v17 =>
  cnd v17 (
   R (.returned (.int .i64 17))) (
   F35_j2 R x0 x3)
theorem F35_j1_ok (R : ER) (e : Env) : den Pg R (cd Tryz.f35 [1,1]) e (kont Pg R Tryz.f35) = (F35_j1 R (e 0) (e 3)) := (den_join Pg R 0 (cd Tryz.f35 [1,1]) (cd Tryz.f35 [1,1,1]) e (kont Pg R Tryz.f35) (fun e => F35_j2 R (e 0) (e 3)) _ (by kernel_rfl) (fun e => F35_j2_ok R e) (by kernel_rfl))
def F35 (R : ER) (x0 x1 : Value) : WP :=
  bx 73 x1 fun v18 =>
  pv (faO 0 v18) fun v19 =>
  ld1 v19 fun v20 =>
  pv (bin .lss v20 (.int .i64 0)) fun v21 =>
  gd v21 false (pv (faO 0 v18)) fun v22 =>
  gd v21 false (ld1 v22) fun v23 =>
  gd v21 false (pv (bin .geq v23 (.int .i64 256))) fun v24 =>
  pv (pickO v21 (.bool true) v24) fun v25 =>
  cnd v25 (
   R (.returned (.int .i64 34))) (
   F35_j1 R x0 v18)
theorem F35_den (R : ER) (x0 x1 : Value) : den Pg R (cd Tryz.f35 []) (argsEnv [x0, x1]) (kont Pg R Tryz.f35) = F35 R x0 x1 :=
  have h : ∀ e, den Pg R (cd Tryz.f35 []) e (kont Pg R Tryz.f35) = F35 R (e 0) (e 1) := fun e => (den_join Pg R 1 (cd Tryz.f35 []) (cd Tryz.f35 [1,1]) e (kont Pg R Tryz.f35) (fun e => F35_j1 R (e 0) (e 3)) _ (by kernel_rfl) (fun e => F35_j1_ok R e) (by kernel_rfl))
  h _
theorem F35_calls {R : ER} {x0 x1 : Value} {w : World} (h : F35 R x0 x1 w) : Calls Pg 35 ⟨[x0, x1]⟩ w R :=
  calls_of_den Tryz.func35 (by kernel_rfl) (by kernel_rfl) (F35_den R x0 x1) h
/-! ### 36: mqueue_Queue_Unregister -/
def F36 (R : ER) (x0 x1 : Value) : WP :=
  pv (eqNilP x0) fun v1 =>
  cnd v1 (
   R (.returned (.int .i64 35))) (
   pv (nilO x0) fun v2 =>
   pv (faO 7 v2) fun v3 =>
   ld1 v3 fun v4 =>
   pv (eqNilP v4) fun v5 =>
   gd v5 false (pv (some x0)) fun v6 =>
   gd v5 false (pv (nilO v6)) fun v7 =>
   gd v5 false (pv (faO 7 v7)) fun v8 =>
   gd v5 false (ld1 v8) fun v9 =>
   gd v5 false (pv (nilO v9)) fun v10 =>
   gd v5 false (pv (faO 0 v10)) fun v11 =>
   gd v5 false (ld1 v11) fun v12 =>
   gd v5 false (pv (some x1)) fun v13 =>
   gd v5 false (pv (bin .neq v12 v13)) fun v14 =>
   pv (pickO v5 (.bool true) v14) fun v15 =>
   cnd v15 (
    R (.returned (.int .i64 22))) (
    pv (nilO x0) fun v16 =>
  pv (faO 7 v16) fun v17 =>
  st1 v17 (.pointer none) fun _ =>
  R (.returned (.int .i64 0))))
theorem F36_den (R : ER) (x0 x1 : Value) : den Pg R (cd Tryz.f36 []) (argsEnv [x0, x1]) (kont Pg R Tryz.f36) = F36 R x0 x1 :=
  have h : ∀ e, den Pg R (cd Tryz.f36 []) e (kont Pg R Tryz.f36) = F36 R (e 0) (e 1) := fun e => (by kernel_rfl)
  h _
theorem F36_calls {R : ER} {x0 x1 : Value} {w : World} (h : F36 R x0 x1 w) : Calls Pg 36 ⟨[x0, x1]⟩ w R :=
  calls_of_den Tryz.func36 (by kernel_rfl) (by kernel_rfl) (F36_den R x0 x1) h
/-! ### 37: orpimentref25_Queue_Unregister -/
def F37 (R : ER) (x0 x1 : Value) : WP :=
  pv (nilO x0) fun v1 =>
  pv (faO 12 v1) fun v2 =>
  ld1 v2 fun v3 =>
  pv (unO .not v3) fun v4 =>
  gd v4 false (pv (some x0)) fun v5 =>
  gd v4 false (pv (nilO v5)) fun v6 =>
  gd v4 false (pv (faO 6 v6)) fun v7 =>
  gd v4 false (pv (faO 0 v7)) fun v8 =>
  gd v4 false (ld1 v8) fun v9 =>
  gd v4 false (pv (some x1)) fun v10 =>
  gd v4 false (pv (bin .neq v9 v10)) fun v11 =>
  pv (pickO v4 (.bool true) v11) fun v12 =>
  cnd v12 (
   R (.returned (.int .i64 22))) (
   pv (nilO x0) fun v13 =>
  pv (faO 12 v13) fun v14 =>
  st1 v14 (.bool false) fun _ =>
  R (.returned (.int .i64 0)))
theorem F37_den (R : ER) (x0 x1 : Value) : den Pg R (cd Tryz.f37 []) (argsEnv [x0, x1]) (kont Pg R Tryz.f37) = F37 R x0 x1 :=
  have h : ∀ e, den Pg R (cd Tryz.f37 []) e (kont Pg R Tryz.f37) = F37 R (e 0) (e 1) := fun e => (by kernel_rfl)
  h _
theorem F37_calls {R : ER} {x0 x1 : Value} {w : World} (h : F37 R x0 x1 w) : Calls Pg 37 ⟨[x0, x1]⟩ w R :=
  calls_of_den Tryz.func37 (by kernel_rfl) (by kernel_rfl) (F37_den R x0 x1) h
/-! ### 38: slices_Clone_38 -/
def F38 (R : ER) (x0 : Value) : WP :=
  pv (eqNilS x0) fun v1 =>
  cnd v1 (
   R (.returned (.slice none 0 0))) (
   valV Pg R (Instr.buildSlice 53 0 ⟨[]⟩) fun v2 =>
  blt Pg R .append ⟨[53,53]⟩ 53 ⟨[false, false]⟩ ⟨[v2, x0]⟩ fun v3 =>
  R (.returned v3))
theorem F38_den (R : ER) (x0 : Value) : den Pg R (cd Tryz.f38 []) (argsEnv [x0]) (kont Pg R Tryz.f38) = F38 R x0 :=
  have h : ∀ e, den Pg R (cd Tryz.f38 []) e (kont Pg R Tryz.f38) = F38 R (e 0) := fun e => by kernel_rfl
  h _
theorem F38_calls {R : ER} {x0 : Value} {w : World} (h : F38 R x0 w) : Calls Pg 38 ⟨[x0]⟩ w R :=
  calls_of_den Tryz.func38 (by kernel_rfl) (by kernel_rfl) (F38_den R x0) h
/-! ### 39: slices_SortFunc -/
def F39 (R : ER) (x0 x1 : Value) : WP :=
  pv (lenS x0) fun v1 =>
  pv (cvI .u64 v1) fun v2 =>
  cal Pg R 73 ⟨[v2]⟩ fun v3 =>
  cal Pg R 72 ⟨[x0, (.int .i64 0), v1, v3, x1]⟩ fun v4 =>
  R (.returned (.tuple ⟨[]⟩))
theorem F39_den (R : ER) (x0 x1 : Value) : den Pg R (cd Tryz.f39 []) (argsEnv [x0, x1]) (kont Pg R Tryz.f39) = F39 R x0 x1 :=
  have h : ∀ e, den Pg R (cd Tryz.f39 []) e (kont Pg R Tryz.f39) = F39 R (e 0) (e 1) := fun e => by kernel_rfl
  h _
theorem F39_calls {R : ER} {x0 x1 : Value} {w : World} (h : F39 R x0 x1 w) : Calls Pg 39 ⟨[x0, x1]⟩ w R :=
  calls_of_den Tryz.func39 (by kernel_rfl) (by kernel_rfl) (F39_den R x0 x1) h
/-! ### 40: mqueue_before -/
def F40 (R : ER) (x0 x1 : Value) : WP :=
  bx 97 x0 fun v1 =>
  bx 97 x1 fun v2 =>
  drewV (
  pv (faO 0 v2) fun v3 =>
  pv (faO 0 v3) fun v4 =>
  ld1 v4 fun v5 =>
  pv (faO 0 v1) fun v6 =>
  pv (faO 0 v6) fun v7 =>
  ld1 v7 fun v8 =>
  mem fun w10 => cal Pg noR 75 ⟨[v5, v8]⟩ fun v9 =>
  pv (faO 2 v1) fun v11 =>
  ld1S [w10] v11 fun v12 =>
  pv (faO 2 v2) fun v13 =>
  ld1S [w10] v13 fun v14 =>
  mem fun w16 => cal Pg noR 75 ⟨[v12, v14]⟩ fun v15 =>
  mem fun w18 => valV Pg noR (Instr.buildSlice 40 2 ⟨[(0, v9), (1, v15)]⟩) fun v17 =>
  mem fun w20 => cal Pg noR 74 ⟨[v17]⟩ fun v19 =>
  R (.returned v19))
theorem F40_den (R : ER) (x0 x1 : Value) : den Pg R (cd Tryz.f40 []) (argsEnv [x0, x1]) (kont Pg R Tryz.f40) = F40 R x0 x1 :=
  have h : ∀ e, den Pg R (cd Tryz.f40 []) e (kont Pg R Tryz.f40) = F40 R (e 0) (e 1) := fun e => by kernel_rfl
  h _
theorem F40_calls {R : ER} {x0 x1 : Value} {w : World} (h : F40 R x0 x1 w) : Calls Pg 40 ⟨[x0, x1]⟩ w R :=
  calls_of_den Tryz.func40 (by kernel_rfl) (by kernel_rfl) (F40_den R x0 x1) h
/-! ### 41: mqueue_copied -/
def F41 (R : ER) (x0 : Value) : WP :=
  bx 43 x0 fun v1 =>
  al Pg 43 fun v2 =>
  pv (faO 1 v1) fun v3 =>
  ld1 v3 fun v4 =>
  blt Pg R .append ⟨[32,32]⟩ 32 ⟨[true, false]⟩ ⟨[(.slice none 0 0), v4]⟩ fun v5 =>
  pv (faO 1 v1) fun v6 =>
  st1 v6 v5 fun _ =>
  ldN 2 v1 fun v7 =>
  stN 2 v2 v7 fun _ =>
  ldN 2 v2 fun v8 => R (.returned v8)
theorem F41_den (R : ER) (x0 : Value) : den Pg R (cd Tryz.f41 []) (argsEnv [x0]) (kont Pg R Tryz.f41) = F41 R x0 :=
  have h : ∀ e, den Pg R (cd Tryz.f41 []) e (kont Pg R Tryz.f41) = F41 R (e 0) := fun e => by kernel_rfl
  h _
theorem F41_calls {R : ER} {x0 : Value} {w : World} (h : F41 R x0 w) : Calls Pg 41 ⟨[x0]⟩ w R :=
  calls_of_den Tryz.func41 (by kernel_rfl) (by kernel_rfl) (F41_den R x0) h
/-! ### 42: mqueue_waiting -/
def F42_j1 (R : ER) (x3 : Value) : WP :=
  R (.returned x3)
theorem F42_j1_ok (R : ER) (e : Env) : den Pg R (cd Tryz.f42 [1,1,1]) e (kont Pg R Tryz.f42) = (F42_j1 R (e 3)) := by kernel_rfl
def F42_j4 (R : ER) (k1 : V4) (x3 x9 x10 x11 : Value) : WP :=
  pv (ixS 2 x9 x11) fun v1 =>
  ldN 2 v1 fun v2 =>
  al Pg 115 fun v3 =>
  stN 2 v3 v2 fun _ =>
  pv (faO 0 v3) fun v4 =>
  ld1 v4 fun v5 =>
  valV Pg R (Instr.buildSlice 40 1 ⟨[(0, v5)]⟩) fun v6 =>
  blt Pg R .append ⟨[40,40]⟩ 40 ⟨[false, false]⟩ ⟨[x3, v6]⟩ fun v7 =>
  pv (bin .add x11 (.int .i64 1)) fun v8 =>
  k1 v7 x9 x10 v8
theorem F42_j4_ok (R : ER) (k1 : V4) (e : Env) : den Pg R (cd Tryz.f42 [1,1,0,1,0,0,1,1]) e (setN (inB 0 (setN (kont Pg R Tryz.f42) (fun e => F42_j1 R (e 3)))) (fun e => k1 (e 3) (e 9) (e 10) (e 11))) = (F42_j4 R k1 (e 3) (e 9) (e 10) (e 11)) := by kernel_rfl
def F42_b1 (R : ER) (k1 : V4) (x3 x9 x10 x11 : Value) : WP :=
  pv (bin .lss x11 x10) fun v9 =>
  cnd v9 (
   F42_j4 R k1 x3 x9 x10 x11) (
   F42_j1 R x3)
theorem F42_b1_ok (R : ER) (k1 : V4) (e : Env) : den Pg R (cd Tryz.f42 [1,1,0,1,0,0]) e (setN (inB 0 (setN (kont Pg R Tryz.f42) (fun e => F42_j1 R (e 3)))) (fun e => k1 (e 3) (e 9) (e 10) (e 11))) = (F42_b1 R k1 (e 3) (e 9) (e 10) (e 11)) := (den_join Pg R 1 (cd Tryz.f42 [1,1,0,1,0,0]) (cd Tryz.f42 [1,1,0,1,0,0,1,1]) e (setN (inB 0 (setN (kont Pg R Tryz.f42) (fun e => F42_j1 R (e 3)))) (fun e => k1 (e 3) (e 9) (e 10) (e 11))) (fun e => F42_j4 R k1 (e 3) (e 9) (e 10) (e 11)) _ (by kernel_rfl) (fun e => F42_j4_ok R k1 e) (by kernel_rfl))
noncomputable def F42_l1 (R : ER) (n : Nat) : V4 := Nat.rec (motive := fun _ => V4) (fun _ _ _ _ => fun _ => False) (fun _ ih => fun x3 x9 x10 x11 => F42_b1 R ih x3 x9 x10 x11) n
theorem F42_l1_succ (R : ER) (n : Nat) (x3 x9 x10 x11 : Value) : F42_l1 R (n + 1) x3 x9 x10 x11 = F42_b1 R (F42_l1 R n) x3 x9 x10 x11 := rfl
theorem F42_l1_ok (R : ER) : ∀ (n : Nat) (e : Env), iterL (den Pg R (cd Tryz.f42 [1,1,0,1,0,0])) n e (inB 0 (setN (kont Pg R Tryz.f42) (fun e => F42_j1 R (e 3)))) = F42_l1 R n (e 3) (e 9) (e 10) (e 11) :=
  iterL_join (den Pg R (cd Tryz.f42 [1,1,0,1,0,0])) (inB 0 (setN (kont Pg R Tryz.f42) (fun e => F42_j1 R (e 3)))) (fun n e => F42_l1 R n (e 3) (e 9) (e 10) (e 11)) (fun _ => rfl) (fun n e => (F42_b1_ok R (F42_l1 R n) e).trans (F42_l1_succ R n (e 3) (e 9) (e 10) (e 11)).symm)
def F42_j3 (R : ER) (x3 x9 x10 x11 : Value) : WP :=
  exN fun n => F42_l1 R n x3 x9 x10 x11
theorem F42_j3_ok (R : ER) (e : Env) : den Pg R (cd Tryz.f42 [1,1,0,1]) e (setN (kont Pg R Tryz.f42) (fun e => F42_j1 R (e 3))) = (F42_j3 R (e 3) (e 9) (e 10) (e 11)) := (den_block Pg R (cd Tryz.f42 [1,1,0,1]) 0 (cd Tryz.f42 [1,1,0,1,0]) e (setN (kont Pg R Tryz.f42) (fun e => F42_j1 R (e 3))) _ (by kernel_rfl) (den_loop Pg R (cd Tryz.f42 [1,1,0,1,0]) (cd Tryz.f42 [1,1,0,1,0,0]) e (inB 0 (setN (kont Pg R Tryz.f42) (fun e => F42_j1 R (e 3)))) (fun n e => F42_l1 R n (e 3) (e 9) (e 10) (e 11)) _ (by kernel_rfl) (F42_l1_ok R) (by kernel_rfl)))
def F42_j2 (R : ER) (x0 x3 : Value) : WP :=
  pv (nilO x0) fun v10 =>
  pv (faO 0 v10) fun v11 =>
  ld1 v11 fun v12 =>
  pv (lenS v12) fun v13 =>
  F42_j3 R x3 v12 v13 (.int .i64 0)
theorem F42_j2_ok (R : ER) (e : Env) : den Pg R (cd Tryz.f42 [1,1,0]) e (setN (kont Pg R Tryz.f42) (fun e => F42_j1 R (e 3))) = (F42_j2 R (e 0) (e 3)) := (den_join Pg R 0 (cd Tryz.f42 [1,1,0]) (cd Tryz.f42 [1,1,0,1]) e (setN (kont Pg R Tryz.f42) (fun e => F42_j1 R (e 3))) (fun e => F42_j3 R (e 3) (e 9) (e 10) (e 11)) _ (by kernel_rfl) (fun e => F42_j3_ok R e) (by kernel_rfl))
def F42 (R : ER) (x0 : Value) : WP :=
  F42_j2 R x0 (.slice none 0 0)
theorem F42_den (R : ER) (x0 : Value) : den Pg R (cd Tryz.f42 []) (argsEnv [x0]) (kont Pg R Tryz.f42) = F42 R x0 :=
  have h : ∀ e, den Pg R (cd Tryz.f42 []) e (kont Pg R Tryz.f42) = F42 R (e 0) := fun e => (den_join Pg R 2 (cd Tryz.f42 []) (cd Tryz.f42 [1,1,1]) e (kont Pg R Tryz.f42) (fun e => F42_j1 R (e 3)) _ (by kernel_rfl) (fun e => F42_j1_ok R e) (den_join Pg R 1 (pre 2 (cd Tryz.f42 [])) (cd Tryz.f42 [1,1,0]) e (setN (kont Pg R Tryz.f42) (fun e => F42_j1 R (e 3))) (fun e => F42_j2 R (e 0) (e 3)) _ (by kernel_rfl) (fun e => F42_j2_ok R e) (by kernel_rfl)))
  h _
theorem F42_calls {R : ER} {x0 : Value} {w : World} (h : F42 R x0 w) : Calls Pg 42 ⟨[x0]⟩ w R :=
  calls_of_den Tryz.func42 (by kernel_rfl) (by kernel_rfl) (F42_den R x0) h
/-! ### 43: mqueue_waiting_43 -/
def F43_j1 (R : ER) (x3 : Value) : WP :=
  R (.returned x3)
theorem F43_j1_ok (R : ER) (e : Env) : den Pg R (cd Tryz.f43 [1,1,1]) e (kont Pg R Tryz.f43) = (F43_j1 R (e 3)) := by kernel_rfl
def F43_j4 (R : ER) (k1 : V4) (x3 x9 x10 x11 : Value) : WP :=
  pv (ixS 4 x9 x11) fun v1 =>
  ldN 4 v1 fun v2 =>
  al Pg 113 fun v3 =>
  stN 4 v3 v2 fun _ =>
  pv (faO 0 v3) fun v4 =>
  ld1 v4 fun v5 =>
  valV Pg R (Instr.buildSlice 40 1 ⟨[(0, v5)]⟩) fun v6 =>
  blt Pg R .append ⟨[40,40]⟩ 40 ⟨[false, false]⟩ ⟨[x3, v6]⟩ fun v7 =>
  pv (bin .add x11 (.int .i64 1)) fun v8 =>
  k1 v7 x9 x10 v8
theorem F43_j4_ok (R : ER) (k1 : V4) (e : Env) : den Pg R (cd Tryz.f43 [1,1,0,1,0,0,1,1]) e (setN (inB 0 (setN (kont Pg R Tryz.f43) (fun e => F43_j1 R (e 3)))) (fun e => k1 (e 3) (e 9) (e 10) (e 11))) = (F43_j4 R k1 (e 3) (e 9) (e 10) (e 11)) := by kernel_rfl
def F43_b1 (R : ER) (k1 : V4) (x3 x9 x10 x11 : Value) : WP :=
  pv (bin .lss x11 x10) fun v9 =>
  cnd v9 (
   F43_j4 R k1 x3 x9 x10 x11) (
   F43_j1 R x3)
theorem F43_b1_ok (R : ER) (k1 : V4) (e : Env) : den Pg R (cd Tryz.f43 [1,1,0,1,0,0]) e (setN (inB 0 (setN (kont Pg R Tryz.f43) (fun e => F43_j1 R (e 3)))) (fun e => k1 (e 3) (e 9) (e 10) (e 11))) = (F43_b1 R k1 (e 3) (e 9) (e 10) (e 11)) := (den_join Pg R 1 (cd Tryz.f43 [1,1,0,1,0,0]) (cd Tryz.f43 [1,1,0,1,0,0,1,1]) e (setN (inB 0 (setN (kont Pg R Tryz.f43) (fun e => F43_j1 R (e 3)))) (fun e => k1 (e 3) (e 9) (e 10) (e 11))) (fun e => F43_j4 R k1 (e 3) (e 9) (e 10) (e 11)) _ (by kernel_rfl) (fun e => F43_j4_ok R k1 e) (by kernel_rfl))
noncomputable def F43_l1 (R : ER) (n : Nat) : V4 := Nat.rec (motive := fun _ => V4) (fun _ _ _ _ => fun _ => False) (fun _ ih => fun x3 x9 x10 x11 => F43_b1 R ih x3 x9 x10 x11) n
theorem F43_l1_succ (R : ER) (n : Nat) (x3 x9 x10 x11 : Value) : F43_l1 R (n + 1) x3 x9 x10 x11 = F43_b1 R (F43_l1 R n) x3 x9 x10 x11 := rfl
theorem F43_l1_ok (R : ER) : ∀ (n : Nat) (e : Env), iterL (den Pg R (cd Tryz.f43 [1,1,0,1,0,0])) n e (inB 0 (setN (kont Pg R Tryz.f43) (fun e => F43_j1 R (e 3)))) = F43_l1 R n (e 3) (e 9) (e 10) (e 11) :=
  iterL_join (den Pg R (cd Tryz.f43 [1,1,0,1,0,0])) (inB 0 (setN (kont Pg R Tryz.f43) (fun e => F43_j1 R (e 3)))) (fun n e => F43_l1 R n (e 3) (e 9) (e 10) (e 11)) (fun _ => rfl) (fun n e => (F43_b1_ok R (F43_l1 R n) e).trans (F43_l1_succ R n (e 3) (e 9) (e 10) (e 11)).symm)
def F43_j3 (R : ER) (x3 x9 x10 x11 : Value) : WP :=
  exN fun n => F43_l1 R n x3 x9 x10 x11
theorem F43_j3_ok (R : ER) (e : Env) : den Pg R (cd Tryz.f43 [1,1,0,1]) e (setN (kont Pg R Tryz.f43) (fun e => F43_j1 R (e 3))) = (F43_j3 R (e 3) (e 9) (e 10) (e 11)) := (den_block Pg R (cd Tryz.f43 [1,1,0,1]) 0 (cd Tryz.f43 [1,1,0,1,0]) e (setN (kont Pg R Tryz.f43) (fun e => F43_j1 R (e 3))) _ (by kernel_rfl) (den_loop Pg R (cd Tryz.f43 [1,1,0,1,0]) (cd Tryz.f43 [1,1,0,1,0,0]) e (inB 0 (setN (kont Pg R Tryz.f43) (fun e => F43_j1 R (e 3)))) (fun n e => F43_l1 R n (e 3) (e 9) (e 10) (e 11)) _ (by kernel_rfl) (F43_l1_ok R) (by kernel_rfl)))
def F43_j2 (R : ER) (x0 x3 : Value) : WP :=
  pv (nilO x0) fun v10 =>
  pv (faO 0 v10) fun v11 =>
  ld1 v11 fun v12 =>
  pv (lenS v12) fun v13 =>
  F43_j3 R x3 v12 v13 (.int .i64 0)
theorem F43_j2_ok (R : ER) (e : Env) : den Pg R (cd Tryz.f43 [1,1,0]) e (setN (kont Pg R Tryz.f43) (fun e => F43_j1 R (e 3))) = (F43_j2 R (e 0) (e 3)) := (den_join Pg R 0 (cd Tryz.f43 [1,1,0]) (cd Tryz.f43 [1,1,0,1]) e (setN (kont Pg R Tryz.f43) (fun e => F43_j1 R (e 3))) (fun e => F43_j3 R (e 3) (e 9) (e 10) (e 11)) _ (by kernel_rfl) (fun e => F43_j3_ok R e) (by kernel_rfl))
def F43 (R : ER) (x0 : Value) : WP :=
  F43_j2 R x0 (.slice none 0 0)
theorem F43_den (R : ER) (x0 : Value) : den Pg R (cd Tryz.f43 []) (argsEnv [x0]) (kont Pg R Tryz.f43) = F43 R x0 :=
  have h : ∀ e, den Pg R (cd Tryz.f43 []) e (kont Pg R Tryz.f43) = F43 R (e 0) := fun e => (den_join Pg R 2 (cd Tryz.f43 []) (cd Tryz.f43 [1,1,1]) e (kont Pg R Tryz.f43) (fun e => F43_j1 R (e 3)) _ (by kernel_rfl) (fun e => F43_j1_ok R e) (den_join Pg R 1 (pre 2 (cd Tryz.f43 [])) (cd Tryz.f43 [1,1,0]) e (setN (kont Pg R Tryz.f43) (fun e => F43_j1 R (e 3))) (fun e => F43_j2 R (e 0) (e 3)) _ (by kernel_rfl) (fun e => F43_j2_ok R e) (by kernel_rfl)))
  h _
theorem F43_calls {R : ER} {x0 : Value} {w : World} (h : F43 R x0 w) : Calls Pg 43 ⟨[x0]⟩ w R :=
  calls_of_den Tryz.func43 (by kernel_rfl) (by kernel_rfl) (F43_den R x0) h
/-! ### 44: orpimentref25_threads -/
def F44_j1 (R : ER) (x3 : Value) : WP :=
  R (.returned x3)
theorem F44_j1_ok (R : ER) (e : Env) : den Pg R (cd Tryz.f44 [1,1,1]) e (kont Pg R Tryz.f44) = (F44_j1 R (e 3)) := by kernel_rfl
def F44_j4 (R : ER) (k1 : V3) (x0 x3 x4 : Value) : WP :=
  pv (ixS 4 x0 x4) fun v1 =>
  pv (faO 0 v1) fun v2 =>
  ld1 v2 fun v3 =>
  valV Pg R (Instr.buildSlice 40 1 ⟨[(0, v3)]⟩) fun v4 =>
  blt Pg R .append ⟨[40,40]⟩ 40 ⟨[false, false]⟩ ⟨[x3, v4]⟩ fun v5 =>
  pv (bin .add x4 (.int .i64 1)) fun v6 =>
  k1 x0 v5 v6
theorem F44_j4_ok (R : ER) (k1 : V3) (e : Env) : den Pg R (cd Tryz.f44 [1,1,0,1,0,0,1]) e (setN (inB 0 (setN (kont Pg R Tryz.f44) (fun e => F44_j1 R (e 3)))) (fun e => k1 (e 0) (e 3) (e 4))) = (F44_j4 R k1 (e 0) (e 3) (e 4)) := by kernel_rfl
def F44_b1 (R : ER) (k1 : V3) (x0 x3 x4 : Value) : WP :=
  pv (lenS x0) fun v7 =>
  pv (bin .lss x4 v7) fun v8 =>
  cnd v8 (
   F44_j4 R k1 x0 x3 x4) (
   F44_j1 R x3)
theorem F44_b1_ok (R : ER) (k1 : V3) (e : Env) : den Pg R (cd Tryz.f44 [1,1,0,1,0,0]) e (setN (inB 0 (setN (kont Pg R Tryz.f44) (fun e => F44_j1 R (e 3)))) (fun e => k1 (e 0) (e 3) (e 4))) = (F44_b1 R k1 (e 0) (e 3) (e 4)) := (den_join Pg R 0 (cd Tryz.f44 [1,1,0,1,0,0]) (cd Tryz.f44 [1,1,0,1,0,0,1]) e (setN (inB 0 (setN (kont Pg R Tryz.f44) (fun e => F44_j1 R (e 3)))) (fun e => k1 (e 0) (e 3) (e 4))) (fun e => F44_j4 R k1 (e 0) (e 3) (e 4)) _ (by kernel_rfl) (fun e => F44_j4_ok R k1 e) (by kernel_rfl))
noncomputable def F44_l1 (R : ER) (n : Nat) : V3 := Nat.rec (motive := fun _ => V3) (fun _ _ _ => fun _ => False) (fun _ ih => fun x0 x3 x4 => F44_b1 R ih x0 x3 x4) n
theorem F44_l1_succ (R : ER) (n : Nat) (x0 x3 x4 : Value) : F44_l1 R (n + 1) x0 x3 x4 = F44_b1 R (F44_l1 R n) x0 x3 x4 := rfl
theorem F44_l1_ok (R : ER) : ∀ (n : Nat) (e : Env), iterL (den Pg R (cd Tryz.f44 [1,1,0,1,0,0])) n e (inB 0 (setN (kont Pg R Tryz.f44) (fun e => F44_j1 R (e 3)))) = F44_l1 R n (e 0) (e 3) (e 4) :=
  iterL_join (den Pg R (cd Tryz.f44 [1,1,0,1,0,0])) (inB 0 (setN (kont Pg R Tryz.f44) (fun e => F44_j1 R (e 3)))) (fun n e => F44_l1 R n (e 0) (e 3) (e 4)) (fun _ => rfl) (fun n e => (F44_b1_ok R (F44_l1 R n) e).trans (F44_l1_succ R n (e 0) (e 3) (e 4)).symm)
def F44_j3 (R : ER) (x0 x3 x4 : Value) : WP :=
  exN fun n => F44_l1 R n x0 x3 x4
theorem F44_j3_ok (R : ER) (e : Env) : den Pg R (cd Tryz.f44 [1,1,0,1]) e (setN (kont Pg R Tryz.f44) (fun e => F44_j1 R (e 3))) = (F44_j3 R (e 0) (e 3) (e 4)) := (den_block Pg R (cd Tryz.f44 [1,1,0,1]) 0 (cd Tryz.f44 [1,1,0,1,0]) e (setN (kont Pg R Tryz.f44) (fun e => F44_j1 R (e 3))) _ (by kernel_rfl) (den_loop Pg R (cd Tryz.f44 [1,1,0,1,0]) (cd Tryz.f44 [1,1,0,1,0,0]) e (inB 0 (setN (kont Pg R Tryz.f44) (fun e => F44_j1 R (e 3)))) (fun n e => F44_l1 R n (e 0) (e 3) (e 4)) _ (by kernel_rfl) (F44_l1_ok R) (by kernel_rfl)))
def F44_j2 (R : ER) (x0 x3 : Value) : WP :=
  F44_j3 R x0 x3 (.int .i64 0)
theorem F44_j2_ok (R : ER) (e : Env) : den Pg R (cd Tryz.f44 [1,1,0]) e (setN (kont Pg R Tryz.f44) (fun e => F44_j1 R (e 3))) = (F44_j2 R (e 0) (e 3)) := (den_join Pg R 0 (cd Tryz.f44 [1,1,0]) (cd Tryz.f44 [1,1,0,1]) e (setN (kont Pg R Tryz.f44) (fun e => F44_j1 R (e 3))) (fun e => F44_j3 R (e 0) (e 3) (e 4)) _ (by kernel_rfl) (fun e => F44_j3_ok R e) (by kernel_rfl))
def F44 (R : ER) (x0 : Value) : WP :=
  F44_j2 R x0 (.slice none 0 0)
theorem F44_den (R : ER) (x0 : Value) : den Pg R (cd Tryz.f44 []) (argsEnv [x0]) (kont Pg R Tryz.f44) = F44 R x0 :=
  have h : ∀ e, den Pg R (cd Tryz.f44 []) e (kont Pg R Tryz.f44) = F44 R (e 0) := fun e => (den_join Pg R 2 (cd Tryz.f44 []) (cd Tryz.f44 [1,1,1]) e (kont Pg R Tryz.f44) (fun e => F44_j1 R (e 3)) _ (by kernel_rfl) (fun e => F44_j1_ok R e) (den_join Pg R 1 (pre 2 (cd Tryz.f44 [])) (cd Tryz.f44 [1,1,0]) e (setN (kont Pg R Tryz.f44) (fun e => F44_j1 R (e 3))) (fun e => F44_j2 R (e 0) (e 3)) _ (by kernel_rfl) (fun e => F44_j2_ok R e) (by kernel_rfl)))
  h _
theorem F44_calls {R : ER} {x0 : Value} {w : World} (h : F44 R x0 w) : Calls Pg 44 ⟨[x0]⟩ w R :=
  calls_of_den Tryz.func44 (by kernel_rfl) (by kernel_rfl) (F44_den R x0) h
/-! ### 45: orpimentref25_copied -/
def F45 (R : ER) (x0 : Value) : WP :=
  bx 49 x0 fun v1 =>
  al Pg 49 fun v2 =>
  drewV (
  pv (faO 0 v1) fun v3 =>
  ld1 v3 fun v4 =>
  mem fun w6 => valV Pg noR (Instr.buildSlice 32 0 ⟨[]⟩) fun v5 =>
  rd1 v3 v4 <|
  pv (faO 1 v1) fun v7 =>
  ld1S [w6] v7 fun v8 =>
  mem fun w10 => blt Pg noR .append ⟨[32,32]⟩ 32 ⟨[false, false]⟩ ⟨[v5, v8]⟩ fun v9 =>
  rd1 v3 v4 <|
  pv (bldO [.int .i64 0, .slice none 0 0] [(0,1, v4), (1,1, v9)]) fun v11 =>
  mem fun w13 => stN 2 v2 v11 fun v12 =>
  ldN 2 v2 fun v14 => R (.returned v14))
theorem F45_den (R : ER) (x0 : Value) : den Pg R (cd Tryz.f45 []) (argsEnv [x0]) (kont Pg R Tryz.f45) = F45 R x0 :=
  have h : ∀ e, den Pg R (cd Tryz.f45 []) e (kont Pg R Tryz.f45) = F45 R (e 0) := fun e => by kernel_rfl
  h _
theorem F45_calls {R : ER} {x0 : Value} {w : World} (h : F45 R x0 w) : Calls Pg 45 ⟨[x0]⟩ w R :=
  calls_of_den Tryz.func45 (by kernel_rfl) (by kernel_rfl) (F45_den R x0) h
/-! ### 46: bytes_Equal -/
def F46 (R : ER) (x0 x1 : Value) : WP :=
  valV Pg R (convert 32 9 x0) fun v1 =>
  valV Pg R (convert 32 9 x1) fun v2 =>
  pv (binS .eql v1 v2) fun v3 =>
  R (.returned v3)
theorem F46_den (R : ER) (x0 x1 : Value) : den Pg R (cd Tryz.f46 []) (argsEnv [x0, x1]) (kont Pg R Tryz.f46) = F46 R x0 x1 :=
  have h : ∀ e, den Pg R (cd Tryz.f46 []) e (kont Pg R Tryz.f46) = F46 R (e 0) (e 1) := fun e => by kernel_rfl
  h _
theorem F46_calls {R : ER} {x0 x1 : Value} {w : World} (h : F46 R x0 x1 w) : Calls Pg 46 ⟨[x0, x1]⟩ w R :=
  calls_of_den Tryz.func46 (by kernel_rfl) (by kernel_rfl) (F46_den R x0 x1) h
/-! ### 47: slices_IndexFunc -/
def F47_j1 (R : ER) : WP :=
  R (.returned (.int .i64 (-1)))
theorem F47_j1_ok (R : ER) (e : Env) : den Pg R (cd Tryz.f47 [1,1]) e (kont Pg R Tryz.f47) = (F47_j1 R) := by kernel_rfl
def F47_j4 (R : ER) (k1 : V4) (x0 x1 x7 x8 : Value) : WP :=
  pv (ixS 11 x0 x8) fun v1 =>
  ldN 11 v1 fun v2 =>
  calD Pg R x1 ⟨[v2]⟩ fun v3 =>
  cnd v3 (
   R (.returned x8)) (
   pv (bin .add x8 (.int .i64 1)) fun v4 =>
  k1 x0 x1 x7 v4)
theorem F47_j4_ok (R : ER) (k1 : V4) (e : Env) : den Pg R (cd Tryz.f47 [1,0,1,0,0,1,1]) e (setN (inB 0 (setN (kont Pg R Tryz.f47) (fun e => F47_j1 R))) (fun e => k1 (e 0) (e 1) (e 7) (e 8))) = (F47_j4 R k1 (e 0) (e 1) (e 7) (e 8)) := by kernel_rfl
def F47_b1 (R : ER) (k1 : V4) (x0 x1 x7 x8 : Value) : WP :=
  pv (bin .lss x8 x7) fun v5 =>
  cnd v5 (
   F47_j4 R k1 x0 x1 x7 x8) (
   F47_j1 R)
theorem F47_b1_ok (R : ER) (k1 : V4) (e : Env) : den Pg R (cd Tryz.f47 [1,0,1,0,0]) e (setN (inB 0 (setN (kont Pg R Tryz.f47) (fun e => F47_j1 R))) (fun e => k1 (e 0) (e 1) (e 7) (e 8))) = (F47_b1 R k1 (e 0) (e 1) (e 7) (e 8)) := (den_join Pg R 1 (cd Tryz.f47 [1,0,1,0,0]) (cd Tryz.f47 [1,0,1,0,0,1,1]) e (setN (inB 0 (setN (kont Pg R Tryz.f47) (fun e => F47_j1 R))) (fun e => k1 (e 0) (e 1) (e 7) (e 8))) (fun e => F47_j4 R k1 (e 0) (e 1) (e 7) (e 8)) _ (by kernel_rfl) (fun e => F47_j4_ok R k1 e) (by kernel_rfl))
noncomputable def F47_l1 (R : ER) (n : Nat) : V4 := Nat.rec (motive := fun _ => V4) (fun _ _ _ _ => fun _ => False) (fun _ ih => fun x0 x1 x7 x8 => F47_b1 R ih x0 x1 x7 x8) n
theorem F47_l1_succ (R : ER) (n : Nat) (x0 x1 x7 x8 : Value) : F47_l1 R (n + 1) x0 x1 x7 x8 = F47_b1 R (F47_l1 R n) x0 x1 x7 x8 := rfl
theorem F47_l1_ok (R : ER) : ∀ (n : Nat) (e : Env), iterL (den Pg R (cd Tryz.f47 [1,0,1,0,0])) n e (inB 0 (setN (kont Pg R Tryz.f47) (fun e => F47_j1 R))) = F47_l1 R n (e 0) (e 1) (e 7) (e 8) :=
  iterL_join (den Pg R (cd Tryz.f47 [1,0,1,0,0])) (inB 0 (setN (kont Pg R Tryz.f47) (fun e => F47_j1 R))) (fun n e => F47_l1 R n (e 0) (e 1) (e 7) (e 8)) (fun _ => rfl) (fun n e => (F47_b1_ok R (F47_l1 R n) e).trans (F47_l1_succ R n (e 0) (e 1) (e 7) (e 8)).symm)
def F47_j3 (R : ER) (x0 x1 x7 x8 : Value) : WP :=
  exN fun n => F47_l1 R n x0 x1 x7 x8
theorem F47_j3_ok (R : ER) (e : Env) : den Pg R (cd Tryz.f47 [1,0,1]) e (setN (kont Pg R Tryz.f47) (fun e => F47_j1 R)) = (F47_j3 R (e 0) (e 1) (e 7) (e 8)) := (den_block Pg R (cd Tryz.f47 [1,0,1]) 0 (cd Tryz.f47 [1,0,1,0]) e (setN (kont Pg R Tryz.f47) (fun e => F47_j1 R)) _ (by kernel_rfl) (den_loop Pg R (cd Tryz.f47 [1,0,1,0]) (cd Tryz.f47 [1,0,1,0,0]) e (inB 0 (setN (kont Pg R Tryz.f47) (fun e => F47_j1 R))) (fun n e => F47_l1 R n (e 0) (e 1) (e 7) (e 8)) _ (by kernel_rfl) (F47_l1_ok R) (by kernel_rfl)))
def F47_j2 (R : ER) (x0 x1 : Value) : WP :=
  pv (lenS x0) fun v6 =>
  F47_j3 R x0 x1 v6 (.int .i64 0)
theorem F47_j2_ok (R : ER) (e : Env) : den Pg R (cd Tryz.f47 [1,0]) e (setN (kont Pg R Tryz.f47) (fun e => F47_j1 R)) = (F47_j2 R (e 0) (e 1)) := (den_join Pg R 0 (cd Tryz.f47 [1,0]) (cd Tryz.f47 [1,0,1]) e (setN (kont Pg R Tryz.f47) (fun e => F47_j1 R)) (fun e => F47_j3 R (e 0) (e 1) (e 7) (e 8)) _ (by kernel_rfl) (fun e => F47_j3_ok R e) (by kernel_rfl))
def F47 (R : ER) (x0 x1 : Value) : WP :=
  F47_j2 R x0 x1
theorem F47_den (R : ER) (x0 x1 : Value) : den Pg R (cd Tryz.f47 []) (argsEnv [x0, x1]) (kont Pg R Tryz.f47) = F47 R x0 x1 :=
  have h : ∀ e, den Pg R (cd Tryz.f47 []) e (kont Pg R Tryz.f47) = F47 R (e 0) (e 1) := fun e => (den_join Pg R 1 (cd Tryz.f47 []) (cd Tryz.f47 [1,1]) e (kont Pg R Tryz.f47) (fun e => F47_j1 R) _ (by kernel_rfl) (fun e => F47_j1_ok R e) (den_join Pg R 0 (pre 1 (cd Tryz.f47 [])) (cd Tryz.f47 [1,0]) e (setN (kont Pg R Tryz.f47) (fun e => F47_j1 R)) (fun e => F47_j2 R (e 0) (e 1)) _ (by kernel_rfl) (fun e => F47_j2_ok R e) (by kernel_rfl)))
  h _
theorem F47_calls {R : ER} {x0 x1 : Value} {w : World} (h : F47 R x0 x1 w) : Calls Pg 47 ⟨[x0, x1]⟩ w R :=
  calls_of_den Tryz.func47 (by kernel_rfl) (by kernel_rfl) (F47_den R x0 x1) h
/-! ### 48: mqueue_valid -/
def F48 (R : ER) (x0 x1 : Value) : WP :=
  pv (bin .geq x0 (.int .i64 0)) fun v1 =>
  gd v1 true (pv (some x0)) fun v2 =>
  gd v1 true (pv (bin .lss v2 (.int .i64 256))) fun v3 =>
  pv (pickO v1 v3 (.bool false)) fun v4 =>
  gd v4 true (pv (some x1)) fun v5 =>
  gd v4 true (pv (bin .geq v5 (.int .i64 0))) fun v6 =>
  pv (pickO v4 v6 (.bool false)) fun v7 =>
  gd v7 true (pv (some x1)) fun v8 =>
  gd v7 true (pv (bin .leq v8 (.int .i64 1099511627776))) fun v9 =>
  pv (pickO v7 v9 (.bool false)) fun v10 =>
  R (.returned v10)
theorem F48_den (R : ER) (x0 x1 : Value) : den Pg R (cd Tryz.f48 []) (argsEnv [x0, x1]) (kont Pg R Tryz.f48) = F48 R x0 x1 :=
  have h : ∀ e, den Pg R (cd Tryz.f48 []) e (kont Pg R Tryz.f48) = F48 R (e 0) (e 1) := fun e => by kernel_rfl
  h _
theorem F48_calls {R : ER} {x0 x1 : Value} {w : World} (h : F48 R x0 x1 w) : Calls Pg 48 ⟨[x0, x1]⟩ w R :=
  calls_of_den Tryz.func48 (by kernel_rfl) (by kernel_rfl) (F48_den R x0 x1) h
/-! ### 49: mqueue_Queue_blocked -/
def F49 (R : ER) (x0 x1 : Value) : WP :=
  pv (nilO x0) fun v1 =>
  pv (faO 6 v1) fun v2 =>
  cal Pg R 43 ⟨[v2]⟩ fun v3 =>
  cal Pg R 76 ⟨[v3, x1]⟩ fun v4 =>
  gd v4 false (pv (some x0)) fun v5 =>
  gd v4 false (pv (nilO v5)) fun v6 =>
  gd v4 false (pv (faO 5 v6)) fun v7 =>
  gd v4 false (cal Pg R 42 ⟨[v7]⟩) fun v8 =>
  gd v4 false (pv (some x1)) fun v9 =>
  gd v4 false (cal Pg R 76 ⟨[v8, v9]⟩) fun v10 =>
  pv (pickO v4 (.bool true) v10) fun v11 =>
  R (.returned v11)
theorem F49_den (R : ER) (x0 x1 : Value) : den Pg R (cd Tryz.f49 []) (argsEnv [x0, x1]) (kont Pg R Tryz.f49) = F49 R x0 x1 :=
  have h : ∀ e, den Pg R (cd Tryz.f49 []) e (kont Pg R Tryz.f49) = F49 R (e 0) (e 1) := fun e => by kernel_rfl
  h _
theorem F49_calls {R : ER} {x0 x1 : Value} {w : World} (h : F49 R x0 x1 w) : Calls Pg 49 ⟨[x0, x1]⟩ w R :=
  calls_of_den Tryz.func49 (by kernel_rfl) (by kernel_rfl) (F49_den R x0 x1) h
/-! ### 50: mqueue_messages_Len -/
def F50 (R : ER) (x0 : Value) : WP :=
  pv (lenS x0) fun v1 =>
  R (.returned v1)
theorem F50_den (R : ER) (x0 : Value) : den Pg R (cd Tryz.f50 []) (argsEnv [x0]) (kont Pg R Tryz.f50) = F50 R x0 :=
  have h : ∀ e, den Pg R (cd Tryz.f50 []) e (kont Pg R Tryz.f50) = F50 R (e 0) := fun e => by kernel_rfl
  h _
theorem F50_calls {R : ER} {x0 : Value} {w : World} (h : F50 R x0 w) : Calls Pg 50 ⟨[x0]⟩ w R :=
  calls_of_den Tryz.func50 (by kernel_rfl) (by kernel_rfl) (F50_den R x0) h
/-! ### 51: mqueue_Queue_put -/
def F51_j2 (R : ER) (x0 : Value) : WP :=
  pv (nilO x0) fun v1 =>
  pv (faO 7 v1) fun v2 =>
  ld1 v2 fun v3 =>
  pv (nilO v3) fun v4 =>
  ldN 6 v4 fun v5 =>
  al Pg 92 fun v6 =>
  stN 6 v6 v5 fun _ =>
  pv (nilO x0) fun v7 =>
  pv (faO 7 v7) fun v8 =>
  st1 v8 (.pointer none) fun _ =>
  drewV (
  ldN 6 v6 fun v9 =>
  mem fun w11 => valV Pg noR (Instr.buildSlice 66 1 ⟨[(0, v9)]⟩) fun v10 =>
  R (.returned (.tuple ⟨[(.slice none 0 0), v10]⟩)))
theorem F51_j2_ok (R : ER) (e : Env) : den Pg R (cd Tryz.f51 [1,1,1,1,1]) e (kont Pg R Tryz.f51) = (F51_j2 R (e 0)) := by kernel_rfl
def F51_j3 (R : ER) (x0 : Value) : WP :=
  pv (nilO x0) fun v12 =>
  pv (faO 0 v12) fun v13 =>
  ld1 v13 fun v14 =>
  cal Pg R 50 ⟨[v14]⟩ fun v15 =>
  pv (bin .gtr v15 (.int .i64 1)) fun v16 =>
  gd v16 false (pv (some x0)) fun v17 =>
  gd v16 false (pv (nilO v17)) fun v18 =>
  gd v16 false (pv (faO 7 v18)) fun v19 =>
  gd v16 false (ld1 v19) fun v20 =>
  gd v16 false (pv (eqNilP v20)) fun v21 =>
  pv (pickO v16 (.bool true) v21) fun v22 =>
  cnd v22 (
   R (.returned (.tuple ⟨[(.slice none 0 0), (.slice none 0 0)]⟩))) (
   F51_j2 R x0)
theorem F51_j3_ok (R : ER) (e : Env) : den Pg R (cd Tryz.f51 [1,1,1,1,0]) e (setN (kont Pg R Tryz.f51) (fun e => F51_j2 R (e 0))) = (F51_j3 R (e 0)) := (by kernel_rfl)
def F51_j1 (R : ER) (x0 x3 : Value) : WP :=
  pv (nilO x0) fun v23 =>
  pv (faO 3 v23) fun v24 =>
  ld1 v24 fun v25 =>
  pv (bin .add v25 (.int .i64 1)) fun v26 =>
  pv (nilO x0) fun v27 =>
  pv (faO 3 v27) fun v28 =>
  st1 v28 v26 fun _ =>
  drewV (
  ldN 2 x3 fun v29 =>
  mem fun w31 => cal Pg noR 41 ⟨[v29]⟩ fun v30 =>
  pv (nilO x0) fun v32 =>
  pv (faO 3 v32) fun v33 =>
  ld1S [w31] v33 fun v34 =>
  pv (bldO [.int .i64 0, .slice none 0 0, .int .i64 0] [(0,2, v30), (2,1, v34)]) fun v35 =>
  mem fun w37 => cal Pg noR 78 ⟨[(.iface 23 x0), (.iface 97 v35)]⟩ fun v36 =>
  F51_j3 R x0)
theorem F51_j1_ok (R : ER) (e : Env) : den Pg R (cd Tryz.f51 [1,1]) e (kont Pg R Tryz.f51) = (F51_j1 R (e 0) (e 3)) := (den_join Pg R 2 (cd Tryz.f51 [1,1]) (cd Tryz.f51 [1,1,1,1,1]) e (kont Pg R Tryz.f51) (fun e => F51_j2 R (e 0)) _ (by kernel_rfl) (fun e => F51_j2_ok R e) (den_join Pg R 1 (pre 2 (cd Tryz.f51 [1,1])) (cd Tryz.f51 [1,1,1,1,0]) e (setN (kont Pg R Tryz.f51) (fun e => F51_j2 R (e 0))) (fun e => F51_j3 R (e 0)) _ (by kernel_rfl) (fun e => F51_j3_ok R e) (by kernel_rfl)))
def F51_j4 (R : ER) (x0 x3 : Value) : WP :=
  pv (nilO x0) fun v38 =>
  pv (faO 5 v38) fun v39 =>
  pv (faO 0 v39) fun v40 =>
  ld1 v40 fun v41 =>
  pv (lenS v41) fun v42 =>
  pv (bin .gtr v42 (.int .i64 0)) fun v43 =>
  cnd v43 (
   drewV (
   pv (nilO x0) fun v44 =>
   pv (faO 5 v44) fun v45 =>
   mem fun w47 => cal Pg noR 77 ⟨[v45]⟩ fun v46 =>
   pv (fld1 0 v46) fun v48 =>
   ldNS [w47] 2 x3 fun v49 =>
   mem fun w51 => cal Pg noR 41 ⟨[v49]⟩ fun v50 =>
   pv (bldO [.int .i64 0, .int .i64 0, .slice none 0 0, .int .i64 0] [(0,1, v48), (1,2, v50)]) fun v52 =>
   mem fun w54 => valV Pg noR (Instr.buildSlice 65 1 ⟨[(0, v52)]⟩) fun v53 =>
   R (.returned (.tuple ⟨[v53, (.slice none 0 0)]⟩)))) (
   F51_j1 R x0 x3)
theorem F51_j4_ok (R : ER) (e : Env) : den Pg R (cd Tryz.f51 [1,0]) e (setN (kont Pg R Tryz.f51) (fun e => F51_j1 R (e 0) (e 3))) = (F51_j4 R (e 0) (e 3)) := (by kernel_rfl)
def F51 (R : ER) (x0 x1 : Value) : WP :=
  bx 43 x1 fun v55 =>
  F51_j4 R x0 v55
theorem F51_den (R : ER) (x0 x1 : Value) : den Pg R (cd Tryz.f51 []) (argsEnv [x0, x1]) (kont Pg R Tryz.f51) = F51 R x0 x1 :=
  have h : ∀ e, den Pg R (cd Tryz.f51 []) e (kont Pg R Tryz.f51) = F51 R (e 0) (e 1) := fun e => (den_join Pg R 1 (cd Tryz.f51 []) (cd Tryz.f51 [1,1]) e (kont Pg R Tryz.f51) (fun e => F51_j1 R (e 0) (e 3)) _ (by kernel_rfl) (fun e => F51_j1_ok R e) (den_join Pg R 0 (pre 1 (cd Tryz.f51 [])) (cd Tryz.f51 [1,0]) e (setN (kont Pg R Tryz.f51) (fun e => F51_j1 R (e 0) (e 3))) (fun e => F51_j4 R (e 0) (e 3)) _ (by kernel_rfl) (fun e => F51_j4_ok R e) (by kernel_rfl)))
  h _
theorem F51_calls {R : ER} {x0 x1 : Value} {w : World} (h : F51 R x0 x1 w) : Calls Pg 51 ⟨[x0, x1]⟩ w R :=
  calls_of_den Tryz.func51 (by kernel_rfl) (by kernel_rfl) (F51_den R x0 x1) h
/-! ### 52: mqueue_Queue_block -/
def F52 (R : ER) (x0 x1 x2 x3 : Value) : WP :=
  pv (unO .not x1) fun v1 =>
  cnd v1 (
   R (.returned (.int .i64 2))) (
   pv (bin .neq x2 (.int .i64 0)) fun v2 =>
   gd v2 true (pv (some x2)) fun v3 =>
   gd v2 true (pv (some x0)) fun v4 =>
   gd v2 true (pv (nilO v4)) fun v5 =>
   gd v2 true (pv (faO 4 v5)) fun v6 =>
   gd v2 true (ld1 v6) fun v7 =>
   gd v2 true (pv (bin .leq v3 v7)) fun v8 =>
   pv (pickO v2 v8 (.bool false)) fun v9 =>
   cnd v9 (
    R (.returned (.int .i64 37))) (
    pv (bin .geq x3 (.int .i64 64)) fun v10 =>
    cnd v10 (
     R (.returned (.int .i64 18))) (
     R (.returned (.int .i64 0)))))
theorem F52_den (R : ER) (x0 x1 x2 x3 : Value) : den Pg R (cd Tryz.f52 []) (argsEnv [x0, x1, x2, x3]) (kont Pg R Tryz.f52) = F52 R x0 x1 x2 x3 :=
  have h : ∀ e, den Pg R (cd Tryz.f52 []) e (kont Pg R Tryz.f52) = F52 R (e 0) (e 1) (e 2) (e 3) := fun e => (by kernel_rfl)
  h _
theorem F52_calls {R : ER} {x0 x1 x2 x3 : Value} {w : World} (h : F52 R x0 x1 x2 x3 w) : Calls Pg 52 ⟨[x0, x1, x2, x3]⟩ w R :=
  calls_of_den Tryz.func52 (by kernel_rfl) (by kernel_rfl) (F52_den R x0 x1 x2 x3) h
/-! ### 53: heap_Pop -/
def F53 (R : ER) (x0 : Value) : WP :=
  ivk Pg R x0 "Len" ⟨[]⟩ fun v1 =>
  pv (bin .sub v1 (.int .i64 1)) fun v2 =>
  ivk Pg R x0 "Swap" ⟨[(.int .i64 0), v2]⟩ fun v3 =>
  cal Pg R 79 ⟨[x0, (.int .i64 0), v2]⟩ fun v4 =>
  ivk Pg R x0 "Pop" ⟨[]⟩ fun v5 =>
  R (.returned v5)
theorem F53_den (R : ER) (x0 : Value) : den Pg R (cd Tryz.f53 []) (argsEnv [x0]) (kont Pg R Tryz.f53) = F53 R x0 :=
  have h : ∀ e, den Pg R (cd Tryz.f53 []) e (kont Pg R Tryz.f53) = F53 R (e 0) := fun e => by kernel_rfl
  h _
theorem F53_calls {R : ER} {x0 : Value} {w : World} (h : F53 R x0 w) : Calls Pg 53 ⟨[x0]⟩ w R :=
  calls_of_den Tryz.func53 (by kernel_rfl) (by kernel_rfl) (F53_den R x0) h
/-! ### 54: mqueue_waiting_54 -/
def F54 (R : ER) (x0 : Value) : WP :=
  al Pg 113 fun v1 =>
  pv (nilO x0) fun v2 =>
  pv (faO 0 v2) fun v3 =>
  ld1 v3 fun v4 =>
  pv (ixS 4 v4 (.int .i64 0)) fun v5 =>
  ldN 4 v5 fun v6 =>
  al Pg 113 fun v7 =>
  stN 4 v7 v6 fun _ =>
  pv (nilO x0) fun v8 =>
  pv (faO 0 v8) fun v9 =>
  ld1 v9 fun v10 =>
  cal Pg R 80 ⟨[v10, (.int .i64 0), (.int .i64 1)]⟩ fun v11 =>
  pv (nilO x0) fun v12 =>
  pv (faO 0 v12) fun v13 =>
  st1 v13 v11 fun _ =>
  ldN 4 v7 fun v14 =>
  stN 4 v1 v14 fun _ =>
  ldN 4 v1 fun v15 => R (.returned v15)
theorem F54_den (R : ER) (x0 : Value) : den Pg R (cd Tryz.f54 []) (argsEnv [x0]) (kont Pg R Tryz.f54) = F54 R x0 :=
  have h : ∀ e, den Pg R (cd Tryz.f54 []) e (kont Pg R Tryz.f54) = F54 R (e 0) := fun e => by kernel_rfl
  h _
theorem F54_calls {R : ER} {x0 : Value} {w : World} (h : F54 R x0 w) : Calls Pg 54 ⟨[x0]⟩ w R :=
  calls_of_den Tryz.func54 (by kernel_rfl) (by kernel_rfl) (F54_den R x0) h
/-! ### 55: orpimentref25_Queue_blocked -/
def F55 (R : ER) (x0 x1 : Value) : WP :=
  pv (nilO x0) fun v1 =>
  pv (faO 3 v1) fun v2 =>
  ld1 v2 fun v3 =>
  cal Pg R 64 ⟨[v3, x1]⟩ fun v4 =>
  pv (bin .geq v4 (.int .i64 0)) fun v5 =>
  gd v5 false (pv (some x0)) fun v6 =>
  gd v5 false (pv (nilO v6)) fun v7 =>
  gd v5 false (pv (faO 4 v7)) fun v8 =>
  gd v5 false (ld1 v8) fun v9 =>
  gd v5 false (pv (some x1)) fun v10 =>
  gd v5 false (cal Pg R 64 ⟨[v9, v10]⟩) fun v11 =>
  gd v5 false (pv (bin .geq v11 (.int .i64 0))) fun v12 =>
  pv (pickO v5 (.bool true) v12) fun v13 =>
  R (.returned v13)
theorem F55_den (R : ER) (x0 x1 : Value) : den Pg R (cd Tryz.f55 []) (argsEnv [x0, x1]) (kont Pg R Tryz.f55) = F55 R x0 x1 :=
  have h : ∀ e, den Pg R (cd Tryz.f55 []) e (kont Pg R Tryz.f55) = F55 R (e 0) (e 1) := fun e => by kernel_rfl
  h _
theorem F55_calls {R : ER} {x0 x1 : Value} {w : World} (h : F55 R x0 x1 w) : Calls Pg 55 ⟨[x0, x1]⟩ w R :=
  calls_of_den Tryz.func55 (by kernel_rfl) (by kernel_rfl) (F55_den R x0 x1) h
/-! ### 56: orpimentref25_Queue_put -/
def F56_j3 (R : ER) (x0 x8 : Value) : WP :=
  gd x8 true (pv (some x0)) fun v1 =>
  gd x8 true (pv (nilO v1)) fun v2 =>
  gd x8 true (pv (faO 12 v2)) fun v3 =>
  gd x8 true (ld1 v3) fun v4 =>
  pv (pickO x8 v4 (.bool false)) fun v5 =>
  cnd v5 (
   pv (nilO x0) fun v6 =>
   pv (faO 12 v6) fun v7 =>
   st1 v7 (.bool false) fun _ =>
   drewV (
   pv (nilO x0) fun v8 =>
   pv (faO 6 v8) fun v9 =>
   ldN 6 v9 fun v10 =>
   mem fun w12 => valV Pg noR (Instr.buildSlice 78 1 ⟨[(0, v10)]⟩) fun v11 =>
   R (.returned (.tuple ⟨[(.slice none 0 0), v11]⟩)))) (
   R (.returned (.tuple ⟨[(.slice none 0 0), (.slice none 0 0)]⟩)))
theorem F56_j3_ok (R : ER) (e : Env) : den Pg R (cd Tryz.f56 [1,1,1,1,1,1]) e (kont Pg R Tryz.f56) = (F56_j3 R (e 0) (e 8)) := (by kernel_rfl)
def F56_j2 (R : ER) (x0 x3 x7 : Value) : WP :=
  pv (nilO x0) fun v13 =>
  pv (faO 2 v13) fun v14 =>
  ld1 v14 fun v15 =>
  pv (lenS v15) fun v16 =>
  pv (bin .eql v16 (.int .i64 0)) fun v17 =>
  drewV (
  pv (nilO x0) fun v18 =>
  pv (faO 2 v18) fun v19 =>
  ld1 v19 fun v20 =>
  pv (slS 2 v20 none (some x7)) fun v21 =>
  ldN 2 x3 fun v22 =>
  pv (nilO x0) fun v23 =>
  pv (faO 2 v23) fun v24 =>
  ld1 v24 fun v25 =>
  pv (slS 2 v25 (some x7) none) fun v26 =>
  allW [
  (mem fun w28 => valV Pg noR (Instr.buildSlice 48 0 ⟨[]⟩) fun v27 =>
   rd1 v24 v25 <|
   rdN 2 x3 v22 <|
   rd1 v19 v20 <|
   allW [
   (mem fun w30 => blt Pg noR .append ⟨[48,48]⟩ 48 ⟨[false, false]⟩ ⟨[v27, v21]⟩ fun v29 =>
    rd1 v24 v25 <|
    rdN 2 x3 v22 <|
    mem fun w32 => valV Pg noR (Instr.buildSlice 48 1 ⟨[(0, v22)]⟩) fun v31 =>
    rd1 v24 v25 <|
    rd1 v19 v20 <|
    mem fun w34 => blt Pg noR .append ⟨[48,48]⟩ 48 ⟨[false, false]⟩ ⟨[v29, v31]⟩ fun v33 =>
    rd1 v24 v25 <|
    mem fun w36 => blt Pg noR .append ⟨[48,48]⟩ 48 ⟨[false, false]⟩ ⟨[v33, v26]⟩ fun v35 =>
    pv (nilO x0) fun v37 =>
    pv (faO 2 v37) fun v38 =>
    mem fun w40 => st1 v38 v35 fun v39 =>
    F56_j3 R x0 v17),
   (mem fun w42 => valV Pg noR (Instr.buildSlice 48 1 ⟨[(0, v22)]⟩) fun v41 =>
    rd1 v24 v25 <|
    rd1 v19 v20 <|
    mem fun w44 => blt Pg noR .append ⟨[48,48]⟩ 48 ⟨[false, false]⟩ ⟨[v27, v21]⟩ fun v43 =>
    rd1 v24 v25 <|
    rdN 2 x3 v22 <|
    mem fun w46 => blt Pg noR .append ⟨[48,48]⟩ 48 ⟨[false, false]⟩ ⟨[v43, v41]⟩ fun v45 =>
    rd1 v24 v25 <|
    mem fun w48 => blt Pg noR .append ⟨[48,48]⟩ 48 ⟨[false, false]⟩ ⟨[v45, v26]⟩ fun v47 =>
    pv (nilO x0) fun v49 =>
    pv (faO 2 v49) fun v50 =>
    mem fun w52 => st1 v50 v47 fun v51 =>
    F56_j3 R x0 v17)]),
  (mem fun w54 => valV Pg noR (Instr.buildSlice 48 1 ⟨[(0, v22)]⟩) fun v53 =>
   rd1 v24 v25 <|
   rd1 v19 v20 <|
   mem fun w56 => valV Pg noR (Instr.buildSlice 48 0 ⟨[]⟩) fun v55 =>
   rd1 v24 v25 <|
   rdN 2 x3 v22 <|
   rd1 v19 v20 <|
   mem fun w58 => blt Pg noR .append ⟨[48,48]⟩ 48 ⟨[false, false]⟩ ⟨[v55, v21]⟩ fun v57 =>
   rd1 v24 v25 <|
   rdN 2 x3 v22 <|
   mem fun w60 => blt Pg noR .append ⟨[48,48]⟩ 48 ⟨[false, false]⟩ ⟨[v57, v53]⟩ fun v59 =>
   rd1 v24 v25 <|
   mem fun w62 => blt Pg noR .append ⟨[48,48]⟩ 48 ⟨[false, false]⟩ ⟨[v59, v26]⟩ fun v61 =>
   pv (nilO x0) fun v63 =>
   pv (faO 2 v63) fun v64 =>
   mem fun w66 => st1 v64 v61 fun v65 =>
   F56_j3 R x0 v17)])
theorem F56_j2_ok (R : ER) (e : Env) : den Pg R (cd Tryz.f56 [1,1,1,1]) e (kont Pg R Tryz.f56) = (F56_j2 R (e 0) (e 3) (e 7)) := (den_join Pg R 1 (cd Tryz.f56 [1,1,1,1]) (cd Tryz.f56 [1,1,1,1,1,1]) e (kont Pg R Tryz.f56) (fun e => F56_j3 R (e 0) (e 8)) _ (by kernel_rfl) (fun e => F56_j3_ok R e) (by kernel_rfl))
def F56_b1 (R : ER) (k1 : V3) (x0 x3 x7 : Value) : WP :=
  drewV (
  pv (bin .gtr x7 (.int .i64 0)) fun v67 =>
  gd v67 true (pv (some x0)) fun v68 =>
  gd v67 true (pv (nilO v68)) fun v69 =>
  gd v67 true (pv (faO 2 v69)) fun v70 =>
  gd v67 true (ld1 v70) fun v71 =>
  gd v67 true (pv (some x7)) fun v72 =>
  gd v67 true (pv (bin .sub v72 (.int .i64 1))) fun v73 =>
  gd v67 true (pv (ixS 2 v71 v73)) fun v74 =>
  gd v67 true (pv (faO 0 v74)) fun v75 =>
  gd v67 true (ld1 v75) fun v76 =>
  gd v67 true (pv (faO 0 x3)) fun v77 =>
  gd v67 true (ld1 v77) fun v78 =>
  gd v67 true (pv (bin .lss v76 v78)) fun v79 =>
  pv (pickO v67 v79 (.bool false)) fun v80 =>
  cnd v80 (
   pv (bin .sub x7 (.int .i64 1)) fun v81 =>
  k1 x0 x3 v81) (
   F56_j2 R x0 x3 x7))
theorem F56_b1_ok (R : ER) (k1 : V3) (e : Env) : den Pg R (cd Tryz.f56 [1,1,1,0,0,0]) e (setN (inB 0 (setN (kont Pg R Tryz.f56) (fun e => F56_j2 R (e 0) (e 3) (e 7)))) (fun e => k1 (e 0) (e 3) (e 7))) = (F56_b1 R k1 (e 0) (e 3) (e 7)) := (by kernel_rfl)
noncomputable def F56_l1 (R : ER) (n : Nat) : V3 := Nat.rec (motive := fun _ => V3) (fun _ _ _ => fun _ => False) (fun _ ih => fun x0 x3 x7 => F56_b1 R ih x0 x3 x7) n
theorem F56_l1_succ (R : ER) (n : Nat) (x0 x3 x7 : Value) : F56_l1 R (n + 1) x0 x3 x7 = F56_b1 R (F56_l1 R n) x0 x3 x7 := rfl
theorem F56_l1_ok (R : ER) : ∀ (n : Nat) (e : Env), iterL (den Pg R (cd Tryz.f56 [1,1,1,0,0,0])) n e (inB 0 (setN (kont Pg R Tryz.f56) (fun e => F56_j2 R (e 0) (e 3) (e 7)))) = F56_l1 R n (e 0) (e 3) (e 7) :=
  iterL_join (den Pg R (cd Tryz.f56 [1,1,1,0,0,0])) (inB 0 (setN (kont Pg R Tryz.f56) (fun e => F56_j2 R (e 0) (e 3) (e 7)))) (fun n e => F56_l1 R n (e 0) (e 3) (e 7)) (fun _ => rfl) (fun n e => (F56_b1_ok R (F56_l1 R n) e).trans (F56_l1_succ R n (e 0) (e 3) (e 7)).symm)
def F56_j4 (R : ER) (x0 x3 x7 : Value) : WP :=
  exN fun n => F56_l1 R n x0 x3 x7
theorem F56_j4_ok (R : ER) (e : Env) : den Pg R (cd Tryz.f56 [1,1,1,0]) e (setN (kont Pg R Tryz.f56) (fun e => F56_j2 R (e 0) (e 3) (e 7))) = (F56_j4 R (e 0) (e 3) (e 7)) := (den_block Pg R (cd Tryz.f56 [1,1,1,0]) 0 (cd Tryz.f56 [1,1,1,0,0]) e (setN (kont Pg R Tryz.f56) (fun e => F56_j2 R (e 0) (e 3) (e 7))) _ (by kernel_rfl) (den_loop Pg R (cd Tryz.f56 [1,1,1,0,0]) (cd Tryz.f56 [1,1,1,0,0,0]) e (inB 0 (setN (kont Pg R Tryz.f56) (fun e => F56_j2 R (e 0) (e 3) (e 7)))) (fun n e => F56_l1 R n (e 0) (e 3) (e 7)) _ (by kernel_rfl) (F56_l1_ok R) (by kernel_rfl)))
def F56_j1 (R : ER) (x0 x3 : Value) : WP :=
  pv (nilO x0) fun v82 =>
  pv (faO 2 v82) fun v83 =>
  ld1 v83 fun v84 =>
  pv (lenS v84) fun v85 =>
  F56_j4 R x0 x3 v85
theorem F56_j1_ok (R : ER) (e : Env) : den Pg R (cd Tryz.f56 [1,1]) e (kont Pg R Tryz.f56) = (F56_j1 R (e 0) (e 3)) := (den_join Pg R 1 (cd Tryz.f56 [1,1]) (cd Tryz.f56 [1,1,1,1]) e (kont Pg R Tryz.f56) (fun e => F56_j2 R (e 0) (e 3) (e 7)) _ (by kernel_rfl) (fun e => F56_j2_ok R e) (den_join Pg R 0 (pre 1 (cd Tryz.f56 [1,1])) (cd Tryz.f56 [1,1,1,0]) e (setN (kont Pg R Tryz.f56) (fun e => F56_j2 R (e 0) (e 3) (e 7))) (fun e => F56_j4 R (e 0) (e 3) (e 7)) _ (by kernel_rfl) (fun e => F56_j4_ok R e) (by kernel_rfl)))
def F56_j7 (R : ER) (x0 x3 : Value) : WP :=
  pv (nilO x0) fun v86 =>
  pv (faO 4 v86) fun v87 =>
  ld1 v87 fun v88 =>
  pv (ixS 4 v88 (.int .i64 0)) fun v89 =>
  ldN 4 v89 fun v90 =>
  al Pg 124 fun v91 =>
  stN 4 v91 v90 fun _ =>
  pv (nilO x0) fun v92 =>
  pv (faO 4 v92) fun v93 =>
  ld1 v93 fun v94 =>
  pv (slS 4 v94 (some (.int .i64 1)) none) fun v95 =>
  pv (nilO x0) fun v96 =>
  pv (faO 4 v96) fun v97 =>
  st1 v97 v95 fun _ =>
  pv (faO 0 v91) fun v98 =>
  ld1 v98 fun v99 =>
  ldN 2 x3 fun v100 =>
  pv (bldO [.int .i64 0, .int .i64 0, .slice none 0 0, .int .i64 0] [(0,1, v99), (1,2, v100)]) fun v101 =>
  valV Pg R (Instr.buildSlice 77 1 ⟨[(0, v101)]⟩) fun v102 =>
  R (.returned (.tuple ⟨[v102, (.slice none 0 0)]⟩))
theorem F56_j7_ok (R : ER) (e : Env) : den Pg R (cd Tryz.f56 [1,0,1,0]) e (setN (kont Pg R Tryz.f56) (fun e => F56_j1 R (e 0) (e 3))) = (F56_j7 R (e 0) (e 3)) := by kernel_rfl
def F56_j6 (R : ER) (x0 x3 x14 : Value) : WP :=
  cnd x14 (F56_j7 R x0 x3) (F56_j1 R x0 x3)
theorem F56_j6_ok (R : ER) (e : Env) : den Pg R (cd Tryz.f56 [1,0,1]) e (setN (kont Pg R Tryz.f56) (fun e => F56_j1 R (e 0) (e 3))) = (F56_j6 R (e 0) (e 3) (e 14)) := (den_if Pg R (cd Tryz.f56 [1,0,1]) (cd Tryz.f56 [1,0,1,0]) (cd Tryz.f56 [1,0,1,1]) e (setN (kont Pg R Tryz.f56) (fun e => F56_j1 R (e 0) (e 3))) (F56_j7 R (e 0) (e 3)) _ _ (by kernel_rfl) (F56_j7_ok R e) rfl (by kernel_rfl))
def F56_j5 (R : ER) (x0 x3 : Value) : WP :=
  pv (nilO x0) fun v103 =>
  pv (faO 4 v103) fun v104 =>
  ld1 v104 fun v105 =>
  pv (lenS v105) fun v106 =>
  pv (bin .gtr v106 (.int .i64 0)) fun v107 =>
  F56_j6 R x0 x3 v107
theorem F56_j5_ok (R : ER) (e : Env) : den Pg R (cd Tryz.f56 [1,0]) e (setN (kont Pg R Tryz.f56) (fun e => F56_j1 R (e 0) (e 3))) = (F56_j5 R (e 0) (e 3)) := (den_join Pg R 0 (cd Tryz.f56 [1,0]) (cd Tryz.f56 [1,0,1]) e (setN (kont Pg R Tryz.f56) (fun e => F56_j1 R (e 0) (e 3))) (fun e => F56_j6 R (e 0) (e 3) (e 14)) _ (by kernel_rfl) (fun e => F56_j6_ok R e) (by kernel_rfl))
def F56 (R : ER) (x0 x1 : Value) : WP :=
  bx 49 x1 fun v108 =>
  F56_j5 R x0 v108
theorem F56_den (R : ER) (x0 x1 : Value) : den Pg R (cd Tryz.f56 []) (argsEnv [x0, x1]) (kont Pg R Tryz.f56) = F56 R x0 x1 :=
  have h : ∀ e, den Pg R (cd Tryz.f56 []) e (kont Pg R Tryz.f56) = F56 R (e 0) (e 1) := fun e => (den_join Pg R 1 (cd Tryz.f56 []) (cd Tryz.f56 [1,1]) e (kont Pg R Tryz.f56) (fun e => F56_j1 R (e 0) (e 3)) _ (by kernel_rfl) (fun e => F56_j1_ok R e) (den_join Pg R 0 (pre 1 (cd Tryz.f56 [])) (cd Tryz.f56 [1,0]) e (setN (kont Pg R Tryz.f56) (fun e => F56_j1 R (e 0) (e 3))) (fun e => F56_j5 R (e 0) (e 3)) _ (by kernel_rfl) (fun e => F56_j5_ok R e) (by kernel_rfl)))
  h _
theorem F56_calls {R : ER} {x0 x1 : Value} {w : World} (h : F56 R x0 x1 w) : Calls Pg 56 ⟨[x0, x1]⟩ w R :=
  calls_of_den Tryz.func56 (by kernel_rfl) (by kernel_rfl) (F56_den R x0 x1) h
/-! ### 57: orpimentref25_Queue_waits -/
def F57_j1 (R : ER) (x0 x2 x3 : Value) : WP :=
  pv (bin .neq x2 (.int .i64 0)) fun v1 =>
  gd v1 true (pv (some x2)) fun v2 =>
  gd v1 true (pv (some x0)) fun v3 =>
  gd v1 true (pv (nilO v3)) fun v4 =>
  gd v1 true (pv (faO 5 v4)) fun v5 =>
  gd v1 true (ld1 v5) fun v6 =>
  gd v1 true (pv (bin .leq v2 v6)) fun v7 =>
  pv (pickO v1 v7 (.bool false)) fun v8 =>
  cnd v8 (
   R (.returned (.int .i64 37))) (
   pv (lenS x3) fun v9 =>
  pv (bin .geq v9 (.int .i64 64)) fun v10 =>
  cnd v10 (
   R (.returned (.int .i64 18))) (
   R (.returned (.int .i64 0))))
theorem F57_j1_ok (R : ER) (e : Env) : den Pg R (cd Tryz.f57 [1,1]) e (kont Pg R Tryz.f57) = (F57_j1 R (e 0) (e 2) (e 3)) := (by kernel_rfl)
def F57 (R : ER) (x0 x1 x2 x3 : Value) : WP :=
  pv (unO .not x1) fun v11 =>
  cnd v11 (
   R (.returned (.int .i64 2))) (
   F57_j1 R x0 x2 x3)
theorem F57_den (R : ER) (x0 x1 x2 x3 : Value) : den Pg R (cd Tryz.f57 []) (argsEnv [x0, x1, x2, x3]) (kont Pg R Tryz.f57) = F57 R x0 x1 x2 x3 :=
  have h : ∀ e, den Pg R (cd Tryz.f57 []) e (kont Pg R Tryz.f57) = F57 R (e 0) (e 1) (e 2) (e 3) := fun e => (den_join Pg R 1 (cd Tryz.f57 []) (cd Tryz.f57 [1,1]) e (kont Pg R Tryz.f57) (fun e => F57_j1 R (e 0) (e 2) (e 3)) _ (by kernel_rfl) (fun e => F57_j1_ok R e) (by kernel_rfl))
  h _
theorem F57_calls {R : ER} {x0 x1 x2 x3 : Value} {w : World} (h : F57 R x0 x1 x2 x3 w) : Calls Pg 57 ⟨[x0, x1, x2, x3]⟩ w R :=
  calls_of_den Tryz.func57 (by kernel_rfl) (by kernel_rfl) (F57_den R x0 x1 x2 x3) h
/-! ### 58: slices_EqualFunc_58 -/
def F58_j2 (R : ER) : WP :=
  R (.returned (.bool true))
theorem F58_j2_ok (R : ER) (e : Env) : den Pg R (cd Tryz.f58 [1,1,1]) e (kont Pg R Tryz.f58) = (F58_j2 R) := by kernel_rfl
def F58_j5 (R : ER) (k1 : V5) (x1 x2 x15 x16 x17 : Value) : WP :=
  pv (ixS 4 x15 x17) fun v1 =>
  ldN 4 v1 fun v2 =>
  al Pg 119 fun v3 =>
  stN 4 v3 v2 fun _ =>
  pv (ixS 4 x1 x17) fun v4 =>
  ldN 4 v4 fun v5 =>
  al Pg 127 fun v6 =>
  stN 4 v6 v5 fun _ =>
  ldN 4 v3 fun v7 =>
  ldN 4 v6 fun v8 =>
  calD Pg R x2 ⟨[v7, v8]⟩ fun v9 =>
  pv (unO .not v9) fun v10 =>
  cnd v10 (
   R (.returned (.bool false))) (
   pv (bin .add x17 (.int .i64 1)) fun v11 =>
  k1 x1 x2 x15 x16 v11)
theorem F58_j5_ok (R : ER) (k1 : V5) (e : Env) : den Pg R (cd Tryz.f58 [1,1,0,1,0,0,1,1]) e (setN (inB 0 (setN (kont Pg R Tryz.f58) (fun e => F58_j2 R))) (fun e => k1 (e 1) (e 2) (e 15) (e 16) (e 17))) = (F58_j5 R k1 (e 1) (e 2) (e 15) (e 16) (e 17)) := (by kernel_rfl)
def F58_b1 (R : ER) (k1 : V5) (x1 x2 x15 x16 x17 : Value) : WP :=
  pv (bin .lss x17 x16) fun v12 =>
  cnd v12 (
   F58_j5 R k1 x1 x2 x15 x16 x17) (
   F58_j2 R)
theorem F58_b1_ok (R : ER) (k1 : V5) (e : Env) : den Pg R (cd Tryz.f58 [1,1,0,1,0,0]) e (setN (inB 0 (setN (kont Pg R Tryz.f58) (fun e => F58_j2 R))) (fun e => k1 (e 1) (e 2) (e 15) (e 16) (e 17))) = (F58_b1 R k1 (e 1) (e 2) (e 15) (e 16) (e 17)) := (den_join Pg R 1 (cd Tryz.f58 [1,1,0,1,0,0]) (cd Tryz.f58 [1,1,0,1,0,0,1,1]) e (setN (inB 0 (setN (kont Pg R Tryz.f58) (fun e => F58_j2 R))) (fun e => k1 (e 1) (e 2) (e 15) (e 16) (e 17))) (fun e => F58_j5 R k1 (e 1) (e 2) (e 15) (e 16) (e 17)) _ (by kernel_rfl) (fun e => F58_j5_ok R k1 e) (by kernel_rfl))
noncomputable def F58_l1 (R : ER) (n : Nat) : V5 := Nat.rec (motive := fun _ => V5) (fun _ _ _ _ _ => fun _ => False) (fun _ ih => fun x1 x2 x15 x16 x17 => F58_b1 R ih x1 x2 x15 x16 x17) n
theorem F58_l1_succ (R : ER) (n : Nat) (x1 x2 x15 x16 x17 : Value) : F58_l1 R (n + 1) x1 x2 x15 x16 x17 = F58_b1 R (F58_l1 R n) x1 x2 x15 x16 x17 := rfl
theorem F58_l1_ok (R : ER) : ∀ (n : Nat) (e : Env), iterL (den Pg R (cd Tryz.f58 [1,1,0,1,0,0])) n e (inB 0 (setN (kont Pg R Tryz.f58) (fun e => F58_j2 R))) = F58_l1 R n (e 1) (e 2) (e 15) (e 16) (e 17) :=
  iterL_join (den Pg R (cd Tryz.f58 [1,1,0,1,0,0])) (inB 0 (setN (kont Pg R Tryz.f58) (fun e => F58_j2 R))) (fun n e => F58_l1 R n (e 1) (e 2) (e 15) (e 16) (e 17)) (fun _ => rfl) (fun n e => (F58_b1_ok R (F58_l1 R n) e).trans (F58_l1_succ R n (e 1) (e 2) (e 15) (e 16) (e 17)).symm)
def F58_j4 (R : ER) (x1 x2 x15 x16 x17 : Value) : WP :=
  exN fun n => F58_l1 R n x1 x2 x15 x16 x17
theorem F58_j4_ok (R : ER) (e : Env) : den Pg R (cd Tryz.f58 [1,1,0,1]) e (setN (kont Pg R Tryz.f58) (fun e => F58_j2 R)) = (F58_j4 R (e 1) (e 2) (e 15) (e 16) (e 17)) := (den_block Pg R (cd Tryz.f58 [1,1,0,1]) 0 (cd Tryz.f58 [1,1,0,1,0]) e (setN (kont Pg R Tryz.f58) (fun e => F58_j2 R)) _ (by kernel_rfl) (den_loop Pg R (cd Tryz.f58 [1,1,0,1,0]) (cd Tryz.f58 [1,1,0,1,0,0]) e (inB 0 (setN (kont Pg R Tryz.f58) (fun e => F58_j2 R))) (fun n e => F58_l1 R n (e 1) (e 2) (e 15) (e 16) (e 17)) _ (by kernel_rfl) (F58_l1_ok R) (by kernel_rfl)))
def F58_j3 (R : ER) (x0 x1 x2 : Value) : WP :=
  pv (lenS x0) fun v13 =>
  F58_j4 R x1 x2 x0 v13 (.int .i64 0)
theorem F58_j3_ok (R : ER) (e : Env) : den Pg R (cd Tryz.f58 [1,1,0]) e (setN (kont Pg R Tryz.f58) (fun e => F58_j2 R)) = (F58_j3 R (e 0) (e 1) (e 2)) := (den_join Pg R 0 (cd Tryz.f58 [1,1,0]) (cd Tryz.f58 [1,1,0,1]) e (setN (kont Pg R Tryz.f58) (fun e => F58_j2 R)) (fun e => F58_j4 R (e 1) (e 2) (e 15) (e 16) (e 17)) _ (by kernel_rfl) (fun e => F58_j4_ok R e) (by kernel_rfl))
def F58_j1 (R : ER) (x0 x1 x2 : Value) : WP :=
  F58_j3 R x0 x1 x2
theorem F58_j1_ok (R : ER) (e : Env) : den Pg R (cd Tryz.f58 [1,1]) e (kont Pg R Tryz.f58) = (F58_j1 R (e 0) (e 1) (e 2)) := (den_join Pg R 0 (cd Tryz.f58 [1,1]) (cd Tryz.f58 [1,1,1]) e (kont Pg R Tryz.f58) (fun e => F58_j2 R) _ (by kernel_rfl) (fun e => F58_j2_ok R e) (den_conv Pg R (pre 0 (cd Tryz.f58 [1,1])) (cd Tryz.f58 [1,1,0]) e (setN (kont Pg R Tryz.f58) (fun e => F58_j2 R)) _ (by kernel_rfl) (F58_j3_ok R e)))
def F58 (R : ER) (x0 x1 x2 : Value) : WP :=
  pv (lenS x0) fun v14 =>
  pv (lenS x1) fun v15 =>
  pv (bin .neq v14 v15) fun v16 =>
  cnd v16 (
   R (.returned (.bool false))) (
   F58_j1 R x0 x1 x2)
theorem F58_den (R : ER) (x0 x1 x2 : Value) : den Pg R (cd Tryz.f58 []) (argsEnv [x0, x1, x2]) (kont Pg R Tryz.f58) = F58 R x0 x1 x2 :=
  have h : ∀ e, den Pg R (cd Tryz.f58 []) e (kont Pg R Tryz.f58) = F58 R (e 0) (e 1) (e 2) := fun e => (den_join Pg R 1 (cd Tryz.f58 []) (cd Tryz.f58 [1,1]) e (kont Pg R Tryz.f58) (fun e => F58_j1 R (e 0) (e 1) (e 2)) _ (by kernel_rfl) (fun e => F58_j1_ok R e) (by kernel_rfl))
  h _
theorem F58_calls {R : ER} {x0 x1 x2 : Value} {w : World} (h : F58 R x0 x1 x2 w) : Calls Pg 58 ⟨[x0, x1, x2]⟩ w R :=
  calls_of_den Tryz.func58 (by kernel_rfl) (by kernel_rfl) (F58_den R x0 x1 x2) h
/-! ### 59: orpimentlaw25_ends_1 -/
def F59 (R : ER) (x0 x1 : Value) : WP :=
  bx 119 x0 fun v1 =>
  bx 127 x1 fun v2 =>
  pv (faO 0 v1) fun v3 =>
  ld1 v3 fun v4 =>
  pv (faO 0 v2) fun v5 =>
  ld1 v5 fun v6 =>
  pv (bin .eql v4 v6) fun v7 =>
  gd v7 true (pv (faO 3 v1)) fun v8 =>
  gd v7 true (ld1 v8) fun v9 =>
  gd v7 true (pv (faO 3 v2)) fun v10 =>
  gd v7 true (ld1 v10) fun v11 =>
  gd v7 true (pv (bin .eql v9 v11)) fun v12 =>
  pv (pickO v7 v12 (.bool false)) fun v13 =>
  gd v13 true (pv (faO 1 v1)) fun v14 =>
  gd v13 true (ldN 2 v14) fun v15 =>
  gd v13 true (pv (faO 1 v2)) fun v16 =>
  gd v13 true (ldN 2 v16) fun v17 =>
  gd v13 true (cal Pg R 20 ⟨[v15, v17]⟩) fun v18 =>
  pv (pickO v13 v18 (.bool false)) fun v19 =>
  R (.returned v19)
theorem F59_den (R : ER) (x0 x1 : Value) : den Pg R (cd Tryz.f59 []) (argsEnv [x0, x1]) (kont Pg R Tryz.f59) = F59 R x0 x1 :=
  have h : ∀ e, den Pg R (cd Tryz.f59 []) e (kont Pg R Tryz.f59) = F59 R (e 0) (e 1) := fun e => by kernel_rfl
  h _
theorem F59_calls {R : ER} {x0 x1 : Value} {w : World} (h : F59 R x0 x1 w) : Calls Pg 59 ⟨[x0, x1]⟩ w R :=
  calls_of_den Tryz.func59 (by kernel_rfl) (by kernel_rfl) (F59_den R x0 x1) h
/-! ### 60: slices_EqualFunc_60 -/
def F60_j2 (R : ER) : WP :=
  R (.returned (.bool true))
theorem F60_j2_ok (R : ER) (e : Env) : den Pg R (cd Tryz.f60 [1,1,1]) e (kont Pg R Tryz.f60) = (F60_j2 R) := by kernel_rfl
def F60_j5 (R : ER) (k1 : V5) (x1 x2 x15 x16 x17 : Value) : WP :=
  pv (ixS 6 x15 x17) fun v1 =>
  ldN 6 v1 fun v2 =>
  al Pg 92 fun v3 =>
  stN 6 v3 v2 fun _ =>
  pv (ixS 6 x1 x17) fun v4 =>
  ldN 6 v4 fun v5 =>
  al Pg 73 fun v6 =>
  stN 6 v6 v5 fun _ =>
  ldN 6 v3 fun v7 =>
  ldN 6 v6 fun v8 =>
  calD Pg R x2 ⟨[v7, v8]⟩ fun v9 =>
  pv (unO .not v9) fun v10 =>
  cnd v10 (
   R (.returned (.bool false))) (
   pv (bin .add x17 (.int .i64 1)) fun v11 =>
  k1 x1 x2 x15 x16 v11)
theorem F60_j5_ok (R : ER) (k1 : V5) (e : Env) : den Pg R (cd Tryz.f60 [1,1,0,1,0,0,1,1]) e (setN (inB 0 (setN (kont Pg R Tryz.f60) (fun e => F60_j2 R))) (fun e => k1 (e 1) (e 2) (e 15) (e 16) (e 17))) = (F60_j5 R k1 (e 1) (e 2) (e 15) (e 16) (e 17)) := (by kernel_rfl)
def F60_b1 (R : ER) (k1 : V5) (x1 x2 x15 x16 x17 : Value) : WP :=
  pv (bin .lss x17 x16) fun v12 =>
  cnd v12 (
   F60_j5 R k1 x1 x2 x15 x16 x17) (
   F60_j2 R)
theorem F60_b1_ok (R : ER) (k1 : V5) (e : Env) : den Pg R (cd Tryz.f60 [1,1,0,1,0,0]) e (setN (inB 0 (setN (kont Pg R Tryz.f60) (fun e => F60_j2 R))) (fun e => k1 (e 1) (e 2) (e 15) (e 16) (e 17))) = (F60_b1 R k1 (e 1) (e 2) (e 15) (e 16) (e 17)) := (den_join Pg R 1 (cd Tryz.f60 [1,1,0,1,0,0]) (cd Tryz.f60 [1,1,0,1,0,0,1,1]) e (setN (inB 0 (setN (kont Pg R Tryz.f60) (fun e => F60_j2 R))) (fun e => k1 (e 1) (e 2) (e 15) (e 16) (e 17))) (fun e => F60_j5 R k1 (e 1) (e 2) (e 15) (e 16) (e 17)) _ (by kernel_rfl) (fun e => F60_j5_ok R k1 e) (by kernel_rfl))
noncomputable def F60_l1 (R : ER) (n : Nat) : V5 := Nat.rec (motive := fun _ => V5) (fun _ _ _ _ _ => fun _ => False) (fun _ ih => fun x1 x2 x15 x16 x17 => F60_b1 R ih x1 x2 x15 x16 x17) n
theorem F60_l1_succ (R : ER) (n : Nat) (x1 x2 x15 x16 x17 : Value) : F60_l1 R (n + 1) x1 x2 x15 x16 x17 = F60_b1 R (F60_l1 R n) x1 x2 x15 x16 x17 := rfl
theorem F60_l1_ok (R : ER) : ∀ (n : Nat) (e : Env), iterL (den Pg R (cd Tryz.f60 [1,1,0,1,0,0])) n e (inB 0 (setN (kont Pg R Tryz.f60) (fun e => F60_j2 R))) = F60_l1 R n (e 1) (e 2) (e 15) (e 16) (e 17) :=
  iterL_join (den Pg R (cd Tryz.f60 [1,1,0,1,0,0])) (inB 0 (setN (kont Pg R Tryz.f60) (fun e => F60_j2 R))) (fun n e => F60_l1 R n (e 1) (e 2) (e 15) (e 16) (e 17)) (fun _ => rfl) (fun n e => (F60_b1_ok R (F60_l1 R n) e).trans (F60_l1_succ R n (e 1) (e 2) (e 15) (e 16) (e 17)).symm)
def F60_j4 (R : ER) (x1 x2 x15 x16 x17 : Value) : WP :=
  exN fun n => F60_l1 R n x1 x2 x15 x16 x17
theorem F60_j4_ok (R : ER) (e : Env) : den Pg R (cd Tryz.f60 [1,1,0,1]) e (setN (kont Pg R Tryz.f60) (fun e => F60_j2 R)) = (F60_j4 R (e 1) (e 2) (e 15) (e 16) (e 17)) := (den_block Pg R (cd Tryz.f60 [1,1,0,1]) 0 (cd Tryz.f60 [1,1,0,1,0]) e (setN (kont Pg R Tryz.f60) (fun e => F60_j2 R)) _ (by kernel_rfl) (den_loop Pg R (cd Tryz.f60 [1,1,0,1,0]) (cd Tryz.f60 [1,1,0,1,0,0]) e (inB 0 (setN (kont Pg R Tryz.f60) (fun e => F60_j2 R))) (fun n e => F60_l1 R n (e 1) (e 2) (e 15) (e 16) (e 17)) _ (by kernel_rfl) (F60_l1_ok R) (by kernel_rfl)))
def F60_j3 (R : ER) (x0 x1 x2 : Value) : WP :=
  pv (lenS x0) fun v13 =>
  F60_j4 R x1 x2 x0 v13 (.int .i64 0)
theorem F60_j3_ok (R : ER) (e : Env) : den Pg R (cd Tryz.f60 [1,1,0]) e (setN (kont Pg R Tryz.f60) (fun e => F60_j2 R)) = (F60_j3 R (e 0) (e 1) (e 2)) := (den_join Pg R 0 (cd Tryz.f60 [1,1,0]) (cd Tryz.f60 [1,1,0,1]) e (setN (kont Pg R Tryz.f60) (fun e => F60_j2 R)) (fun e => F60_j4 R (e 1) (e 2) (e 15) (e 16) (e 17)) _ (by kernel_rfl) (fun e => F60_j4_ok R e) (by kernel_rfl))
def F60_j1 (R : ER) (x0 x1 x2 : Value) : WP :=
  F60_j3 R x0 x1 x2
theorem F60_j1_ok (R : ER) (e : Env) : den Pg R (cd Tryz.f60 [1,1]) e (kont Pg R Tryz.f60) = (F60_j1 R (e 0) (e 1) (e 2)) := (den_join Pg R 0 (cd Tryz.f60 [1,1]) (cd Tryz.f60 [1,1,1]) e (kont Pg R Tryz.f60) (fun e => F60_j2 R) _ (by kernel_rfl) (fun e => F60_j2_ok R e) (den_conv Pg R (pre 0 (cd Tryz.f60 [1,1])) (cd Tryz.f60 [1,1,0]) e (setN (kont Pg R Tryz.f60) (fun e => F60_j2 R)) _ (by kernel_rfl) (F60_j3_ok R e)))
def F60 (R : ER) (x0 x1 x2 : Value) : WP :=
  pv (lenS x0) fun v14 =>
  pv (lenS x1) fun v15 =>
  pv (bin .neq v14 v15) fun v16 =>
  cnd v16 (
   R (.returned (.bool false))) (
   F60_j1 R x0 x1 x2)
theorem F60_den (R : ER) (x0 x1 x2 : Value) : den Pg R (cd Tryz.f60 []) (argsEnv [x0, x1, x2]) (kont Pg R Tryz.f60) = F60 R x0 x1 x2 :=
  have h : ∀ e, den Pg R (cd Tryz.f60 []) e (kont Pg R Tryz.f60) = F60 R (e 0) (e 1) (e 2) := fun e => (den_join Pg R 1 (cd Tryz.f60 []) (cd Tryz.f60 [1,1]) e (kont Pg R Tryz.f60) (fun e => F60_j1 R (e 0) (e 1) (e 2)) _ (by kernel_rfl) (fun e => F60_j1_ok R e) (by kernel_rfl))
  h _
theorem F60_calls {R : ER} {x0 x1 x2 : Value} {w : World} (h : F60 R x0 x1 x2 w) : Calls Pg 60 ⟨[x0, x1, x2]⟩ w R :=
  calls_of_den Tryz.func60 (by kernel_rfl) (by kernel_rfl) (F60_den R x0 x1 x2) h
/-! ### 61: orpimentlaw25_notices_1 -/
def F61 (R : ER) (x0 x1 : Value) : WP :=
  bx 92 x0 fun v1 =>
  bx 73 x1 fun v2 =>
  ldN 6 v1 fun v3 =>
  ldN 6 v2 fun v4 =>
  pv (eqAgg [0,0,0,0,0,0] v3 v4) fun v5 =>
  R (.returned v5)
theorem F61_den (R : ER) (x0 x1 : Value) : den Pg R (cd Tryz.f61 []) (argsEnv [x0, x1]) (kont Pg R Tryz.f61) = F61 R x0 x1 :=
  have h : ∀ e, den Pg R (cd Tryz.f61 []) e (kont Pg R Tryz.f61) = F61 R (e 0) (e 1) := fun e => by kernel_rfl
  h _
theorem F61_calls {R : ER} {x0 x1 : Value} {w : World} (h : F61 R x0 x1 w) : Calls Pg 61 ⟨[x0, x1]⟩ w R :=
  calls_of_den Tryz.func61 (by kernel_rfl) (by kernel_rfl) (F61_den R x0 x1) h
/-! ### 62: mqueue_waiting_62 -/
def F62 (R : ER) (x0 x1 : Value) : WP :=
  bx 3 x1 fun v1 =>
  pv (nilO x0) fun v2 =>
  pv (faO 0 v2) fun v3 =>
  ld1 v3 fun v4 =>
  pv (lenS v4) fun v5 =>
  pv (nilO x0) fun v6 =>
  pv (faO 0 v6) fun v7 =>
  ld1 v7 fun v8 =>
  cal Pg R 81 ⟨[v8, (.func (.func 82) ⟨[]⟩ ⟨[v1]⟩)]⟩ fun v9 =>
  pv (nilO x0) fun v10 =>
  pv (faO 0 v10) fun v11 =>
  st1 v11 v9 fun _ =>
  pv (nilO x0) fun v12 =>
  pv (faO 0 v12) fun v13 =>
  ld1 v13 fun v14 =>
  pv (lenS v14) fun v15 =>
  pv (bin .lss v15 v5) fun v16 =>
  R (.returned v16)
theorem F62_den (R : ER) (x0 x1 : Value) : den Pg R (cd Tryz.f62 []) (argsEnv [x0, x1]) (kont Pg R Tryz.f62) = F62 R x0 x1 :=
  have h : ∀ e, den Pg R (cd Tryz.f62 []) e (kont Pg R Tryz.f62) = F62 R (e 0) (e 1) := fun e => by kernel_rfl
  h _
theorem F62_calls {R : ER} {x0 x1 : Value} {w : World} (h : F62 R x0 x1 w) : Calls Pg 62 ⟨[x0, x1]⟩ w R :=
  calls_of_den Tryz.func62 (by kernel_rfl) (by kernel_rfl) (F62_den R x0 x1) h
/-! ### 63: mqueue_waiting_63 -/
def F63 (R : ER) (x0 x1 : Value) : WP :=
  bx 3 x1 fun v1 =>
  pv (nilO x0) fun v2 =>
  pv (faO 0 v2) fun v3 =>
  ld1 v3 fun v4 =>
  pv (lenS v4) fun v5 =>
  pv (nilO x0) fun v6 =>
  pv (faO 0 v6) fun v7 =>
  ld1 v7 fun v8 =>
  cal Pg R 83 ⟨[v8, (.func (.func 84) ⟨[]⟩ ⟨[v1]⟩)]⟩ fun v9 =>
  pv (nilO x0) fun v10 =>
  pv (faO 0 v10) fun v11 =>
  st1 v11 v9 fun _ =>
  pv (nilO x0) fun v12 =>
  pv (faO 0 v12) fun v13 =>
  ld1 v13 fun v14 =>
  pv (lenS v14) fun v15 =>
  pv (bin .lss v15 v5) fun v16 =>
  R (.returned v16)
theorem F63_den (R : ER) (x0 x1 : Value) : den Pg R (cd Tryz.f63 []) (argsEnv [x0, x1]) (kont Pg R Tryz.f63) = F63 R x0 x1 :=
  have h : ∀ e, den Pg R (cd Tryz.f63 []) e (kont Pg R Tryz.f63) = F63 R (e 0) (e 1) := fun e => by kernel_rfl
  h _
theorem F63_calls {R : ER} {x0 x1 : Value} {w : World} (h : F63 R x0 x1 w) : Calls Pg 63 ⟨[x0, x1]⟩ w R :=
  calls_of_den Tryz.func63 (by kernel_rfl) (by kernel_rfl) (F63_den R x0 x1) h
/-! ### 64: orpimentref25_index -/
def F64_j1 (R : ER) : WP :=
  R (.returned (.int .i64 (-1)))
theorem F64_j1_ok (R : ER) (e : Env) : den Pg R (cd Tryz.f64 [1,1]) e (kont Pg R Tryz.f64) = (F64_j1 R) := by kernel_rfl
def F64_j4 (R : ER) (k1 : V3) (x0 x1 x5 : Value) : WP :=
  pv (ixS 4 x0 x5) fun v1 =>
  pv (faO 0 v1) fun v2 =>
  ld1 v2 fun v3 =>
  pv (bin .eql v3 x1) fun v4 =>
  cnd v4 (
   R (.returned x5)) (
   pv (bin .add x5 (.int .i64 1)) fun v5 =>
  k1 x0 x1 v5)
theorem F64_j4_ok (R : ER) (k1 : V3) (e : Env) : den Pg R (cd Tryz.f64 [1,0,1,0,0,1]) e (setN (inB 0 (setN (kont Pg R Tryz.f64) (fun e => F64_j1 R))) (fun e => k1 (e 0) (e 1) (e 5))) = (F64_j4 R k1 (e 0) (e 1) (e 5)) := by kernel_rfl
def F64_b1 (R : ER) (k1 : V3) (x0 x1 x5 : Value) : WP :=
  pv (lenS x0) fun v6 =>
  pv (bin .lss x5 v6) fun v7 =>
  cnd v7 (
   F64_j4 R k1 x0 x1 x5) (
   F64_j1 R)
theorem F64_b1_ok (R : ER) (k1 : V3) (e : Env) : den Pg R (cd Tryz.f64 [1,0,1,0,0]) e (setN (inB 0 (setN (kont Pg R Tryz.f64) (fun e => F64_j1 R))) (fun e => k1 (e 0) (e 1) (e 5))) = (F64_b1 R k1 (e 0) (e 1) (e 5)) := (den_join Pg R 0 (cd Tryz.f64 [1,0,1,0,0]) (cd Tryz.f64 [1,0,1,0,0,1]) e (setN (inB 0 (setN (kont Pg R Tryz.f64) (fun e => F64_j1 R))) (fun e => k1 (e 0) (e 1) (e 5))) (fun e => F64_j4 R k1 (e 0) (e 1) (e 5)) _ (by kernel_rfl) (fun e => F64_j4_ok R k1 e) (by kernel_rfl))
noncomputable def F64_l1 (R : ER) (n : Nat) : V3 := Nat.rec (motive := fun _ => V3) (fun _ _ _ => fun _ => False) (fun _ ih => fun x0 x1 x5 => F64_b1 R ih x0 x1 x5) n
theorem F64_l1_succ (R : ER) (n : Nat) (x0 x1 x5 : Value) : F64_l1 R (n + 1) x0 x1 x5 = F64_b1 R (F64_l1 R n) x0 x1 x5 := rfl
theorem F64_l1_ok (R : ER) : ∀ (n : Nat) (e : Env), iterL (den Pg R (cd Tryz.f64 [1,0,1,0,0])) n e (inB 0 (setN (kont Pg R Tryz.f64) (fun e => F64_j1 R))) = F64_l1 R n (e 0) (e 1) (e 5) :=
  iterL_join (den Pg R (cd Tryz.f64 [1,0,1,0,0])) (inB 0 (setN (kont Pg R Tryz.f64) (fun e => F64_j1 R))) (fun n e => F64_l1 R n (e 0) (e 1) (e 5)) (fun _ => rfl) (fun n e => (F64_b1_ok R (F64_l1 R n) e).trans (F64_l1_succ R n (e 0) (e 1) (e 5)).symm)
def F64_j3 (R : ER) (x0 x1 x5 : Value) : WP :=
  exN fun n => F64_l1 R n x0 x1 x5
theorem F64_j3_ok (R : ER) (e : Env) : den Pg R (cd Tryz.f64 [1,0,1]) e (setN (kont Pg R Tryz.f64) (fun e => F64_j1 R)) = (F64_j3 R (e 0) (e 1) (e 5)) := (den_block Pg R (cd Tryz.f64 [1,0,1]) 0 (cd Tryz.f64 [1,0,1,0]) e (setN (kont Pg R Tryz.f64) (fun e => F64_j1 R)) _ (by kernel_rfl) (den_loop Pg R (cd Tryz.f64 [1,0,1,0]) (cd Tryz.f64 [1,0,1,0,0]) e (inB 0 (setN (kont Pg R Tryz.f64) (fun e => F64_j1 R))) (fun n e => F64_l1 R n (e 0) (e 1) (e 5)) _ (by kernel_rfl) (F64_l1_ok R) (by kernel_rfl)))
def F64_j2 (R : ER) (x0 x1 : Value) : WP :=
  F64_j3 R x0 x1 (.int .i64 0)
theorem F64_j2_ok (R : ER) (e : Env) : den Pg R (cd Tryz.f64 [1,0]) e (setN (kont Pg R Tryz.f64) (fun e => F64_j1 R)) = (F64_j2 R (e 0) (e 1)) := (den_join Pg R 0 (cd Tryz.f64 [1,0]) (cd Tryz.f64 [1,0,1]) e (setN (kont Pg R Tryz.f64) (fun e => F64_j1 R)) (fun e => F64_j3 R (e 0) (e 1) (e 5)) _ (by kernel_rfl) (fun e => F64_j3_ok R e) (by kernel_rfl))
def F64 (R : ER) (x0 x1 : Value) : WP :=
  F64_j2 R x0 x1
theorem F64_den (R : ER) (x0 x1 : Value) : den Pg R (cd Tryz.f64 []) (argsEnv [x0, x1]) (kont Pg R Tryz.f64) = F64 R x0 x1 :=
  have h : ∀ e, den Pg R (cd Tryz.f64 []) e (kont Pg R Tryz.f64) = F64 R (e 0) (e 1) := fun e => (den_join Pg R 1 (cd Tryz.f64 []) (cd Tryz.f64 [1,1]) e (kont Pg R Tryz.f64) (fun e => F64_j1 R) _ (by kernel_rfl) (fun e => F64_j1_ok R e) (den_join Pg R 0 (pre 1 (cd Tryz.f64 [])) (cd Tryz.f64 [1,0]) e (setN (kont Pg R Tryz.f64) (fun e => F64_j1 R)) (fun e => F64_j2 R (e 0) (e 1)) _ (by kernel_rfl) (fun e => F64_j2_ok R e) (by kernel_rfl)))
  h _
theorem F64_calls {R : ER} {x0 x1 : Value} {w : World} (h : F64 R x0 x1 w) : Calls Pg 64 ⟨[x0, x1]⟩ w R :=
  calls_of_den Tryz.func64 (by kernel_rfl) (by kernel_rfl) (F64_den R x0 x1) h
/-! ### 65: orpimentref25_without -/
def F65 (R : ER) (x0 x1 : Value) : WP :=
  drewV (
  mem fun w2 => valV Pg noR (Instr.buildSlice 71 0 ⟨[]⟩) fun v1 =>
  pv (slS 4 x0 none (some x1)) fun v3 =>
  mem fun w5 => blt Pg noR .append ⟨[71,71]⟩ 71 ⟨[false, false]⟩ ⟨[v1, v3]⟩ fun v4 =>
  pv (bin .add x1 (.int .i64 1)) fun v6 =>
  pv (slS 4 x0 (some v6) none) fun v7 =>
  mem fun w9 => blt Pg noR .append ⟨[71,71]⟩ 71 ⟨[false, false]⟩ ⟨[v4, v7]⟩ fun v8 =>
  R (.returned v8))
theorem F65_den (R : ER) (x0 x1 : Value) : den Pg R (cd Tryz.f65 []) (argsEnv [x0, x1]) (kont Pg R Tryz.f65) = F65 R x0 x1 :=
  have h : ∀ e, den Pg R (cd Tryz.f65 []) e (kont Pg R Tryz.f65) = F65 R (e 0) (e 1) := fun e => by kernel_rfl
  h _
theorem F65_calls {R : ER} {x0 x1 : Value} {w : World} (h : F65 R x0 x1 w) : Calls Pg 65 ⟨[x0, x1]⟩ w R :=
  calls_of_den Tryz.func65 (by kernel_rfl) (by kernel_rfl) (F65_den R x0 x1) h
/-! ### 66: mqueue_waiting_66 -/
def F66 (R : ER) (x0 x1 : Value) : WP :=
  bx 2 x1 fun v1 =>
  al Pg 57 fun v2 =>
  pv (nilO x0) fun v3 =>
  pv (faO 0 v3) fun v4 =>
  ld1 v4 fun v5 =>
  cal Pg R 81 ⟨[v5, (.func (.func 85) ⟨[]⟩ ⟨[v1, v2]⟩)]⟩ fun v6 =>
  pv (nilO x0) fun v7 =>
  pv (faO 0 v7) fun v8 =>
  st1 v8 v6 fun _ =>
  ld1 v2 fun v9 =>
  R (.returned v9)
theorem F66_den (R : ER) (x0 x1 : Value) : den Pg R (cd Tryz.f66 []) (argsEnv [x0, x1]) (kont Pg R Tryz.f66) = F66 R x0 x1 :=
  have h : ∀ e, den Pg R (cd Tryz.f66 []) e (kont Pg R Tryz.f66) = F66 R (e 0) (e 1) := fun e => by kernel_rfl
  h _
theorem F66_calls {R : ER} {x0 x1 : Value} {w : World} (h : F66 R x0 x1 w) : Calls Pg 66 ⟨[x0, x1]⟩ w R :=
  calls_of_den Tryz.func66 (by kernel_rfl) (by kernel_rfl) (F66_den R x0 x1) h
/-! ### 67: mqueue_waiting_67 -/
def F67 (R : ER) (x0 x1 : Value) : WP :=
  bx 2 x1 fun v1 =>
  al Pg 54 fun v2 =>
  pv (nilO x0) fun v3 =>
  pv (faO 0 v3) fun v4 =>
  ld1 v4 fun v5 =>
  cal Pg R 83 ⟨[v5, (.func (.func 86) ⟨[]⟩ ⟨[v1, v2]⟩)]⟩ fun v6 =>
  pv (nilO x0) fun v7 =>
  pv (faO 0 v7) fun v8 =>
  st1 v8 v6 fun _ =>
  ld1 v2 fun v9 =>
  R (.returned v9)
theorem F67_den (R : ER) (x0 x1 : Value) : den Pg R (cd Tryz.f67 []) (argsEnv [x0, x1]) (kont Pg R Tryz.f67) = F67 R x0 x1 :=
  have h : ∀ e, den Pg R (cd Tryz.f67 []) e (kont Pg R Tryz.f67) = F67 R (e 0) (e 1) := fun e => by kernel_rfl
  h _
theorem F67_calls {R : ER} {x0 x1 : Value} {w : World} (h : F67 R x0 x1 w) : Calls Pg 67 ⟨[x0, x1]⟩ w R :=
  calls_of_den Tryz.func67 (by kernel_rfl) (by kernel_rfl) (F67_den R x0 x1) h
/-! ### 68: slices_SortStableFunc -/
def F68 (R : ER) (x0 x1 : Value) : WP :=
  pv (lenS x0) fun v1 =>
  cal Pg R 87 ⟨[x0, v1, x1]⟩ fun v2 =>
  R (.returned (.tuple ⟨[]⟩))
theorem F68_den (R : ER) (x0 x1 : Value) : den Pg R (cd Tryz.f68 []) (argsEnv [x0, x1]) (kont Pg R Tryz.f68) = F68 R x0 x1 :=
  have h : ∀ e, den Pg R (cd Tryz.f68 []) e (kont Pg R Tryz.f68) = F68 R (e 0) (e 1) := fun e => by kernel_rfl
  h _
theorem F68_calls {R : ER} {x0 x1 : Value} {w : World} (h : F68 R x0 x1 w) : Calls Pg 68 ⟨[x0, x1]⟩ w R :=
  calls_of_den Tryz.func68 (by kernel_rfl) (by kernel_rfl) (F68_den R x0 x1) h
/-! ### 69: mqueue_Queue_Advance_1 -/
def F69 (R : ER) (x0 x1 : Value) : WP :=
  bx 136 x0 fun v1 =>
  bx 136 x1 fun v2 =>
  pv (faO 1 v1) fun v3 =>
  ld1 v3 fun v4 =>
  pv (faO 1 v2) fun v5 =>
  ld1 v5 fun v6 =>
  cal Pg R 70 ⟨[v4, v6]⟩ fun v7 =>
  R (.returned v7)
theorem F69_den (R : ER) (x0 x1 : Value) : den Pg R (cd Tryz.f69 []) (argsEnv [x0, x1]) (kont Pg R Tryz.f69) = F69 R x0 x1 :=
  have h : ∀ e, den Pg R (cd Tryz.f69 []) e (kont Pg R Tryz.f69) = F69 R (e 0) (e 1) := fun e => by kernel_rfl
  h _
theorem F69_calls {R : ER} {x0 x1 : Value} {w : World} (h : F69 R x0 x1 w) : Calls Pg 69 ⟨[x0, x1]⟩ w R :=
  calls_of_den Tryz.func69 (by kernel_rfl) (by kernel_rfl) (F69_den R x0 x1) h
/-! ### 70: cmp_Compare -/
def F70_j1 (R : ER) (x0 x1 x6 : Value) : WP :=
  cnd x6 (
   R (.returned (.int .i64 1))) (
   pv (bin .lss x0 x1) fun v1 =>
  cnd v1 (
   R (.returned (.int .i64 (-1)))) (
   pv (bin .gtr x0 x1) fun v2 =>
  cnd v2 (
   R (.returned (.int .i64 1))) (
   R (.returned (.int .i64 0)))))
theorem F70_j1_ok (R : ER) (e : Env) : den Pg R (cd Tryz.f70 [1,1,1,1]) e (kont Pg R Tryz.f70) = (F70_j1 R (e 0) (e 1) (e 6)) := by kernel_rfl
def F70 (R : ER) (x0 x1 : Value) : WP :=
  cal Pg R 88 ⟨[x0]⟩ fun v3 =>
  cal Pg R 88 ⟨[x1]⟩ fun v4 =>
  cnd v3 (
   cnd v4 (
    R (.returned (.int .i64 0))) (
    R (.returned (.int .i64 (-1))))) (
   F70_j1 R x0 x1 v4)
theorem F70_den (R : ER) (x0 x1 : Value) : den Pg R (cd Tryz.f70 []) (argsEnv [x0, x1]) (kont Pg R Tryz.f70) = F70 R x0 x1 :=
  have h : ∀ e, den Pg R (cd Tryz.f70 []) e (kont Pg R Tryz.f70) = F70 R (e 0) (e 1) := fun e => (den_join Pg R 3 (cd Tryz.f70 []) (cd Tryz.f70 [1,1,1,1]) e (kont Pg R Tryz.f70) (fun e => F70_j1 R (e 0) (e 1) (e 6)) _ (by kernel_rfl) (fun e => F70_j1_ok R e) (by kernel_rfl))
  h _
theorem F70_calls {R : ER} {x0 x1 : Value} {w : World} (h : F70 R x0 x1 w) : Calls Pg 70 ⟨[x0, x1]⟩ w R :=
  calls_of_den Tryz.func70 (by kernel_rfl) (by kernel_rfl) (F70_den R x0 x1) h
/-! ### 71: orpimentref25_earliest -/
def F71_j1 (R : ER) (x5 : Value) : WP :=
  R (.returned x5)
theorem F71_j1_ok (R : ER) (e : Env) : den Pg R (cd Tryz.f71 [1,1,1]) e (kont Pg R Tryz.f71) = (F71_j1 R (e 5)) := by kernel_rfl
def F71_j5 (R : ER) (k1 : V4) (x0 x1 x5 x6 : Value) : WP :=
  pv (bin .add x6 (.int .i64 1)) fun v1 =>
  k1 x0 x1 x5 v1
theorem F71_j5_ok (R : ER) (k1 : V4) (e : Env) : den Pg R (cd Tryz.f71 [1,1,0,1,0,0,1,1]) e (setN (inB 0 (setN (kont Pg R Tryz.f71) (fun e => F71_j1 R (e 5)))) (fun e => k1 (e 0) (e 1) (e 5) (e 6))) = (F71_j5 R k1 (e 0) (e 1) (e 5) (e 6)) := by kernel_rfl
def F71_j6 (R : ER) (k1 : V4) (x0 x1 x5 x6 : Value) : WP :=
  drewV (
  pv (ixS 4 x0 x6) fun v2 =>
  pv (faO 3 v2) fun v3 =>
  ld1 v3 fun v4 =>
  pv (bin .neq v4 (.int .i64 0)) fun v5 =>
  gd v5 true (pv (some x0)) fun v6 =>
  gd v5 true (pv (some x6)) fun v7 =>
  gd v5 true (pv (ixS 4 v6 v7)) fun v8 =>
  gd v5 true (pv (faO 3 v8)) fun v9 =>
  gd v5 true (ld1 v9) fun v10 =>
  gd v5 true (pv (some x1)) fun v11 =>
  gd v5 true (pv (bin .leq v10 v11)) fun v12 =>
  pv (pickO v5 v12 (.bool false)) fun v13 =>
  gd v13 true (pv (some x5)) fun v14 =>
  gd v13 true (pv (bin .lss v14 (.int .i64 0))) fun v15 =>
  gd v13 true (pv (some v15)) fun v16 =>
  gd v16 false (pv (some x0)) fun v17 =>
  gd v16 false (pv (some x6)) fun v18 =>
  gd v16 false (pv (ixS 4 v17 v18)) fun v19 =>
  gd v16 false (pv (faO 3 v19)) fun v20 =>
  gd v16 false (ld1 v20) fun v21 =>
  gd v16 false (pv (some x0)) fun v22 =>
  gd v16 false (pv (some x5)) fun v23 =>
  gd v16 false (pv (ixS 4 v22 v23)) fun v24 =>
  gd v16 false (pv (faO 3 v24)) fun v25 =>
  gd v16 false (ld1 v25) fun v26 =>
  gd v16 false (pv (bin .lss v21 v26)) fun v27 =>
  gd v13 true (pv (pickO v16 (.bool true) v27)) fun v28 =>
  pv (pickO v13 v28 (.bool false)) fun v29 =>
  cnd v29 (
   F71_j5 R k1 x0 x1 x6 x6) (
   F71_j5 R k1 x0 x1 x5 x6))
theorem F71_j6_ok (R : ER) (k1 : V4) (e : Env) : den Pg R (cd Tryz.f71 [1,1,0,1,0,0,1,0]) e (setN (setN (inB 0 (setN (kont Pg R Tryz.f71) (fun e => F71_j1 R (e 5)))) (fun e => k1 (e 0) (e 1) (e 5) (e 6))) (fun e => F71_j5 R k1 (e 0) (e 1) (e 5) (e 6))) = (F71_j6 R k1 (e 0) (e 1) (e 5) (e 6)) := (den_block Pg R (cd Tryz.f71 [1,1,0,1,0,0,1,0]) 1 (cd Tryz.f71 [1,1,0,1,0,0,1,0,0]) e (setN (setN (inB 0 (setN (kont Pg R Tryz.f71) (fun e => F71_j1 R (e 5)))) (fun e => k1 (e 0) (e 1) (e 5) (e 6))) (fun e => F71_j5 R k1 (e 0) (e 1) (e 5) (e 6))) _ (by kernel_rfl) (by kernel_rfl))
def F71_j4 (R : ER) (k1 : V4) (x0 x1 x5 x6 : Value) : WP :=
  F71_j6 R k1 x0 x1 x5 x6
theorem F71_j4_ok (R : ER) (k1 : V4) (e : Env) : den Pg R (cd Tryz.f71 [1,1,0,1,0,0,1]) e (setN (inB 0 (setN (kont Pg R Tryz.f71) (fun e => F71_j1 R (e 5)))) (fun e => k1 (e 0) (e 1) (e 5) (e 6))) = (F71_j4 R k1 (e 0) (e 1) (e 5) (e 6)) := (den_join Pg R 0 (cd Tryz.f71 [1,1,0,1,0,0,1]) (cd Tryz.f71 [1,1,0,1,0,0,1,1]) e (setN (inB 0 (setN (kont Pg R Tryz.f71) (fun e => F71_j1 R (e 5)))) (fun e => k1 (e 0) (e 1) (e 5) (e 6))) (fun e => F71_j5 R k1 (e 0) (e 1) (e 5) (e 6)) _ (by kernel_rfl) (fun e => F71_j5_ok R k1 e) (den_conv Pg R (pre 0 (cd Tryz.f71 [1,1,0,1,0,0,1])) (cd Tryz.f71 [1,1,0,1,0,0,1,0]) e (setN (setN (inB 0 (setN (kont Pg R Tryz.f71) (fun e => F71_j1 R (e 5)))) (fun e => k1 (e 0) (e 1) (e 5) (e 6))) (fun e => F71_j5 R k1 (e 0) (e 1) (e 5) (e 6))) _ (by kernel_rfl) (F71_j6_ok R k1 e)))
def F71_b1 (R : ER) (k1 : V4) (x0 x1 x5 x6 : Value) : WP :=
  pv (lenS x0) fun v30 =>
  pv (bin .lss x6 v30) fun v31 =>
  cnd v31 (
   F71_j4 R k1 x0 x1 x5 x6) (
   F71_j1 R x5)
theorem F71_b1_ok (R : ER) (k1 : V4) (e : Env) : den Pg R (cd Tryz.f71 [1,1,0,1,0,0]) e (setN (inB 0 (setN (kont Pg R Tryz.f71) (fun e => F71_j1 R (e 5)))) (fun e => k1 (e 0) (e 1) (e 5) (e 6))) = (F71_b1 R k1 (e 0) (e 1) (e 5) (e 6)) := (den_join Pg R 0 (cd Tryz.f71 [1,1,0,1,0,0]) (cd Tryz.f71 [1,1,0,1,0,0,1]) e (setN (inB 0 (setN (kont Pg R Tryz.f71) (fun e => F71_j1 R (e 5)))) (fun e => k1 (e 0) (e 1) (e 5) (e 6))) (fun e => F71_j4 R k1 (e 0) (e 1) (e 5) (e 6)) _ (by kernel_rfl) (fun e => F71_j4_ok R k1 e) (by kernel_rfl))
noncomputable def F71_l1 (R : ER) (n : Nat) : V4 := Nat.rec (motive := fun _ => V4) (fun _ _ _ _ => fun _ => False) (fun _ ih => fun x0 x1 x5 x6 => F71_b1 R ih x0 x1 x5 x6) n
theorem F71_l1_succ (R : ER) (n : Nat) (x0 x1 x5 x6 : Value) : F71_l1 R (n + 1) x0 x1 x5 x6 = F71_b1 R (F71_l1 R n) x0 x1 x5 x6 := rfl
theorem F71_l1_ok (R : ER) : ∀ (n : Nat) (e : Env), iterL (den Pg R (cd Tryz.f71 [1,1,0,1,0,0])) n e (inB 0 (setN (kont Pg R Tryz.f71) (fun e => F71_j1 R (e 5)))) = F71_l1 R n (e 0) (e 1) (e 5) (e 6) :=
  iterL_join (den Pg R (cd Tryz.f71 [1,1,0,1,0,0])) (inB 0 (setN (kont Pg R Tryz.f71) (fun e => F71_j1 R (e 5)))) (fun n e => F71_l1 R n (e 0) (e 1) (e 5) (e 6)) (fun _ => rfl) (fun n e => (F71_b1_ok R (F71_l1 R n) e).trans (F71_l1_succ R n (e 0) (e 1) (e 5) (e 6)).symm)
def F71_j3 (R : ER) (x0 x1 x5 x6 : Value) : WP :=
  exN fun n => F71_l1 R n x0 x1 x5 x6
theorem F71_j3_ok (R : ER) (e : Env) : den Pg R (cd Tryz.f71 [1,1,0,1]) e (setN (kont Pg R Tryz.f71) (fun e => F71_j1 R (e 5))) = (F71_j3 R (e 0) (e 1) (e 5) (e 6)) := (den_block Pg R (cd Tryz.f71 [1,1,0,1]) 0 (cd Tryz.f71 [1,1,0,1,0]) e (setN (kont Pg R Tryz.f71) (fun e => F71_j1 R (e 5))) _ (by kernel_rfl) (den_loop Pg R (cd Tryz.f71 [1,1,0,1,0]) (cd Tryz.f71 [1,1,0,1,0,0]) e (inB 0 (setN (kont Pg R Tryz.f71) (fun e => F71_j1 R (e 5)))) (fun n e => F71_l1 R n (e 0) (e 1) (e 5) (e 6)) _ (by kernel_rfl) (F71_l1_ok R) (by kernel_rfl)))
def F71_j2 (R : ER) (x0 x1 x5 : Value) : WP :=
  F71_j3 R x0 x1 x5 (.int .i64 0)
theorem F71_j2_ok (R : ER) (e : Env) : den Pg R (cd Tryz.f71 [1,1,0]) e (setN (kont Pg R Tryz.f71) (fun e => F71_j1 R (e 5))) = (F71_j2 R (e 0) (e 1) (e 5)) := (den_join Pg R 0 (cd Tryz.f71 [1,1,0]) (cd Tryz.f71 [1,1,0,1]) e (setN (kont Pg R Tryz.f71) (fun e => F71_j1 R (e 5))) (fun e => F71_j3 R (e 0) (e 1) (e 5) (e 6)) _ (by kernel_rfl) (fun e => F71_j3_ok R e) (by kernel_rfl))
def F71 (R : ER) (x0 x1 : Value) : WP :=
  F71_j2 R x0 x1 (.int .i64 (-1))
theorem F71_den (R : ER) (x0 x1 : Value) : den Pg R (cd Tryz.f71 []) (argsEnv [x0, x1]) (kont Pg R Tryz.f71) = F71 R x0 x1 :=
  have h : ∀ e, den Pg R (cd Tryz.f71 []) e (kont Pg R Tryz.f71) = F71 R (e 0) (e 1) := fun e => (den_join Pg R 2 (cd Tryz.f71 []) (cd Tryz.f71 [1,1,1]) e (kont Pg R Tryz.f71) (fun e => F71_j1 R (e 5)) _ (by kernel_rfl) (fun e => F71_j1_ok R e) (den_join Pg R 1 (pre 2 (cd Tryz.f71 [])) (cd Tryz.f71 [1,1,0]) e (setN (kont Pg R Tryz.f71) (fun e => F71_j1 R (e 5))) (fun e => F71_j2 R (e 0) (e 1) (e 5)) _ (by kernel_rfl) (fun e => F71_j2_ok R e) (by kernel_rfl)))
  h _
theorem F71_calls {R : ER} {x0 x1 : Value} {w : World} (h : F71 R x0 x1 w) : Calls Pg 71 ⟨[x0, x1]⟩ w R :=
  calls_of_den Tryz.func71 (by kernel_rfl) (by kernel_rfl) (F71_den R x0 x1) h
/-! ### 73: bits_Len -/
def F73 (R : ER) (x0 : Value) : WP :=
  cnd (.bool false) (
   pv (cvI .u32 x0) fun v1 =>
   cal Pg R 97 ⟨[v1]⟩ fun v2 =>
   R (.returned v2)) (
   cal Pg R 98 ⟨[x0]⟩ fun v3 =>
  R (.returned v3))
theorem F73_den (R : ER) (x0 : Value) : den Pg R (cd Tryz.f73 []) (argsEnv [x0]) (kont Pg R Tryz.f73) = F73 R x0 :=
  have h : ∀ e, den Pg R (cd Tryz.f73 []) e (kont Pg R Tryz.f73) = F73 R (e 0) := fun e => by kernel_rfl
  h _
theorem F73_calls {R : ER} {x0 : Value} {w : World} (h : F73 R x0 w) : Calls Pg 73 ⟨[x0]⟩ w R :=
  calls_of_den Tryz.func73 (by kernel_rfl) (by kernel_rfl) (F73_den R x0) h
/-! ### 74: cmp_Or -/
def F74_j1 (R : ER) (x3 : Value) : WP :=
  R (.returned x3)
theorem F74_j1_ok (R : ER) (e : Env) : den Pg R (cd Tryz.f74 [1,1,1]) e (kont Pg R Tryz.f74) = (F74_j1 R (e 3)) := by kernel_rfl
def F74_b1 (R : ER) (k1 : V4) (x3 x6 x7 x8 : Value) : WP :=
  pv (bin .lss x8 x7) fun v1 =>
  cnd v1 (
   pv (ixS 1 x6 x8) fun v2 =>
  ld1 v2 fun v3 =>
  pv (bin .neq v3 x3) fun v4 =>
  cnd v4 (
   R (.returned v3)) (
   pv (bin .add x8 (.int .i64 1)) fun v5 =>
  k1 x3 x6 x7 v5)) (
   F74_j1 R x3)
theorem F74_b1_ok (R : ER) (k1 : V4) (e : Env) : den Pg R (cd Tryz.f74 [1,1,0,1,0,0]) e (setN (inB 0 (setN (kont Pg R Tryz.f74) (fun e => F74_j1 R (e 3)))) (fun e => k1 (e 3) (e 6) (e 7) (e 8))) = (F74_b1 R k1 (e 3) (e 6) (e 7) (e 8)) := by kernel_rfl
noncomputable def F74_l1 (R : ER) (n : Nat) : V4 := Nat.rec (motive := fun _ => V4) (fun _ _ _ _ => fun _ => False) (fun _ ih => fun x3 x6 x7 x8 => F74_b1 R ih x3 x6 x7 x8) n
theorem F74_l1_succ (R : ER) (n : Nat) (x3 x6 x7 x8 : Value) : F74_l1 R (n + 1) x3 x6 x7 x8 = F74_b1 R (F74_l1 R n) x3 x6 x7 x8 := rfl
theorem F74_l1_ok (R : ER) : ∀ (n : Nat) (e : Env), iterL (den Pg R (cd Tryz.f74 [1,1,0,1,0,0])) n e (inB 0 (setN (kont Pg R Tryz.f74) (fun e => F74_j1 R (e 3)))) = F74_l1 R n (e 3) (e 6) (e 7) (e 8) :=
  iterL_join (den Pg R (cd Tryz.f74 [1,1,0,1,0,0])) (inB 0 (setN (kont Pg R Tryz.f74) (fun e => F74_j1 R (e 3)))) (fun n e => F74_l1 R n (e 3) (e 6) (e 7) (e 8)) (fun _ => rfl) (fun n e => (F74_b1_ok R (F74_l1 R n) e).trans (F74_l1_succ R n (e 3) (e 6) (e 7) (e 8)).symm)
def F74_j3 (R : ER) (x3 x6 x7 x8 : Value) : WP :=
  exN fun n => F74_l1 R n x3 x6 x7 x8
theorem F74_j3_ok (R : ER) (e : Env) : den Pg R (cd Tryz.f74 [1,1,0,1]) e (setN (kont Pg R Tryz.f74) (fun e => F74_j1 R (e 3))) = (F74_j3 R (e 3) (e 6) (e 7) (e 8)) := (den_block Pg R (cd Tryz.f74 [1,1,0,1]) 0 (cd Tryz.f74 [1,1,0,1,0]) e (setN (kont Pg R Tryz.f74) (fun e => F74_j1 R (e 3))) _ (by kernel_rfl) (den_loop Pg R (cd Tryz.f74 [1,1,0,1,0]) (cd Tryz.f74 [1,1,0,1,0,0]) e (inB 0 (setN (kont Pg R Tryz.f74) (fun e => F74_j1 R (e 3)))) (fun n e => F74_l1 R n (e 3) (e 6) (e 7) (e 8)) _ (by kernel_rfl) (F74_l1_ok R) (by kernel_rfl)))
def F74_j2 (R : ER) (x0 x3 : Value) : WP :=
  pv (lenS x0) fun v6 =>
  F74_j3 R x3 x0 v6 (.int .i64 0)
theorem F74_j2_ok (R : ER) (e : Env) : den Pg R (cd Tryz.f74 [1,1,0]) e (setN (kont Pg R Tryz.f74) (fun e => F74_j1 R (e 3))) = (F74_j2 R (e 0) (e 3)) := (den_join Pg R 0 (cd Tryz.f74 [1,1,0]) (cd Tryz.f74 [1,1,0,1]) e (setN (kont Pg R Tryz.f74) (fun e => F74_j1 R (e 3))) (fun e => F74_j3 R (e 3) (e 6) (e 7) (e 8)) _ (by kernel_rfl) (fun e => F74_j3_ok R e) (by kernel_rfl))
def F74 (R : ER) (x0 : Value) : WP :=
  F74_j2 R x0 (.int .i64 0)
theorem F74_den (R : ER) (x0 : Value) : den Pg R (cd Tryz.f74 []) (argsEnv [x0]) (kont Pg R Tryz.f74) = F74 R x0 :=
  have h : ∀ e, den Pg R (cd Tryz.f74 []) e (kont Pg R Tryz.f74) = F74 R (e 0) := fun e => (den_join Pg R 2 (cd Tryz.f74 []) (cd Tryz.f74 [1,1,1]) e (kont Pg R Tryz.f74) (fun e => F74_j1 R (e 3)) _ (by kernel_rfl) (fun e => F74_j1_ok R e) (den_join Pg R 1 (pre 2 (cd Tryz.f74 [])) (cd Tryz.f74 [1,1,0]) e (setN (kont Pg R Tryz.f74) (fun e => F74_j1 R (e 3))) (fun e => F74_j2 R (e 0) (e 3)) _ (by kernel_rfl) (fun e => F74_j2_ok R e) (by kernel_rfl)))
  h _
theorem F74_calls {R : ER} {x0 : Value} {w : World} (h : F74 R x0 w) : Calls Pg 74 ⟨[x0]⟩ w R :=
  calls_of_den Tryz.func74 (by kernel_rfl) (by kernel_rfl) (F74_den R x0) h
/-! ### 75: cmp_Compare_75 -/
def F75_j1 (R : ER) (x0 x1 x6 : Value) : WP :=
  cnd x6 (
   R (.returned (.int .i64 1))) (
   pv (bin .lss x0 x1) fun v1 =>
  cnd v1 (
   R (.returned (.int .i64 (-1)))) (
   pv (bin .gtr x0 x1) fun v2 =>
  cnd v2 (
   R (.returned (.int .i64 1))) (
   R (.returned (.int .i64 0)))))
theorem F75_j1_ok (R : ER) (e : Env) : den Pg R (cd Tryz.f75 [1,1,1,1]) e (kont Pg R Tryz.f75) = (F75_j1 R (e 0) (e 1) (e 6)) := by kernel_rfl
def F75 (R : ER) (x0 x1 : Value) : WP :=
  cal Pg R 99 ⟨[x0]⟩ fun v3 =>
  cal Pg R 99 ⟨[x1]⟩ fun v4 =>
  cnd v3 (
   cnd v4 (
    R (.returned (.int .i64 0))) (
    R (.returned (.int .i64 (-1))))) (
   F75_j1 R x0 x1 v4)
theorem F75_den (R : ER) (x0 x1 : Value) : den Pg R (cd Tryz.f75 []) (argsEnv [x0, x1]) (kont Pg R Tryz.f75) = F75 R x0 x1 :=
  have h : ∀ e, den Pg R (cd Tryz.f75 []) e (kont Pg R Tryz.f75) = F75 R (e 0) (e 1) := fun e => (den_join Pg R 3 (cd Tryz.f75 []) (cd Tryz.f75 [1,1,1,1]) e (kont Pg R Tryz.f75) (fun e => F75_j1 R (e 0) (e 1) (e 6)) _ (by kernel_rfl) (fun e => F75_j1_ok R e) (by kernel_rfl))
  h _
theorem F75_calls {R : ER} {x0 x1 : Value} {w : World} (h : F75 R x0 x1 w) : Calls Pg 75 ⟨[x0, x1]⟩ w R :=
  calls_of_den Tryz.func75 (by kernel_rfl) (by kernel_rfl) (F75_den R x0 x1) h
/-! ### 76: slices_Contains -/
def F76 (R : ER) (x0 x1 : Value) : WP :=
  cal Pg R 100 ⟨[x0, x1]⟩ fun v1 =>
  pv (bin .geq v1 (.int .i64 0)) fun v2 =>
  R (.returned v2)
theorem F76_den (R : ER) (x0 x1 : Value) : den Pg R (cd Tryz.f76 []) (argsEnv [x0, x1]) (kont Pg R Tryz.f76) = F76 R x0 x1 :=
  have h : ∀ e, den Pg R (cd Tryz.f76 []) e (kont Pg R Tryz.f76) = F76 R (e 0) (e 1) := fun e => by kernel_rfl
  h _
theorem F76_calls {R : ER} {x0 x1 : Value} {w : World} (h : F76 R x0 x1 w) : Calls Pg 76 ⟨[x0, x1]⟩ w R :=
  calls_of_den Tryz.func76 (by kernel_rfl) (by kernel_rfl) (F76_den R x0 x1) h
end Go.Proofs.YthcekppbbanfeaaGreat.Den
