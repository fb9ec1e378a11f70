/- Printed by a program of this session: what the functions mean, and that the model means just that. Conditions: none. -/
import Derived.Test.YtmnpndgmfmjfhaaDenRange
set_option linter.unusedVariables false
set_option maxRecDepth 100000
namespace Go.Proofs.Ytmnpndgmfmjfhaa.Den
open Go
/-! ### 27: orpimentlaw35_talk_settle -/
def orpimentlaw35_talk_settle_j1 (R : ER) : WP :=
  R (.returned (.bool true))
theorem orpimentlaw35_talk_settle_j1_ok (R : ER) (e : Env) : den Pg R (cd Try.f27 [1,1]) e (kont Pg R Try.f27) = (orpimentlaw35_talk_settle_j1 R) := by kernel_rfl
def orpimentlaw35_talk_settle_j5 (R : ER) (k1 : Value → Value → Value → WP) (x0 x12 x13 : Value) : WP :=
  pv (bin .add x13 (.int .i64 1)) fun v1 =>
  k1 x0 x12 v1
theorem orpimentlaw35_talk_settle_j5_ok (R : ER) (k1 : Value → Value → Value → WP) (e : Env) : den Pg R (cd Try.f27 [1,0,1,0,0,1,1,1]) e (setN (inB 0 (setN (kont Pg R Try.f27) (fun e => orpimentlaw35_talk_settle_j1 R))) (fun e => k1 (e 0) (e 12) (e 13))) = (orpimentlaw35_talk_settle_j5 R k1 (e 0) (e 12) (e 13)) := by kernel_rfl
def orpimentlaw35_talk_settle_j7 (R : ER) (k1 : Value → Value → Value → WP) (x0 x12 x13 : Value) : WP :=
  pv (nilO x0) fun v2 =>
  pv (faO 5 v2) fun v3 =>
  ld1 v3 fun v4 =>
  pv (bin .add v4 (.int .i64 1)) fun v5 =>
  pv (nilO x0) fun v6 =>
  pv (faO 5 v6) fun v7 =>
  st1 v7 v5 fun _ =>
  orpimentlaw35_talk_settle_j5 R k1 x0 x12 x13
theorem orpimentlaw35_talk_settle_j7_ok (R : ER) (k1 : Value → Value → Value → WP) (e : Env) : den Pg R (cd Try.f27 [1,0,1,0,0,1,1,0,0,1]) e (inB 1 (setN (setN (inB 0 (setN (kont Pg R Try.f27) (fun e => orpimentlaw35_talk_settle_j1 R))) (fun e => k1 (e 0) (e 12) (e 13))) (fun e => orpimentlaw35_talk_settle_j5 R k1 (e 0) (e 12) (e 13)))) = (orpimentlaw35_talk_settle_j7 R k1 (e 0) (e 12) (e 13)) := by kernel_rfl
def orpimentlaw35_talk_settle_j11 (R : ER) (k1 : Value → Value → Value → WP) (k2 : Value → Value → Value → Value → WP) (x0 x12 x13 x15 : Value) : WP :=
  pv (bin .add x15 (.int .i64 1)) fun v8 =>
  k2 x0 x12 x13 v8
theorem orpimentlaw35_talk_settle_j11_ok (R : ER) (k1 : Value → Value → Value → WP) (k2 : Value → Value → Value → Value → WP) (e : Env) : den Pg R (cd Try.f27 [1,0,1,0,0,1,1,0,0,0,1,0,0,1,1,1]) e (setN (inB 2 (setN (inB 1 (setN (setN (inB 0 (setN (kont Pg R Try.f27) (fun e => orpimentlaw35_talk_settle_j1 R))) (fun e => k1 (e 0) (e 12) (e 13))) (fun e => orpimentlaw35_talk_settle_j5 R k1 (e 0) (e 12) (e 13)))) (fun e => orpimentlaw35_talk_settle_j7 R k1 (e 0) (e 12) (e 13)))) (fun e => k2 (e 0) (e 12) (e 13) (e 15))) = (orpimentlaw35_talk_settle_j11 R k1 k2 (e 0) (e 12) (e 13) (e 15)) := by kernel_rfl
def orpimentlaw35_talk_settle_j15 (R : ER) (k1 : Value → Value → Value → WP) (k2 : Value → Value → Value → Value → WP) (k3 : Value → Value → Value → Value → Value → Value → Value → Value → WP) (x0 x5 x12 x13 x15 x34 x35 x36 : Value) : WP :=
  pv (ixS 2 x34 x36) fun v9 =>
  ldN 2 v9 fun v10 =>
  al Pg 90 fun v11 =>
  stN 2 v11 v10 fun _ =>
  drewV (
  pv (bin .sub (.int .i64 1) x5) fun v12 =>
  pv (nilO x0) fun v13 =>
  pv (faO 0 v13) fun v14 =>
  pv (ixA 2 1 v14 v12) fun v15 =>
  ld1 v15 fun v16 =>
  pv (faO 0 v11) fun v17 =>
  ld1 v17 fun v18 =>
  pv (faO 1 v11) fun v19 =>
  ld1 v19 fun v20 =>
  pv (nilO x0) fun v21 =>
  pv (faO 5 v21) fun v22 =>
  ld1 v22 fun v23 =>
  mem fun w25 => cal Pg noR 23 ⟨[v16, v18, v20, v23]⟩ fun v24 =>
  pv (extO 0 v24) fun v26 =>
  pv (extO 1 v24) fun v27 =>
  pv (bin .neq v27 (.int .i64 0)) fun v28 =>
  cnd v28 (
   R (.returned (.bool false))) (
   drewV (
  pv (bin .sub (.int .i64 1) x5) fun v29 =>
  pv (bin .sub (.int .i64 1) x5) fun v30 =>
  pv (nilO x0) fun v31 =>
  pv (faO 8 v31) fun v32 =>
  pv (ixA 2 1 v32 v30) fun v33 =>
  ld1 v33 fun v34 =>
  mem fun w36 => blt Pg noR .append ⟨[36,36]⟩ 36 ⟨[false, false]⟩ ⟨[v34, v26]⟩ fun v35 =>
  pv (nilO x0) fun v37 =>
  pv (faO 8 v37) fun v38 =>
  pv (ixA 2 1 v38 v29) fun v39 =>
  mem fun w41 => st1 v39 v35 fun v40 =>
  pv (bin .add x36 (.int .i64 1)) fun v42 =>
  k3 x0 x5 x12 x13 x15 x34 x35 v42)))
theorem orpimentlaw35_talk_settle_j15_ok (R : ER) (k1 : Value → Value → Value → WP) (k2 : Value → Value → Value → Value → WP) (k3 : Value → Value → Value → Value → Value → Value → Value → Value → WP) (e : Env) : den Pg R (cd Try.f27 [1,0,1,0,0,1,1,0,0,0,1,0,0,1,1,0,0,1,1,1,1,0,0,1,1]) e (setN (inB 4 (inB 3 (setN (setN (inB 2 (setN (inB 1 (setN (setN (inB 0 (setN (kont Pg R Try.f27) (fun e => orpimentlaw35_talk_settle_j1 R))) (fun e => k1 (e 0) (e 12) (e 13))) (fun e => orpimentlaw35_talk_settle_j5 R k1 (e 0) (e 12) (e 13)))) (fun e => orpimentlaw35_talk_settle_j7 R k1 (e 0) (e 12) (e 13)))) (fun e => k2 (e 0) (e 12) (e 13) (e 15))) (fun e => orpimentlaw35_talk_settle_j11 R k1 k2 (e 0) (e 12) (e 13) (e 15))))) (fun e => k3 (e 0) (e 5) (e 12) (e 13) (e 15) (e 34) (e 35) (e 36))) = (orpimentlaw35_talk_settle_j15 R k1 k2 k3 (e 0) (e 5) (e 12) (e 13) (e 15) (e 34) (e 35) (e 36)) := (by kernel_rfl)
def orpimentlaw35_talk_settle_b3 (R : ER) (k1 : Value → Value → Value → WP) (k2 : Value → Value → Value → Value → WP) (k3 : Value → Value → Value → Value → Value → Value → Value → Value → WP) (x0 x5 x12 x13 x15 x34 x35 x36 : Value) : WP :=
  pv (bin .lss x36 x35) fun v43 =>
  cnd v43 (
   orpimentlaw35_talk_settle_j15 R k1 k2 k3 x0 x5 x12 x13 x15 x34 x35 x36) (
   orpimentlaw35_talk_settle_j11 R k1 k2 x0 x12 x13 x15)
theorem orpimentlaw35_talk_settle_b3_ok (R : ER) (k1 : Value → Value → Value → WP) (k2 : Value → Value → Value → Value → WP) (k3 : Value → Value → Value → Value → Value → Value → Value → Value → WP) (e : Env) : den Pg R (cd Try.f27 [1,0,1,0,0,1,1,0,0,0,1,0,0,1,1,0,0,1,1,1,1,0,0]) e (setN (inB 4 (inB 3 (setN (setN (inB 2 (setN (inB 1 (setN (setN (inB 0 (setN (kont Pg R Try.f27) (fun e => orpimentlaw35_talk_settle_j1 R))) (fun e => k1 (e 0) (e 12) (e 13))) (fun e => orpimentlaw35_talk_settle_j5 R k1 (e 0) (e 12) (e 13)))) (fun e => orpimentlaw35_talk_settle_j7 R k1 (e 0) (e 12) (e 13)))) (fun e => k2 (e 0) (e 12) (e 13) (e 15))) (fun e => orpimentlaw35_talk_settle_j11 R k1 k2 (e 0) (e 12) (e 13) (e 15))))) (fun e => k3 (e 0) (e 5) (e 12) (e 13) (e 15) (e 34) (e 35) (e 36))) = (orpimentlaw35_talk_settle_b3 R k1 k2 k3 (e 0) (e 5) (e 12) (e 13) (e 15) (e 34) (e 35) (e 36)) := (den_join Pg R 1 (cd Try.f27 [1,0,1,0,0,1,1,0,0,0,1,0,0,1,1,0,0,1,1,1,1,0,0]) (cd Try.f27 [1,0,1,0,0,1,1,0,0,0,1,0,0,1,1,0,0,1,1,1,1,0,0,1,1]) e (setN (inB 4 (inB 3 (setN (setN (inB 2 (setN (inB 1 (setN (setN (inB 0 (setN (kont Pg R Try.f27) (fun e => orpimentlaw35_talk_settle_j1 R))) (fun e => k1 (e 0) (e 12) (e 13))) (fun e => orpimentlaw35_talk_settle_j5 R k1 (e 0) (e 12) (e 13)))) (fun e => orpimentlaw35_talk_settle_j7 R k1 (e 0) (e 12) (e 13)))) (fun e => k2 (e 0) (e 12) (e 13) (e 15))) (fun e => orpimentlaw35_talk_settle_j11 R k1 k2 (e 0) (e 12) (e 13) (e 15))))) (fun e => k3 (e 0) (e 5) (e 12) (e 13) (e 15) (e 34) (e 35) (e 36))) (fun e => orpimentlaw35_talk_settle_j15 R k1 k2 k3 (e 0) (e 5) (e 12) (e 13) (e 15) (e 34) (e 35) (e 36)) _ (by kernel_rfl) (fun e => orpimentlaw35_talk_settle_j15_ok R k1 k2 k3 e) (by kernel_rfl))
noncomputable def orpimentlaw35_talk_settle_l1 (R : ER) (k1 : Value → Value → Value → WP) (k2 : Value → Value → Value → Value → WP) (n : Nat) : Value → Value → Value → Value → Value → Value → Value → Value → WP := Nat.rec (motive := fun _ => Value → Value → Value → Value → Value → Value → Value → Value → WP) (fun _ _ _ _ _ _ _ _ => fun _ => False) (fun _ ih => fun x0 x5 x12 x13 x15 x34 x35 x36 => orpimentlaw35_talk_settle_b3 R k1 k2 ih x0 x5 x12 x13 x15 x34 x35 x36) n
theorem orpimentlaw35_talk_settle_l1_succ (R : ER) (k1 : Value → Value → Value → WP) (k2 : Value → Value → Value → Value → WP) (n : Nat) (x0 x5 x12 x13 x15 x34 x35 x36 : Value) : orpimentlaw35_talk_settle_l1 R k1 k2 (n + 1) x0 x5 x12 x13 x15 x34 x35 x36 = orpimentlaw35_talk_settle_b3 R k1 k2 (orpimentlaw35_talk_settle_l1 R k1 k2 n) x0 x5 x12 x13 x15 x34 x35 x36 := rfl
theorem orpimentlaw35_talk_settle_l1_ok (R : ER) (k1 : Value → Value → Value → WP) (k2 : Value → Value → Value → Value → WP) : ∀ (n : Nat) (e : Env), iterL (den Pg R (cd Try.f27 [1,0,1,0,0,1,1,0,0,0,1,0,0,1,1,0,0,1,1,1,1,0,0])) n e (inB 4 (inB 3 (setN (setN (inB 2 (setN (inB 1 (setN (setN (inB 0 (setN (kont Pg R Try.f27) (fun e => orpimentlaw35_talk_settle_j1 R))) (fun e => k1 (e 0) (e 12) (e 13))) (fun e => orpimentlaw35_talk_settle_j5 R k1 (e 0) (e 12) (e 13)))) (fun e => orpimentlaw35_talk_settle_j7 R k1 (e 0) (e 12) (e 13)))) (fun e => k2 (e 0) (e 12) (e 13) (e 15))) (fun e => orpimentlaw35_talk_settle_j11 R k1 k2 (e 0) (e 12) (e 13) (e 15))))) = orpimentlaw35_talk_settle_l1 R k1 k2 n (e 0) (e 5) (e 12) (e 13) (e 15) (e 34) (e 35) (e 36) :=
  iterL_join (den Pg R (cd Try.f27 [1,0,1,0,0,1,1,0,0,0,1,0,0,1,1,0,0,1,1,1,1,0,0])) (inB 4 (inB 3 (setN (setN (inB 2 (setN (inB 1 (setN (setN (inB 0 (setN (kont Pg R Try.f27) (fun e => orpimentlaw35_talk_settle_j1 R))) (fun e => k1 (e 0) (e 12) (e 13))) (fun e => orpimentlaw35_talk_settle_j5 R k1 (e 0) (e 12) (e 13)))) (fun e => orpimentlaw35_talk_settle_j7 R k1 (e 0) (e 12) (e 13)))) (fun e => k2 (e 0) (e 12) (e 13) (e 15))) (fun e => orpimentlaw35_talk_settle_j11 R k1 k2 (e 0) (e 12) (e 13) (e 15))))) (fun n e => orpimentlaw35_talk_settle_l1 R k1 k2 n (e 0) (e 5) (e 12) (e 13) (e 15) (e 34) (e 35) (e 36)) (fun _ => rfl) (fun n e => (orpimentlaw35_talk_settle_b3_ok R k1 k2 (orpimentlaw35_talk_settle_l1 R k1 k2 n) e).trans (orpimentlaw35_talk_settle_l1_succ R k1 k2 n (e 0) (e 5) (e 12) (e 13) (e 15) (e 34) (e 35) (e 36)).symm)
def orpimentlaw35_talk_settle_j14 (R : ER) (k1 : Value → Value → Value → WP) (k2 : Value → Value → Value → Value → WP) (x0 x5 x12 x13 x15 x34 x35 x36 : Value) : WP :=
  exN fun n => orpimentlaw35_talk_settle_l1 R k1 k2 n x0 x5 x12 x13 x15 x34 x35 x36
theorem orpimentlaw35_talk_settle_j14_ok (R : ER) (k1 : Value → Value → Value → WP) (k2 : Value → Value → Value → Value → WP) (e : Env) : den Pg R (cd Try.f27 [1,0,1,0,0,1,1,0,0,0,1,0,0,1,1,0,0,1,1,1,1]) e (inB 3 (setN (setN (inB 2 (setN (inB 1 (setN (setN (inB 0 (setN (kont Pg R Try.f27) (fun e => orpimentlaw35_talk_settle_j1 R))) (fun e => k1 (e 0) (e 12) (e 13))) (fun e => orpimentlaw35_talk_settle_j5 R k1 (e 0) (e 12) (e 13)))) (fun e => orpimentlaw35_talk_settle_j7 R k1 (e 0) (e 12) (e 13)))) (fun e => k2 (e 0) (e 12) (e 13) (e 15))) (fun e => orpimentlaw35_talk_settle_j11 R k1 k2 (e 0) (e 12) (e 13) (e 15)))) = (orpimentlaw35_talk_settle_j14 R k1 k2 (e 0) (e 5) (e 12) (e 13) (e 15) (e 34) (e 35) (e 36)) := (den_block Pg R (cd Try.f27 [1,0,1,0,0,1,1,0,0,0,1,0,0,1,1,0,0,1,1,1,1]) 4 (cd Try.f27 [1,0,1,0,0,1,1,0,0,0,1,0,0,1,1,0,0,1,1,1,1,0]) e (inB 3 (setN (setN (inB 2 (setN (inB 1 (setN (setN (inB 0 (setN (kont Pg R Try.f27) (fun e => orpimentlaw35_talk_settle_j1 R))) (fun e => k1 (e 0) (e 12) (e 13))) (fun e => orpimentlaw35_talk_settle_j5 R k1 (e 0) (e 12) (e 13)))) (fun e => orpimentlaw35_talk_settle_j7 R k1 (e 0) (e 12) (e 13)))) (fun e => k2 (e 0) (e 12) (e 13) (e 15))) (fun e => orpimentlaw35_talk_settle_j11 R k1 k2 (e 0) (e 12) (e 13) (e 15)))) _ (by kernel_rfl) (den_loop Pg R (cd Try.f27 [1,0,1,0,0,1,1,0,0,0,1,0,0,1,1,0,0,1,1,1,1,0]) (cd Try.f27 [1,0,1,0,0,1,1,0,0,0,1,0,0,1,1,0,0,1,1,1,1,0,0]) e (inB 4 (inB 3 (setN (setN (inB 2 (setN (inB 1 (setN (setN (inB 0 (setN (kont Pg R Try.f27) (fun e => orpimentlaw35_talk_settle_j1 R))) (fun e => k1 (e 0) (e 12) (e 13))) (fun e => orpimentlaw35_talk_settle_j5 R k1 (e 0) (e 12) (e 13)))) (fun e => orpimentlaw35_talk_settle_j7 R k1 (e 0) (e 12) (e 13)))) (fun e => k2 (e 0) (e 12) (e 13) (e 15))) (fun e => orpimentlaw35_talk_settle_j11 R k1 k2 (e 0) (e 12) (e 13) (e 15))))) (fun n e => orpimentlaw35_talk_settle_l1 R k1 k2 n (e 0) (e 5) (e 12) (e 13) (e 15) (e 34) (e 35) (e 36)) _ (by kernel_rfl) (orpimentlaw35_talk_settle_l1_ok R k1 k2) (by kernel_rfl)))
def orpimentlaw35_talk_settle_j13 (R : ER) (k1 : Value → Value → Value → WP) (k2 : Value → Value → Value → Value → WP) (x0 x5 x6 x12 x13 x15 : Value) : WP :=
  pv (lenS x6) fun v44 =>
  orpimentlaw35_talk_settle_j14 R k1 k2 x0 x5 x12 x13 x15 x6 v44 (.int .i64 0)
theorem orpimentlaw35_talk_settle_j13_ok (R : ER) (k1 : Value → Value → Value → WP) (k2 : Value → Value → Value → Value → WP) (e : Env) : den Pg R (cd Try.f27 [1,0,1,0,0,1,1,0,0,0,1,0,0,1,1,0,0,1,1,1]) e (inB 3 (setN (setN (inB 2 (setN (inB 1 (setN (setN (inB 0 (setN (kont Pg R Try.f27) (fun e => orpimentlaw35_talk_settle_j1 R))) (fun e => k1 (e 0) (e 12) (e 13))) (fun e => orpimentlaw35_talk_settle_j5 R k1 (e 0) (e 12) (e 13)))) (fun e => orpimentlaw35_talk_settle_j7 R k1 (e 0) (e 12) (e 13)))) (fun e => k2 (e 0) (e 12) (e 13) (e 15))) (fun e => orpimentlaw35_talk_settle_j11 R k1 k2 (e 0) (e 12) (e 13) (e 15)))) = (orpimentlaw35_talk_settle_j13 R k1 k2 (e 0) (e 5) (e 6) (e 12) (e 13) (e 15)) := (den_join Pg R 0 (cd Try.f27 [1,0,1,0,0,1,1,0,0,0,1,0,0,1,1,0,0,1,1,1]) (cd Try.f27 [1,0,1,0,0,1,1,0,0,0,1,0,0,1,1,0,0,1,1,1,1]) e (inB 3 (setN (setN (inB 2 (setN (inB 1 (setN (setN (inB 0 (setN (kont Pg R Try.f27) (fun e => orpimentlaw35_talk_settle_j1 R))) (fun e => k1 (e 0) (e 12) (e 13))) (fun e => orpimentlaw35_talk_settle_j5 R k1 (e 0) (e 12) (e 13)))) (fun e => orpimentlaw35_talk_settle_j7 R k1 (e 0) (e 12) (e 13)))) (fun e => k2 (e 0) (e 12) (e 13) (e 15))) (fun e => orpimentlaw35_talk_settle_j11 R k1 k2 (e 0) (e 12) (e 13) (e 15)))) (fun e => orpimentlaw35_talk_settle_j14 R k1 k2 (e 0) (e 5) (e 12) (e 13) (e 15) (e 34) (e 35) (e 36)) _ (by kernel_rfl) (fun e => orpimentlaw35_talk_settle_j14_ok R k1 k2 e) (by kernel_rfl))
def orpimentlaw35_talk_settle_j12 (R : ER) (k1 : Value → Value → Value → WP) (k2 : Value → Value → Value → Value → WP) (x0 x12 x13 x15 : Value) : WP :=
  drewV (
  pv (nilO x0) fun v45 =>
  pv (faO 0 v45) fun v46 =>
  pv (ixA 2 1 v46 x15) fun v47 =>
  ld1 v47 fun v48 =>
  pv (nilO x0) fun v49 =>
  pv (faO 5 v49) fun v50 =>
  ld1 v50 fun v51 =>
  mem fun w53 => cal Pg noR 14 ⟨[v48, v51]⟩ fun v52 =>
  pv (extO 0 v52) fun v54 =>
  pv (extO 1 v52) fun v55 =>
  pv (bin .neq v55 (.int .i64 0)) fun v56 =>
  cnd v56 (
   R (.returned (.bool false))) (
   orpimentlaw35_talk_settle_j13 R k1 k2 x0 x15 v54 x12 x13 x15))
theorem orpimentlaw35_talk_settle_j12_ok (R : ER) (k1 : Value → Value → Value → WP) (k2 : Value → Value → Value → Value → WP) (e : Env) : den Pg R (cd Try.f27 [1,0,1,0,0,1,1,0,0,0,1,0,0,1,1,0]) e (setN (setN (inB 2 (setN (inB 1 (setN (setN (inB 0 (setN (kont Pg R Try.f27) (fun e => orpimentlaw35_talk_settle_j1 R))) (fun e => k1 (e 0) (e 12) (e 13))) (fun e => orpimentlaw35_talk_settle_j5 R k1 (e 0) (e 12) (e 13)))) (fun e => orpimentlaw35_talk_settle_j7 R k1 (e 0) (e 12) (e 13)))) (fun e => k2 (e 0) (e 12) (e 13) (e 15))) (fun e => orpimentlaw35_talk_settle_j11 R k1 k2 (e 0) (e 12) (e 13) (e 15))) = (orpimentlaw35_talk_settle_j12 R k1 k2 (e 0) (e 12) (e 13) (e 15)) := (den_block Pg R (cd Try.f27 [1,0,1,0,0,1,1,0,0,0,1,0,0,1,1,0]) 3 (cd Try.f27 [1,0,1,0,0,1,1,0,0,0,1,0,0,1,1,0,0]) e (setN (setN (inB 2 (setN (inB 1 (setN (setN (inB 0 (setN (kont Pg R Try.f27) (fun e => orpimentlaw35_talk_settle_j1 R))) (fun e => k1 (e 0) (e 12) (e 13))) (fun e => orpimentlaw35_talk_settle_j5 R k1 (e 0) (e 12) (e 13)))) (fun e => orpimentlaw35_talk_settle_j7 R k1 (e 0) (e 12) (e 13)))) (fun e => k2 (e 0) (e 12) (e 13) (e 15))) (fun e => orpimentlaw35_talk_settle_j11 R k1 k2 (e 0) (e 12) (e 13) (e 15))) _ (by kernel_rfl) (den_join Pg R 2 (cd Try.f27 [1,0,1,0,0,1,1,0,0,0,1,0,0,1,1,0,0]) (cd Try.f27 [1,0,1,0,0,1,1,0,0,0,1,0,0,1,1,0,0,1,1,1]) e (inB 3 (setN (setN (inB 2 (setN (inB 1 (setN (setN (inB 0 (setN (kont Pg R Try.f27) (fun e => orpimentlaw35_talk_settle_j1 R))) (fun e => k1 (e 0) (e 12) (e 13))) (fun e => orpimentlaw35_talk_settle_j5 R k1 (e 0) (e 12) (e 13)))) (fun e => orpimentlaw35_talk_settle_j7 R k1 (e 0) (e 12) (e 13)))) (fun e => k2 (e 0) (e 12) (e 13) (e 15))) (fun e => orpimentlaw35_talk_settle_j11 R k1 k2 (e 0) (e 12) (e 13) (e 15)))) (fun e => orpimentlaw35_talk_settle_j13 R k1 k2 (e 0) (e 5) (e 6) (e 12) (e 13) (e 15)) _ (by kernel_rfl) (fun e => orpimentlaw35_talk_settle_j13_ok R k1 k2 e) (by kernel_rfl)))
def orpimentlaw35_talk_settle_j10 (R : ER) (k1 : Value → Value → Value → WP) (k2 : Value → Value → Value → Value → WP) (x0 x12 x13 x15 : Value) : WP :=
  orpimentlaw35_talk_settle_j12 R k1 k2 x0 x12 x13 x15
theorem orpimentlaw35_talk_settle_j10_ok (R : ER) (k1 : Value → Value → Value → WP) (k2 : Value → Value → Value → Value → WP) (e : Env) : den Pg R (cd Try.f27 [1,0,1,0,0,1,1,0,0,0,1,0,0,1,1]) e (setN (inB 2 (setN (inB 1 (setN (setN (inB 0 (setN (kont Pg R Try.f27) (fun e => orpimentlaw35_talk_settle_j1 R))) (fun e => k1 (e 0) (e 12) (e 13))) (fun e => orpimentlaw35_talk_settle_j5 R k1 (e 0) (e 12) (e 13)))) (fun e => orpimentlaw35_talk_settle_j7 R k1 (e 0) (e 12) (e 13)))) (fun e => k2 (e 0) (e 12) (e 13) (e 15))) = (orpimentlaw35_talk_settle_j10 R k1 k2 (e 0) (e 12) (e 13) (e 15)) := (den_join Pg R 0 (cd Try.f27 [1,0,1,0,0,1,1,0,0,0,1,0,0,1,1]) (cd Try.f27 [1,0,1,0,0,1,1,0,0,0,1,0,0,1,1,1]) e (setN (inB 2 (setN (inB 1 (setN (setN (inB 0 (setN (kont Pg R Try.f27) (fun e => orpimentlaw35_talk_settle_j1 R))) (fun e => k1 (e 0) (e 12) (e 13))) (fun e => orpimentlaw35_talk_settle_j5 R k1 (e 0) (e 12) (e 13)))) (fun e => orpimentlaw35_talk_settle_j7 R k1 (e 0) (e 12) (e 13)))) (fun e => k2 (e 0) (e 12) (e 13) (e 15))) (fun e => orpimentlaw35_talk_settle_j11 R k1 k2 (e 0) (e 12) (e 13) (e 15)) _ (by kernel_rfl) (fun e => orpimentlaw35_talk_settle_j11_ok R k1 k2 e) (den_conv Pg R (pre 0 (cd Try.f27 [1,0,1,0,0,1,1,0,0,0,1,0,0,1,1])) (cd Try.f27 [1,0,1,0,0,1,1,0,0,0,1,0,0,1,1,0]) e (setN (setN (inB 2 (setN (inB 1 (setN (setN (inB 0 (setN (kont Pg R Try.f27) (fun e => orpimentlaw35_talk_settle_j1 R))) (fun e => k1 (e 0) (e 12) (e 13))) (fun e => orpimentlaw35_talk_settle_j5 R k1 (e 0) (e 12) (e 13)))) (fun e => orpimentlaw35_talk_settle_j7 R k1 (e 0) (e 12) (e 13)))) (fun e => k2 (e 0) (e 12) (e 13) (e 15))) (fun e => orpimentlaw35_talk_settle_j11 R k1 k2 (e 0) (e 12) (e 13) (e 15))) _ (by kernel_rfl) (orpimentlaw35_talk_settle_j12_ok R k1 k2 e)))
def orpimentlaw35_talk_settle_b2 (R : ER) (k1 : Value → Value → Value → WP) (k2 : Value → Value → Value → Value → WP) (x0 x12 x13 x15 : Value) : WP :=
  pv (bin .lss x15 (.int .i64 2)) fun v57 =>
  cnd v57 (
   orpimentlaw35_talk_settle_j10 R k1 k2 x0 x12 x13 x15) (
   orpimentlaw35_talk_settle_j7 R k1 x0 x12 x13)
theorem orpimentlaw35_talk_settle_b2_ok (R : ER) (k1 : Value → Value → Value → WP) (k2 : Value → Value → Value → Value → WP) (e : Env) : den Pg R (cd Try.f27 [1,0,1,0,0,1,1,0,0,0,1,0,0]) e (setN (inB 2 (setN (inB 1 (setN (setN (inB 0 (setN (kont Pg R Try.f27) (fun e => orpimentlaw35_talk_settle_j1 R))) (fun e => k1 (e 0) (e 12) (e 13))) (fun e => orpimentlaw35_talk_settle_j5 R k1 (e 0) (e 12) (e 13)))) (fun e => orpimentlaw35_talk_settle_j7 R k1 (e 0) (e 12) (e 13)))) (fun e => k2 (e 0) (e 12) (e 13) (e 15))) = (orpimentlaw35_talk_settle_b2 R k1 k2 (e 0) (e 12) (e 13) (e 15)) := (den_join Pg R 1 (cd Try.f27 [1,0,1,0,0,1,1,0,0,0,1,0,0]) (cd Try.f27 [1,0,1,0,0,1,1,0,0,0,1,0,0,1,1]) e (setN (inB 2 (setN (inB 1 (setN (setN (inB 0 (setN (kont Pg R Try.f27) (fun e => orpimentlaw35_talk_settle_j1 R))) (fun e => k1 (e 0) (e 12) (e 13))) (fun e => orpimentlaw35_talk_settle_j5 R k1 (e 0) (e 12) (e 13)))) (fun e => orpimentlaw35_talk_settle_j7 R k1 (e 0) (e 12) (e 13)))) (fun e => k2 (e 0) (e 12) (e 13) (e 15))) (fun e => orpimentlaw35_talk_settle_j10 R k1 k2 (e 0) (e 12) (e 13) (e 15)) _ (by kernel_rfl) (fun e => orpimentlaw35_talk_settle_j10_ok R k1 k2 e) (by kernel_rfl))
noncomputable def orpimentlaw35_talk_settle_l2 (R : ER) (k1 : Value → Value → Value → WP) (n : Nat) : Value → Value → Value → Value → WP := Nat.rec (motive := fun _ => Value → Value → Value → Value → WP) (fun _ _ _ _ => fun _ => False) (fun _ ih => fun x0 x12 x13 x15 => orpimentlaw35_talk_settle_b2 R k1 ih x0 x12 x13 x15) n
theorem orpimentlaw35_talk_settle_l2_succ (R : ER) (k1 : Value → Value → Value → WP) (n : Nat) (x0 x12 x13 x15 : Value) : orpimentlaw35_talk_settle_l2 R k1 (n + 1) x0 x12 x13 x15 = orpimentlaw35_talk_settle_b2 R k1 (orpimentlaw35_talk_settle_l2 R k1 n) x0 x12 x13 x15 := rfl
theorem orpimentlaw35_talk_settle_l2_ok (R : ER) (k1 : Value → Value → Value → WP) : ∀ (n : Nat) (e : Env), iterL (den Pg R (cd Try.f27 [1,0,1,0,0,1,1,0,0,0,1,0,0])) n e (inB 2 (setN (inB 1 (setN (setN (inB 0 (setN (kont Pg R Try.f27) (fun e => orpimentlaw35_talk_settle_j1 R))) (fun e => k1 (e 0) (e 12) (e 13))) (fun e => orpimentlaw35_talk_settle_j5 R k1 (e 0) (e 12) (e 13)))) (fun e => orpimentlaw35_talk_settle_j7 R k1 (e 0) (e 12) (e 13)))) = orpimentlaw35_talk_settle_l2 R k1 n (e 0) (e 12) (e 13) (e 15) :=
  iterL_join (den Pg R (cd Try.f27 [1,0,1,0,0,1,1,0,0,0,1,0,0])) (inB 2 (setN (inB 1 (setN (setN (inB 0 (setN (kont Pg R Try.f27) (fun e => orpimentlaw35_talk_settle_j1 R))) (fun e => k1 (e 0) (e 12) (e 13))) (fun e => orpimentlaw35_talk_settle_j5 R k1 (e 0) (e 12) (e 13)))) (fun e => orpimentlaw35_talk_settle_j7 R k1 (e 0) (e 12) (e 13)))) (fun n e => orpimentlaw35_talk_settle_l2 R k1 n (e 0) (e 12) (e 13) (e 15)) (fun _ => rfl) (fun n e => (orpimentlaw35_talk_settle_b2_ok R k1 (orpimentlaw35_talk_settle_l2 R k1 n) e).trans (orpimentlaw35_talk_settle_l2_succ R k1 n (e 0) (e 12) (e 13) (e 15)).symm)
def orpimentlaw35_talk_settle_j9 (R : ER) (k1 : Value → Value → Value → WP) (x0 x12 x13 x15 : Value) : WP :=
  exN fun n => orpimentlaw35_talk_settle_l2 R k1 n x0 x12 x13 x15
theorem orpimentlaw35_talk_settle_j9_ok (R : ER) (k1 : Value → Value → Value → WP) (e : Env) : den Pg R (cd Try.f27 [1,0,1,0,0,1,1,0,0,0,1]) e (setN (inB 1 (setN (setN (inB 0 (setN (kont Pg R Try.f27) (fun e => orpimentlaw35_talk_settle_j1 R))) (fun e => k1 (e 0) (e 12) (e 13))) (fun e => orpimentlaw35_talk_settle_j5 R k1 (e 0) (e 12) (e 13)))) (fun e => orpimentlaw35_talk_settle_j7 R k1 (e 0) (e 12) (e 13))) = (orpimentlaw35_talk_settle_j9 R k1 (e 0) (e 12) (e 13) (e 15)) := (den_block Pg R (cd Try.f27 [1,0,1,0,0,1,1,0,0,0,1]) 2 (cd Try.f27 [1,0,1,0,0,1,1,0,0,0,1,0]) e (setN (inB 1 (setN (setN (inB 0 (setN (kont Pg R Try.f27) (fun e => orpimentlaw35_talk_settle_j1 R))) (fun e => k1 (e 0) (e 12) (e 13))) (fun e => orpimentlaw35_talk_settle_j5 R k1 (e 0) (e 12) (e 13)))) (fun e => orpimentlaw35_talk_settle_j7 R k1 (e 0) (e 12) (e 13))) _ (by kernel_rfl) (den_loop Pg R (cd Try.f27 [1,0,1,0,0,1,1,0,0,0,1,0]) (cd Try.f27 [1,0,1,0,0,1,1,0,0,0,1,0,0]) e (inB 2 (setN (inB 1 (setN (setN (inB 0 (setN (kont Pg R Try.f27) (fun e => orpimentlaw35_talk_settle_j1 R))) (fun e => k1 (e 0) (e 12) (e 13))) (fun e => orpimentlaw35_talk_settle_j5 R k1 (e 0) (e 12) (e 13)))) (fun e => orpimentlaw35_talk_settle_j7 R k1 (e 0) (e 12) (e 13)))) (fun n e => orpimentlaw35_talk_settle_l2 R k1 n (e 0) (e 12) (e 13) (e 15)) _ (by kernel_rfl) (orpimentlaw35_talk_settle_l2_ok R k1) (by kernel_rfl)))
def orpimentlaw35_talk_settle_j8 (R : ER) (k1 : Value → Value → Value → WP) (x0 x12 x13 : Value) : WP :=
  orpimentlaw35_talk_settle_j9 R k1 x0 x12 x13 (.int .i64 0)
theorem orpimentlaw35_talk_settle_j8_ok (R : ER) (k1 : Value → Value → Value → WP) (e : Env) : den Pg R (cd Try.f27 [1,0,1,0,0,1,1,0,0,0]) e (setN (inB 1 (setN (setN (inB 0 (setN (kont Pg R Try.f27) (fun e => orpimentlaw35_talk_settle_j1 R))) (fun e => k1 (e 0) (e 12) (e 13))) (fun e => orpimentlaw35_talk_settle_j5 R k1 (e 0) (e 12) (e 13)))) (fun e => orpimentlaw35_talk_settle_j7 R k1 (e 0) (e 12) (e 13))) = (orpimentlaw35_talk_settle_j8 R k1 (e 0) (e 12) (e 13)) := (den_join Pg R 0 (cd Try.f27 [1,0,1,0,0,1,1,0,0,0]) (cd Try.f27 [1,0,1,0,0,1,1,0,0,0,1]) e (setN (inB 1 (setN (setN (inB 0 (setN (kont Pg R Try.f27) (fun e => orpimentlaw35_talk_settle_j1 R))) (fun e => k1 (e 0) (e 12) (e 13))) (fun e => orpimentlaw35_talk_settle_j5 R k1 (e 0) (e 12) (e 13)))) (fun e => orpimentlaw35_talk_settle_j7 R k1 (e 0) (e 12) (e 13))) (fun e => orpimentlaw35_talk_settle_j9 R k1 (e 0) (e 12) (e 13) (e 15)) _ (by kernel_rfl) (fun e => orpimentlaw35_talk_settle_j9_ok R k1 e) (by kernel_rfl))
def orpimentlaw35_talk_settle_j6 (R : ER) (k1 : Value → Value → Value → WP) (x0 x12 x13 : Value) : WP :=
  orpimentlaw35_talk_settle_j8 R k1 x0 x12 x13
theorem orpimentlaw35_talk_settle_j6_ok (R : ER) (k1 : Value → Value → Value → WP) (e : Env) : den Pg R (cd Try.f27 [1,0,1,0,0,1,1,0]) e (setN (setN (inB 0 (setN (kont Pg R Try.f27) (fun e => orpimentlaw35_talk_settle_j1 R))) (fun e => k1 (e 0) (e 12) (e 13))) (fun e => orpimentlaw35_talk_settle_j5 R k1 (e 0) (e 12) (e 13))) = (orpimentlaw35_talk_settle_j6 R k1 (e 0) (e 12) (e 13)) := (den_block Pg R (cd Try.f27 [1,0,1,0,0,1,1,0]) 1 (cd Try.f27 [1,0,1,0,0,1,1,0,0]) e (setN (setN (inB 0 (setN (kont Pg R Try.f27) (fun e => orpimentlaw35_talk_settle_j1 R))) (fun e => k1 (e 0) (e 12) (e 13))) (fun e => orpimentlaw35_talk_settle_j5 R k1 (e 0) (e 12) (e 13))) _ (by kernel_rfl) (den_join Pg R 0 (cd Try.f27 [1,0,1,0,0,1,1,0,0]) (cd Try.f27 [1,0,1,0,0,1,1,0,0,1]) e (inB 1 (setN (setN (inB 0 (setN (kont Pg R Try.f27) (fun e => orpimentlaw35_talk_settle_j1 R))) (fun e => k1 (e 0) (e 12) (e 13))) (fun e => orpimentlaw35_talk_settle_j5 R k1 (e 0) (e 12) (e 13)))) (fun e => orpimentlaw35_talk_settle_j7 R k1 (e 0) (e 12) (e 13)) _ (by kernel_rfl) (fun e => orpimentlaw35_talk_settle_j7_ok R k1 e) (den_conv Pg R (pre 0 (cd Try.f27 [1,0,1,0,0,1,1,0,0])) (cd Try.f27 [1,0,1,0,0,1,1,0,0,0]) e (setN (inB 1 (setN (setN (inB 0 (setN (kont Pg R Try.f27) (fun e => orpimentlaw35_talk_settle_j1 R))) (fun e => k1 (e 0) (e 12) (e 13))) (fun e => orpimentlaw35_talk_settle_j5 R k1 (e 0) (e 12) (e 13)))) (fun e => orpimentlaw35_talk_settle_j7 R k1 (e 0) (e 12) (e 13))) _ (by kernel_rfl) (orpimentlaw35_talk_settle_j8_ok R k1 e))))
def orpimentlaw35_talk_settle_j4 (R : ER) (k1 : Value → Value → Value → WP) (x0 x12 x13 : Value) : WP :=
  orpimentlaw35_talk_settle_j6 R k1 x0 x12 x13
theorem orpimentlaw35_talk_settle_j4_ok (R : ER) (k1 : Value → Value → Value → WP) (e : Env) : den Pg R (cd Try.f27 [1,0,1,0,0,1,1]) e (setN (inB 0 (setN (kont Pg R Try.f27) (fun e => orpimentlaw35_talk_settle_j1 R))) (fun e => k1 (e 0) (e 12) (e 13))) = (orpimentlaw35_talk_settle_j4 R k1 (e 0) (e 12) (e 13)) := (den_join Pg R 0 (cd Try.f27 [1,0,1,0,0,1,1]) (cd Try.f27 [1,0,1,0,0,1,1,1]) e (setN (inB 0 (setN (kont Pg R Try.f27) (fun e => orpimentlaw35_talk_settle_j1 R))) (fun e => k1 (e 0) (e 12) (e 13))) (fun e => orpimentlaw35_talk_settle_j5 R k1 (e 0) (e 12) (e 13)) _ (by kernel_rfl) (fun e => orpimentlaw35_talk_settle_j5_ok R k1 e) (den_conv Pg R (pre 0 (cd Try.f27 [1,0,1,0,0,1,1])) (cd Try.f27 [1,0,1,0,0,1,1,0]) e (setN (setN (inB 0 (setN (kont Pg R Try.f27) (fun e => orpimentlaw35_talk_settle_j1 R))) (fun e => k1 (e 0) (e 12) (e 13))) (fun e => orpimentlaw35_talk_settle_j5 R k1 (e 0) (e 12) (e 13))) _ (by kernel_rfl) (orpimentlaw35_talk_settle_j6_ok R k1 e)))
def orpimentlaw35_talk_settle_b1 (R : ER) (k1 : Value → Value → Value → WP) (x0 x12 x13 : Value) : WP :=
  pv (bin .lss x13 x12) fun v58 =>
  cnd v58 (
   orpimentlaw35_talk_settle_j4 R k1 x0 x12 x13) (
   orpimentlaw35_talk_settle_j1 R)
theorem orpimentlaw35_talk_settle_b1_ok (R : ER) (k1 : Value → Value → Value → WP) (e : Env) : den Pg R (cd Try.f27 [1,0,1,0,0]) e (setN (inB 0 (setN (kont Pg R Try.f27) (fun e => orpimentlaw35_talk_settle_j1 R))) (fun e => k1 (e 0) (e 12) (e 13))) = (orpimentlaw35_talk_settle_b1 R k1 (e 0) (e 12) (e 13)) := (den_join Pg R 1 (cd Try.f27 [1,0,1,0,0]) (cd Try.f27 [1,0,1,0,0,1,1]) e (setN (inB 0 (setN (kont Pg R Try.f27) (fun e => orpimentlaw35_talk_settle_j1 R))) (fun e => k1 (e 0) (e 12) (e 13))) (fun e => orpimentlaw35_talk_settle_j4 R k1 (e 0) (e 12) (e 13)) _ (by kernel_rfl) (fun e => orpimentlaw35_talk_settle_j4_ok R k1 e) (by kernel_rfl))
noncomputable def orpimentlaw35_talk_settle_l3 (R : ER) (n : Nat) : Value → Value → Value → WP := Nat.rec (motive := fun _ => Value → Value → Value → WP) (fun _ _ _ => fun _ => False) (fun _ ih => fun x0 x12 x13 => orpimentlaw35_talk_settle_b1 R ih x0 x12 x13) n
theorem orpimentlaw35_talk_settle_l3_succ (R : ER) (n : Nat) (x0 x12 x13 : Value) : orpimentlaw35_talk_settle_l3 R (n + 1) x0 x12 x13 = orpimentlaw35_talk_settle_b1 R (orpimentlaw35_talk_settle_l3 R n) x0 x12 x13 := rfl
theorem orpimentlaw35_talk_settle_l3_ok (R : ER) : ∀ (n : Nat) (e : Env), iterL (den Pg R (cd Try.f27 [1,0,1,0,0])) n e (inB 0 (setN (kont Pg R Try.f27) (fun e => orpimentlaw35_talk_settle_j1 R))) = orpimentlaw35_talk_settle_l3 R n (e 0) (e 12) (e 13) :=
  iterL_join (den Pg R (cd Try.f27 [1,0,1,0,0])) (inB 0 (setN (kont Pg R Try.f27) (fun e => orpimentlaw35_talk_settle_j1 R))) (fun n e => orpimentlaw35_talk_settle_l3 R n (e 0) (e 12) (e 13)) (fun _ => rfl) (fun n e => (orpimentlaw35_talk_settle_b1_ok R (orpimentlaw35_talk_settle_l3 R n) e).trans (orpimentlaw35_talk_settle_l3_succ R n (e 0) (e 12) (e 13)).symm)
def orpimentlaw35_talk_settle_j3 (R : ER) (x0 x12 x13 : Value) : WP :=
  exN fun n => orpimentlaw35_talk_settle_l3 R n x0 x12 x13
theorem orpimentlaw35_talk_settle_j3_ok (R : ER) (e : Env) : den Pg R (cd Try.f27 [1,0,1]) e (setN (kont Pg R Try.f27) (fun e => orpimentlaw35_talk_settle_j1 R)) = (orpimentlaw35_talk_settle_j3 R (e 0) (e 12) (e 13)) := (den_block Pg R (cd Try.f27 [1,0,1]) 0 (cd Try.f27 [1,0,1,0]) e (setN (kont Pg R Try.f27) (fun e => orpimentlaw35_talk_settle_j1 R)) _ (by kernel_rfl) (den_loop Pg R (cd Try.f27 [1,0,1,0]) (cd Try.f27 [1,0,1,0,0]) e (inB 0 (setN (kont Pg R Try.f27) (fun e => orpimentlaw35_talk_settle_j1 R))) (fun n e => orpimentlaw35_talk_settle_l3 R n (e 0) (e 12) (e 13)) _ (by kernel_rfl) (orpimentlaw35_talk_settle_l3_ok R) (by kernel_rfl)))
def orpimentlaw35_talk_settle_j2 (R : ER) (x0 x1 : Value) : WP :=
  orpimentlaw35_talk_settle_j3 R x0 x1 (.int .i64 0)
theorem orpimentlaw35_talk_settle_j2_ok (R : ER) (e : Env) : den Pg R (cd Try.f27 [1,0]) e (setN (kont Pg R Try.f27) (fun e => orpimentlaw35_talk_settle_j1 R)) = (orpimentlaw35_talk_settle_j2 R (e 0) (e 1)) := (den_join Pg R 0 (cd Try.f27 [1,0]) (cd Try.f27 [1,0,1]) e (setN (kont Pg R Try.f27) (fun e => orpimentlaw35_talk_settle_j1 R)) (fun e => orpimentlaw35_talk_settle_j3 R (e 0) (e 12) (e 13)) _ (by kernel_rfl) (fun e => orpimentlaw35_talk_settle_j3_ok R e) (by kernel_rfl))
def orpimentlaw35_talk_settle (R : ER) (x0 x1 : Value) : WP :=
  orpimentlaw35_talk_settle_j2 R x0 x1
theorem orpimentlaw35_talk_settle_den (R : ER) (x0 x1 : Value) : den Pg R (cd Try.f27 []) (argsEnv [x0, x1]) (kont Pg R Try.f27) = orpimentlaw35_talk_settle R x0 x1 :=
  have h : ∀ e, den Pg R (cd Try.f27 []) e (kont Pg R Try.f27) = orpimentlaw35_talk_settle R (e 0) (e 1) := fun e => (den_join Pg R 1 (cd Try.f27 []) (cd Try.f27 [1,1]) e (kont Pg R Try.f27) (fun e => orpimentlaw35_talk_settle_j1 R) _ (by kernel_rfl) (fun e => orpimentlaw35_talk_settle_j1_ok R e) (den_join Pg R 0 (pre 1 (cd Try.f27 [])) (cd Try.f27 [1,0]) e (setN (kont Pg R Try.f27) (fun e => orpimentlaw35_talk_settle_j1 R)) (fun e => orpimentlaw35_talk_settle_j2 R (e 0) (e 1)) _ (by kernel_rfl) (fun e => orpimentlaw35_talk_settle_j2_ok R e) (by kernel_rfl)))
  h _
theorem orpimentlaw35_talk_settle_calls {R : ER} {x0 x1 : Value} {w : World} (h : orpimentlaw35_talk_settle R x0 x1 w) : Calls Pg 27 ⟨[x0, x1]⟩ w R :=
  calls_of_den Try.func27 (by kernel_rfl) (by kernel_rfl) (orpimentlaw35_talk_settle_den R x0 x1) h
/-! ### 28: orpimentlaw35_long -/
def orpimentlaw35_long_j1 (R : ER) (x0 x3 : Value) : WP :=
  pv (lenS x0) fun v1 =>
  pv (bin .gtr v1 (.int .i64 40)) fun v2 =>
  gd v2 false (pv (some x3)) fun v3 =>
  gd v2 false (pv (bin .gtr v3 (.int .i64 12000))) fun v4 =>
  pv (pickO v2 (.bool true) v4) fun v5 =>
  R (.returned v5)
theorem orpimentlaw35_long_j1_ok (R : ER) (e : Env) : den Pg R (cd Try.f28 [1,1,1]) e (kont Pg R Try.f28) = (orpimentlaw35_long_j1 R (e 0) (e 3)) := by kernel_rfl
def orpimentlaw35_long_j4 (R : ER) (k1 : Value → Value → Value → Value → Value → WP) (x0 x3 x6 x7 x8 : Value) : WP :=
  pv (ixS 5 x6 x8) fun v6 =>
  ldN 5 v6 fun v7 =>
  al Pg 65 fun v8 =>
  stN 5 v8 v7 fun _ =>
  pv (faO 3 v8) fun v9 =>
  ld1 v9 fun v10 =>
  pv (lenS v10) fun v11 =>
  pv (bin .add x3 v11) fun v12 =>
  pv (bin .add x8 (.int .i64 1)) fun v13 =>
  k1 x0 v12 x6 x7 v13
theorem orpimentlaw35_long_j4_ok (R : ER) (k1 : Value → Value → Value → Value → Value → WP) (e : Env) : den Pg R (cd Try.f28 [1,1,0,1,0,0,1,1]) e (setN (inB 0 (setN (kont Pg R Try.f28) (fun e => orpimentlaw35_long_j1 R (e 0) (e 3)))) (fun e => k1 (e 0) (e 3) (e 6) (e 7) (e 8))) = (orpimentlaw35_long_j4 R k1 (e 0) (e 3) (e 6) (e 7) (e 8)) := by kernel_rfl
def orpimentlaw35_long_b1 (R : ER) (k1 : Value → Value → Value → Value → Value → WP) (x0 x3 x6 x7 x8 : Value) : WP :=
  pv (bin .lss x8 x7) fun v14 =>
  cnd v14 (
   orpimentlaw35_long_j4 R k1 x0 x3 x6 x7 x8) (
   orpimentlaw35_long_j1 R x0 x3)
theorem orpimentlaw35_long_b1_ok (R : ER) (k1 : Value → Value → Value → Value → Value → WP) (e : Env) : den Pg R (cd Try.f28 [1,1,0,1,0,0]) e (setN (inB 0 (setN (kont Pg R Try.f28) (fun e => orpimentlaw35_long_j1 R (e 0) (e 3)))) (fun e => k1 (e 0) (e 3) (e 6) (e 7) (e 8))) = (orpimentlaw35_long_b1 R k1 (e 0) (e 3) (e 6) (e 7) (e 8)) := (den_join Pg R 1 (cd Try.f28 [1,1,0,1,0,0]) (cd Try.f28 [1,1,0,1,0,0,1,1]) e (setN (inB 0 (setN (kont Pg R Try.f28) (fun e => orpimentlaw35_long_j1 R (e 0) (e 3)))) (fun e => k1 (e 0) (e 3) (e 6) (e 7) (e 8))) (fun e => orpimentlaw35_long_j4 R k1 (e 0) (e 3) (e 6) (e 7) (e 8)) _ (by kernel_rfl) (fun e => orpimentlaw35_long_j4_ok R k1 e) (by kernel_rfl))
noncomputable def orpimentlaw35_long_l1 (R : ER) (n : Nat) : Value → Value → Value → Value → Value → WP := Nat.rec (motive := fun _ => Value → Value → Value → Value → Value → WP) (fun _ _ _ _ _ => fun _ => False) (fun _ ih => fun x0 x3 x6 x7 x8 => orpimentlaw35_long_b1 R ih x0 x3 x6 x7 x8) n
theorem orpimentlaw35_long_l1_succ (R : ER) (n : Nat) (x0 x3 x6 x7 x8 : Value) : orpimentlaw35_long_l1 R (n + 1) x0 x3 x6 x7 x8 = orpimentlaw35_long_b1 R (orpimentlaw35_long_l1 R n) x0 x3 x6 x7 x8 := rfl
theorem orpimentlaw35_long_l1_ok (R : ER) : ∀ (n : Nat) (e : Env), iterL (den Pg R (cd Try.f28 [1,1,0,1,0,0])) n e (inB 0 (setN (kont Pg R Try.f28) (fun e => orpimentlaw35_long_j1 R (e 0) (e 3)))) = orpimentlaw35_long_l1 R n (e 0) (e 3) (e 6) (e 7) (e 8) :=
  iterL_join (den Pg R (cd Try.f28 [1,1,0,1,0,0])) (inB 0 (setN (kont Pg R Try.f28) (fun e => orpimentlaw35_long_j1 R (e 0) (e 3)))) (fun n e => orpimentlaw35_long_l1 R n (e 0) (e 3) (e 6) (e 7) (e 8)) (fun _ => rfl) (fun n e => (orpimentlaw35_long_b1_ok R (orpimentlaw35_long_l1 R n) e).trans (orpimentlaw35_long_l1_succ R n (e 0) (e 3) (e 6) (e 7) (e 8)).symm)
def orpimentlaw35_long_j3 (R : ER) (x0 x3 x6 x7 x8 : Value) : WP :=
  exN fun n => orpimentlaw35_long_l1 R n x0 x3 x6 x7 x8
theorem orpimentlaw35_long_j3_ok (R : ER) (e : Env) : den Pg R (cd Try.f28 [1,1,0,1]) e (setN (kont Pg R Try.f28) (fun e => orpimentlaw35_long_j1 R (e 0) (e 3))) = (orpimentlaw35_long_j3 R (e 0) (e 3) (e 6) (e 7) (e 8)) := (den_block Pg R (cd Try.f28 [1,1,0,1]) 0 (cd Try.f28 [1,1,0,1,0]) e (setN (kont Pg R Try.f28) (fun e => orpimentlaw35_long_j1 R (e 0) (e 3))) _ (by kernel_rfl) (den_loop Pg R (cd Try.f28 [1,1,0,1,0]) (cd Try.f28 [1,1,0,1,0,0]) e (inB 0 (setN (kont Pg R Try.f28) (fun e => orpimentlaw35_long_j1 R (e 0) (e 3)))) (fun n e => orpimentlaw35_long_l1 R n (e 0) (e 3) (e 6) (e 7) (e 8)) _ (by kernel_rfl) (orpimentlaw35_long_l1_ok R) (by kernel_rfl)))
def orpimentlaw35_long_j2 (R : ER) (x0 x3 : Value) : WP :=
  pv (lenS x0) fun v15 =>
  orpimentlaw35_long_j3 R x0 x3 x0 v15 (.int .i64 0)
theorem orpimentlaw35_long_j2_ok (R : ER) (e : Env) : den Pg R (cd Try.f28 [1,1,0]) e (setN (kont Pg R Try.f28) (fun e => orpimentlaw35_long_j1 R (e 0) (e 3))) = (orpimentlaw35_long_j2 R (e 0) (e 3)) := (den_join Pg R 0 (cd Try.f28 [1,1,0]) (cd Try.f28 [1,1,0,1]) e (setN (kont Pg R Try.f28) (fun e => orpimentlaw35_long_j1 R (e 0) (e 3))) (fun e => orpimentlaw35_long_j3 R (e 0) (e 3) (e 6) (e 7) (e 8)) _ (by kernel_rfl) (fun e => orpimentlaw35_long_j3_ok R e) (by kernel_rfl))
def orpimentlaw35_long (R : ER) (x0 : Value) : WP :=
  orpimentlaw35_long_j2 R x0 (.int .i64 0)
theorem orpimentlaw35_long_den (R : ER) (x0 : Value) : den Pg R (cd Try.f28 []) (argsEnv [x0]) (kont Pg R Try.f28) = orpimentlaw35_long R x0 :=
  have h : ∀ e, den Pg R (cd Try.f28 []) e (kont Pg R Try.f28) = orpimentlaw35_long R (e 0) := fun e => (den_join Pg R 2 (cd Try.f28 []) (cd Try.f28 [1,1,1]) e (kont Pg R Try.f28) (fun e => orpimentlaw35_long_j1 R (e 0) (e 3)) _ (by kernel_rfl) (fun e => orpimentlaw35_long_j1_ok R e) (den_join Pg R 1 (pre 2 (cd Try.f28 [])) (cd Try.f28 [1,1,0]) e (setN (kont Pg R Try.f28) (fun e => orpimentlaw35_long_j1 R (e 0) (e 3))) (fun e => orpimentlaw35_long_j2 R (e 0) (e 3)) _ (by kernel_rfl) (fun e => orpimentlaw35_long_j2_ok R e) (by kernel_rfl)))
  h _
theorem orpimentlaw35_long_calls {R : ER} {x0 : Value} {w : World} (h : orpimentlaw35_long R x0 w) : Calls Pg 28 ⟨[x0]⟩ w R :=
  calls_of_den Try.func28 (by kernel_rfl) (by kernel_rfl) (orpimentlaw35_long_den R x0) h
/-! ### 29: links_New -/
def links_New_j2 (R : ER) (x0 x1 x2 x3 : Value) : WP :=
  valV Pg R (Instr.buildSlice 92 1 ⟨[(0, (.bool true))]⟩) fun v1 =>
  cal Pg R 48 ⟨[v1, x0]⟩ fun v2 =>
  pv (bldO [.int .i64 0, .bool false, .int .i64 0, .int .i64 0, .slice none 0 0] [(0,1, (.int .i64 2)), (2,1, (.int .i64 1))]) fun v3 =>
  pv (bldO [.slice none 0 0, .int .i64 0, .int .i64 0, .int .i64 0, .int .i64 0, .slice none 0 0, .int .i64 0, .int .i64 0, .int .i64 0, .int .i64 0, .bool false, .int .i64 0, .bool false, .int .i64 0, .int .i64 0, .slice none 0 0, .slice none 0 0, .slice none 0 0] [(0,1, v2), (1,1, x1), (2,1, x2), (3,1, x3), (11,5, v3)]) fun v4 =>
  bx 96 v4 fun v5 =>
  R (.returned (.tuple ⟨[v5, (.int .i64 0)]⟩))
theorem links_New_j2_ok (R : ER) (e : Env) : den Pg R (cd Try.f29 [1,1,1]) e (kont Pg R Try.f29) = (links_New_j2 R (e 0) (e 1) (e 2) (e 3)) := by kernel_rfl
def links_New_j1 (R : ER) (x0 x1 x2 x3 : Value) : WP :=
  pv (bin .lss x2 (.int .i64 0)) fun v6 =>
  gd v6 false (pv (some x2)) fun v7 =>
  gd v6 false (pv (bin .gtr v7 (.int .i64 2))) fun v8 =>
  pv (pickO v6 (.bool true) v8) fun v9 =>
  cnd v9 (
   R (.returned (.tuple ⟨[(.pointer none), (.int .i64 17)]⟩))) (
   links_New_j2 R x0 x1 x2 x3)
theorem links_New_j1_ok (R : ER) (e : Env) : den Pg R (cd Try.f29 [1,1]) e (kont Pg R Try.f29) = (links_New_j1 R (e 0) (e 1) (e 2) (e 3)) := (den_join Pg R 0 (cd Try.f29 [1,1]) (cd Try.f29 [1,1,1]) e (kont Pg R Try.f29) (fun e => links_New_j2 R (e 0) (e 1) (e 2) (e 3)) _ (by kernel_rfl) (fun e => links_New_j2_ok R e) (by kernel_rfl))
def links_New_j3 (R : ER) (x0 x1 x2 x3 : Value) : WP :=
  pv (bin .lss x0 (.int .i64 1)) fun v10 =>
  gd v10 false (pv (some x0)) fun v11 =>
  gd v10 false (pv (bin .gtr v11 (.int .i64 8))) fun v12 =>
  pv (pickO v10 (.bool true) v12) fun v13 =>
  gd v13 false (pv (some x1)) fun v14 =>
  gd v13 false (pv (bin .lss v14 (.int .i64 32))) fun v15 =>
  pv (pickO v13 (.bool true) v15) fun v16 =>
  gd v16 false (pv (some x1)) fun v17 =>
  gd v16 false (pv (bin .gtr v17 (.int .i64 4096))) fun v18 =>
  pv (pickO v16 (.bool true) v18) fun v19 =>
  gd v19 false (pv (some x3)) fun v20 =>
  gd v19 false (pv (bin .lss v20 (.int .i64 1))) fun v21 =>
  pv (pickO v19 (.bool true) v21) fun v22 =>
  gd v22 false (pv (some x3)) fun v23 =>
  gd v22 false (pv (bin .gtr v23 (.int .i64 1099511627776))) fun v24 =>
  pv (pickO v22 (.bool true) v24) fun v25 =>
  cnd v25 (
   R (.returned (.tuple ⟨[(.pointer none), (.int .i64 34)]⟩))) (
   links_New_j1 R x0 x1 x2 x3)
theorem links_New_j3_ok (R : ER) (e : Env) : den Pg R (cd Try.f29 [1,0]) e (setN (kont Pg R Try.f29) (fun e => links_New_j1 R (e 0) (e 1) (e 2) (e 3))) = (links_New_j3 R (e 0) (e 1) (e 2) (e 3)) := (by kernel_rfl)
def links_New (R : ER) (x0 x1 x2 x3 : Value) : WP :=
  links_New_j3 R x0 x1 x2 x3
theorem links_New_den (R : ER) (x0 x1 x2 x3 : Value) : den Pg R (cd Try.f29 []) (argsEnv [x0, x1, x2, x3]) (kont Pg R Try.f29) = links_New R x0 x1 x2 x3 :=
  have h : ∀ e, den Pg R (cd Try.f29 []) e (kont Pg R Try.f29) = links_New R (e 0) (e 1) (e 2) (e 3) := fun e => (den_join Pg R 1 (cd Try.f29 []) (cd Try.f29 [1,1]) e (kont Pg R Try.f29) (fun e => links_New_j1 R (e 0) (e 1) (e 2) (e 3)) _ (by kernel_rfl) (fun e => links_New_j1_ok R e) (den_join Pg R 0 (pre 1 (cd Try.f29 [])) (cd Try.f29 [1,0]) e (setN (kont Pg R Try.f29) (fun e => links_New_j1 R (e 0) (e 1) (e 2) (e 3))) (fun e => links_New_j3 R (e 0) (e 1) (e 2) (e 3)) _ (by kernel_rfl) (fun e => links_New_j3_ok R e) (by kernel_rfl)))
  h _
theorem links_New_calls {R : ER} {x0 x1 x2 x3 : Value} {w : World} (h : links_New R x0 x1 x2 x3 w) : Calls Pg 29 ⟨[x0, x1, x2, x3]⟩ w R :=
  calls_of_den Try.func29 (by kernel_rfl) (by kernel_rfl) (links_New_den R x0 x1 x2 x3) h
/-! ### 30: orpimentref35_New -/
def orpimentref35_New_j3 (R : ER) (x10 : Value) : WP :=
  R (.returned (.tuple ⟨[x10, (.int .i64 0)]⟩))
theorem orpimentref35_New_j3_ok (R : ER) (e : Env) : den Pg R (cd Try.f30 [1,1,1,1,1]) e (kont Pg R Try.f30) = (orpimentref35_New_j3 R (e 10)) := by kernel_rfl
def orpimentref35_New_j6 (R : ER) (k1 : Value → Value → Value → WP) (x0 x10 x11 : Value) : WP :=
  pv (nilO x10) fun v1 =>
  pv (faO 0 v1) fun v2 =>
  ld1 v2 fun v3 =>
  valV Pg R (Instr.buildSlice 92 1 ⟨[(0, (.bool true))]⟩) fun v4 =>
  blt Pg R .append ⟨[92,92]⟩ 92 ⟨[false, false]⟩ ⟨[v3, v4]⟩ fun v5 =>
  pv (nilO x10) fun v6 =>
  pv (faO 0 v6) fun v7 =>
  st1 v7 v5 fun _ =>
  pv (bin .add x11 (.int .i64 1)) fun v8 =>
  k1 x0 x10 v8
theorem orpimentref35_New_j6_ok (R : ER) (k1 : Value → Value → Value → WP) (e : Env) : den Pg R (cd Try.f30 [1,1,1,1,0,1,0,0,1]) e (setN (inB 0 (setN (kont Pg R Try.f30) (fun e => orpimentref35_New_j3 R (e 10)))) (fun e => k1 (e 0) (e 10) (e 11))) = (orpimentref35_New_j6 R k1 (e 0) (e 10) (e 11)) := by kernel_rfl
def orpimentref35_New_b1 (R : ER) (k1 : Value → Value → Value → WP) (x0 x10 x11 : Value) : WP :=
  pv (bin .lss x11 x0) fun v9 =>
  cnd v9 (
   orpimentref35_New_j6 R k1 x0 x10 x11) (
   orpimentref35_New_j3 R x10)
theorem orpimentref35_New_b1_ok (R : ER) (k1 : Value → Value → Value → WP) (e : Env) : den Pg R (cd Try.f30 [1,1,1,1,0,1,0,0]) e (setN (inB 0 (setN (kont Pg R Try.f30) (fun e => orpimentref35_New_j3 R (e 10)))) (fun e => k1 (e 0) (e 10) (e 11))) = (orpimentref35_New_b1 R k1 (e 0) (e 10) (e 11)) := (den_join Pg R 0 (cd Try.f30 [1,1,1,1,0,1,0,0]) (cd Try.f30 [1,1,1,1,0,1,0,0,1]) e (setN (inB 0 (setN (kont Pg R Try.f30) (fun e => orpimentref35_New_j3 R (e 10)))) (fun e => k1 (e 0) (e 10) (e 11))) (fun e => orpimentref35_New_j6 R k1 (e 0) (e 10) (e 11)) _ (by kernel_rfl) (fun e => orpimentref35_New_j6_ok R k1 e) (by kernel_rfl))
noncomputable def orpimentref35_New_l1 (R : ER) (n : Nat) : Value → Value → Value → WP := Nat.rec (motive := fun _ => Value → Value → Value → WP) (fun _ _ _ => fun _ => False) (fun _ ih => fun x0 x10 x11 => orpimentref35_New_b1 R ih x0 x10 x11) n
theorem orpimentref35_New_l1_succ (R : ER) (n : Nat) (x0 x10 x11 : Value) : orpimentref35_New_l1 R (n + 1) x0 x10 x11 = orpimentref35_New_b1 R (orpimentref35_New_l1 R n) x0 x10 x11 := rfl
theorem orpimentref35_New_l1_ok (R : ER) : ∀ (n : Nat) (e : Env), iterL (den Pg R (cd Try.f30 [1,1,1,1,0,1,0,0])) n e (inB 0 (setN (kont Pg R Try.f30) (fun e => orpimentref35_New_j3 R (e 10)))) = orpimentref35_New_l1 R n (e 0) (e 10) (e 11) :=
  iterL_join (den Pg R (cd Try.f30 [1,1,1,1,0,1,0,0])) (inB 0 (setN (kont Pg R Try.f30) (fun e => orpimentref35_New_j3 R (e 10)))) (fun n e => orpimentref35_New_l1 R n (e 0) (e 10) (e 11)) (fun _ => rfl) (fun n e => (orpimentref35_New_b1_ok R (orpimentref35_New_l1 R n) e).trans (orpimentref35_New_l1_succ R n (e 0) (e 10) (e 11)).symm)
def orpimentref35_New_j5 (R : ER) (x0 x10 x11 : Value) : WP :=
  exN fun n => orpimentref35_New_l1 R n x0 x10 x11
theorem orpimentref35_New_j5_ok (R : ER) (e : Env) : den Pg R (cd Try.f30 [1,1,1,1,0,1]) e (setN (kont Pg R Try.f30) (fun e => orpimentref35_New_j3 R (e 10))) = (orpimentref35_New_j5 R (e 0) (e 10) (e 11)) := (den_block Pg R (cd Try.f30 [1,1,1,1,0,1]) 0 (cd Try.f30 [1,1,1,1,0,1,0]) e (setN (kont Pg R Try.f30) (fun e => orpimentref35_New_j3 R (e 10))) _ (by kernel_rfl) (den_loop Pg R (cd Try.f30 [1,1,1,1,0,1,0]) (cd Try.f30 [1,1,1,1,0,1,0,0]) e (inB 0 (setN (kont Pg R Try.f30) (fun e => orpimentref35_New_j3 R (e 10)))) (fun n e => orpimentref35_New_l1 R n (e 0) (e 10) (e 11)) _ (by kernel_rfl) (orpimentref35_New_l1_ok R) (by kernel_rfl)))
def orpimentref35_New_j4 (R : ER) (x0 x10 : Value) : WP :=
  orpimentref35_New_j5 R x0 x10 (.int .i64 0)
theorem orpimentref35_New_j4_ok (R : ER) (e : Env) : den Pg R (cd Try.f30 [1,1,1,1,0]) e (setN (kont Pg R Try.f30) (fun e => orpimentref35_New_j3 R (e 10))) = (orpimentref35_New_j4 R (e 0) (e 10)) := (den_join Pg R 0 (cd Try.f30 [1,1,1,1,0]) (cd Try.f30 [1,1,1,1,0,1]) e (setN (kont Pg R Try.f30) (fun e => orpimentref35_New_j3 R (e 10))) (fun e => orpimentref35_New_j5 R (e 0) (e 10) (e 11)) _ (by kernel_rfl) (fun e => orpimentref35_New_j5_ok R e) (by kernel_rfl))
def orpimentref35_New_j2 (R : ER) (x0 x1 x2 x3 : Value) : WP :=
  pv (bldO [.slice none 0 0, .int .i64 0, .int .i64 0, .int .i64 0, .int .i64 0, .slice none 0 0, .int .i64 0, .int .i64 0, .int .i64 0, .int .i64 0, .bool false, .int .i64 0, .int .i64 0, .slice none 0 0, .slice none 0 0] [(1,1, x1), (2,1, x2), (3,1, x3), (11,1, (.int .i64 1))]) fun v10 =>
  bx 125 v10 fun v11 =>
  orpimentref35_New_j4 R x0 v11
theorem orpimentref35_New_j2_ok (R : ER) (e : Env) : den Pg R (cd Try.f30 [1,1,1]) e (kont Pg R Try.f30) = (orpimentref35_New_j2 R (e 0) (e 1) (e 2) (e 3)) := (den_join Pg R 1 (cd Try.f30 [1,1,1]) (cd Try.f30 [1,1,1,1,1]) e (kont Pg R Try.f30) (fun e => orpimentref35_New_j3 R (e 10)) _ (by kernel_rfl) (fun e => orpimentref35_New_j3_ok R e) (den_join Pg R 0 (pre 1 (cd Try.f30 [1,1,1])) (cd Try.f30 [1,1,1,1,0]) e (setN (kont Pg R Try.f30) (fun e => orpimentref35_New_j3 R (e 10))) (fun e => orpimentref35_New_j4 R (e 0) (e 10)) _ (by kernel_rfl) (fun e => orpimentref35_New_j4_ok R e) (by kernel_rfl)))
def orpimentref35_New_j1 (R : ER) (x0 x1 x2 x3 : Value) : WP :=
  pv (bin .lss x2 (.int .i64 0)) fun v12 =>
  gd v12 false (pv (some x2)) fun v13 =>
  gd v12 false (pv (bin .gtr v13 (.int .i64 2))) fun v14 =>
  pv (pickO v12 (.bool true) v14) fun v15 =>
  cnd v15 (
   R (.returned (.tuple ⟨[(.pointer none), (.int .i64 17)]⟩))) (
   orpimentref35_New_j2 R x0 x1 x2 x3)
theorem orpimentref35_New_j1_ok (R : ER) (e : Env) : den Pg R (cd Try.f30 [1,1]) e (kont Pg R Try.f30) = (orpimentref35_New_j1 R (e 0) (e 1) (e 2) (e 3)) := (den_join Pg R 0 (cd Try.f30 [1,1]) (cd Try.f30 [1,1,1]) e (kont Pg R Try.f30) (fun e => orpimentref35_New_j2 R (e 0) (e 1) (e 2) (e 3)) _ (by kernel_rfl) (fun e => orpimentref35_New_j2_ok R e) (by kernel_rfl))
def orpimentref35_New_j7 (R : ER) (x0 x1 x2 x3 : Value) : WP :=
  pv (bin .lss x0 (.int .i64 1)) fun v16 =>
  gd v16 false (pv (some x0)) fun v17 =>
  gd v16 false (pv (bin .gtr v17 (.int .i64 8))) fun v18 =>
  pv (pickO v16 (.bool true) v18) fun v19 =>
  gd v19 false (pv (some x1)) fun v20 =>
  gd v19 false (pv (bin .lss v20 (.int .i64 32))) fun v21 =>
  pv (pickO v19 (.bool true) v21) fun v22 =>
  gd v22 false (pv (some x1)) fun v23 =>
  gd v22 false (pv (bin .gtr v23 (.int .i64 4096))) fun v24 =>
  pv (pickO v22 (.bool true) v24) fun v25 =>
  gd v25 false (pv (some x3)) fun v26 =>
  gd v25 false (pv (bin .lss v26 (.int .i64 1))) fun v27 =>
  pv (pickO v25 (.bool true) v27) fun v28 =>
  gd v28 false (pv (some x3)) fun v29 =>
  gd v28 false (pv (bin .gtr v29 (.int .i64 1099511627776))) fun v30 =>
  pv (pickO v28 (.bool true) v30) fun v31 =>
  cnd v31 (
   R (.returned (.tuple ⟨[(.pointer none), (.int .i64 34)]⟩))) (
   orpimentref35_New_j1 R x0 x1 x2 x3)
theorem orpimentref35_New_j7_ok (R : ER) (e : Env) : den Pg R (cd Try.f30 [1,0]) e (setN (kont Pg R Try.f30) (fun e => orpimentref35_New_j1 R (e 0) (e 1) (e 2) (e 3))) = (orpimentref35_New_j7 R (e 0) (e 1) (e 2) (e 3)) := (by kernel_rfl)
def orpimentref35_New (R : ER) (x0 x1 x2 x3 : Value) : WP :=
  orpimentref35_New_j7 R x0 x1 x2 x3
theorem orpimentref35_New_den (R : ER) (x0 x1 x2 x3 : Value) : den Pg R (cd Try.f30 []) (argsEnv [x0, x1, x2, x3]) (kont Pg R Try.f30) = orpimentref35_New R x0 x1 x2 x3 :=
  have h : ∀ e, den Pg R (cd Try.f30 []) e (kont Pg R Try.f30) = orpimentref35_New R (e 0) (e 1) (e 2) (e 3) := fun e => (den_join Pg R 1 (cd Try.f30 []) (cd Try.f30 [1,1]) e (kont Pg R Try.f30) (fun e => orpimentref35_New_j1 R (e 0) (e 1) (e 2) (e 3)) _ (by kernel_rfl) (fun e => orpimentref35_New_j1_ok R e) (den_join Pg R 0 (pre 1 (cd Try.f30 [])) (cd Try.f30 [1,0]) e (setN (kont Pg R Try.f30) (fun e => orpimentref35_New_j1 R (e 0) (e 1) (e 2) (e 3))) (fun e => orpimentref35_New_j7 R (e 0) (e 1) (e 2) (e 3)) _ (by kernel_rfl) (fun e => orpimentref35_New_j7_ok R e) (by kernel_rfl)))
  h _
theorem orpimentref35_New_calls {R : ER} {x0 x1 x2 x3 : Value} {w : World} (h : orpimentref35_New R x0 x1 x2 x3 w) : Calls Pg 30 ⟨[x0, x1, x2, x3]⟩ w R :=
  calls_of_den Try.func30 (by kernel_rfl) (by kernel_rfl) (orpimentref35_New_den R x0 x1 x2 x3) h
/-! ### 31: orpimentlaw35_do -/
def orpimentlaw35_do (R : ER) (x0 x1 x2 : Value) : WP :=
  bx 65 x2 fun v1 =>
  pv (faO 0 v1) fun v2 =>
  ld1 v2 fun v3 =>
  pv (bin .eql v3 (.int .i64 0)) fun v4 =>
  cnd v4 (
   drewV (
   pv (faO 1 v1) fun v5 =>
   ld1 v5 fun v6 =>
   pv (faO 2 v1) fun v7 =>
   ld1 v7 fun v8 =>
   mem fun w10 => cal Pg noR 24 ⟨[x0, v6, v8]⟩ fun v9 =>
   pv (faO 1 v1) fun v11 =>
   ld1S [w10] v11 fun v12 =>
   pv (faO 2 v1) fun v13 =>
   ld1S [w10] v13 fun v14 =>
   mem fun w16 => cal Pg noR 49 ⟨[x1, v12, v14]⟩ fun v15 =>
   pv (bin .eql v9 v15) fun v17 =>
   R (.returned v17))) (
   pv (bin .eql v3 (.int .i64 1)) fun v18 =>
   cnd v18 (
    drewV (
    pv (faO 3 v1) fun v19 =>
    ld1 v19 fun v20 =>
    mem fun w22 => cal Pg noR 26 ⟨[v20]⟩ fun v21 =>
    pv (faO 4 v1) fun v23 =>
    ld1S [w22] v23 fun v24 =>
    mem fun w26 => cal Pg noR 12 ⟨[x0, v21, v24]⟩ fun v25 =>
    pv (extO 0 v25) fun v27 =>
    pv (extO 1 v25) fun v28 =>
    pv (faO 3 v1) fun v29 =>
    ld1 v29 fun v30 =>
    pv (faO 4 v1) fun v31 =>
    ld1 v31 fun v32 =>
    cal Pg R 50 ⟨[x1, v30, v32]⟩ fun v33 =>
    pv (extO 0 v33) fun v34 =>
    pv (extO 1 v33) fun v35 =>
    pv (bin .eql v27 v34) fun v36 =>
    gd v36 true (pv (some v28)) fun v37 =>
    gd v36 true (pv (some v35)) fun v38 =>
    gd v36 true (pv (bin .eql v37 v38)) fun v39 =>
    pv (pickO v36 v39 (.bool false)) fun v40 =>
    R (.returned v40))) (
    pv (bin .eql v3 (.int .i64 2)) fun v41 =>
    cnd v41 (
     drewV (
     pv (faO 1 v1) fun v42 =>
     ld1 v42 fun v43 =>
     pv (faO 3 v1) fun v44 =>
     ld1 v44 fun v45 =>
     mem fun w47 => cal Pg noR 26 ⟨[v45]⟩ fun v46 =>
     rd1 v42 v43 <|
     pv (faO 4 v1) fun v48 =>
     ld1S [w47] v48 fun v49 =>
     mem fun w51 => cal Pg noR 23 ⟨[x0, v43, v46, v49]⟩ fun v50 =>
     pv (extO 0 v50) fun v52 =>
     pv (extO 1 v50) fun v53 =>
     pv (faO 1 v1) fun v54 =>
     ld1 v54 fun v55 =>
     pv (faO 3 v1) fun v56 =>
     ld1 v56 fun v57 =>
     pv (faO 4 v1) fun v58 =>
     ld1 v58 fun v59 =>
     cal Pg R 51 ⟨[x1, v55, v57, v59]⟩ fun v60 =>
     pv (extO 0 v60) fun v61 =>
     pv (extO 1 v60) fun v62 =>
     pv (bin .eql v53 v62) fun v63 =>
     gd v63 true (pv (some v52)) fun v64 =>
     gd v63 true (pv (some v61)) fun v65 =>
     gd v63 true (cal Pg R 52 ⟨[v64, v65, (.func (.func 53) ⟨[]⟩ ⟨[]⟩)]⟩) fun v66 =>
     pv (pickO v63 v66 (.bool false)) fun v67 =>
     R (.returned v67))) (
     pv (bin .eql v3 (.int .i64 3)) fun v68 =>
     cnd v68 (
      pv (faO 4 v1) fun v69 =>
      ld1 v69 fun v70 =>
      cal Pg R 14 ⟨[x0, v70]⟩ fun v71 =>
      pv (extO 0 v71) fun v72 =>
      pv (extO 1 v71) fun v73 =>
      pv (faO 4 v1) fun v74 =>
      ld1 v74 fun v75 =>
      cal Pg R 54 ⟨[x1, v75]⟩ fun v76 =>
      pv (extO 0 v76) fun v77 =>
      pv (extO 1 v76) fun v78 =>
      pv (bin .eql v73 v78) fun v79 =>
      gd v79 true (pv (some v72)) fun v80 =>
      gd v79 true (pv (some v77)) fun v81 =>
      gd v79 true (cal Pg R 55 ⟨[v80, v81]⟩) fun v82 =>
      pv (pickO v79 v82 (.bool false)) fun v83 =>
      R (.returned v83)) (
      R (.returned (.bool true))))))
theorem orpimentlaw35_do_den (R : ER) (x0 x1 x2 : Value) : den Pg R (cd Try.f31 []) (argsEnv [x0, x1, x2]) (kont Pg R Try.f31) = orpimentlaw35_do R x0 x1 x2 :=
  have h : ∀ e, den Pg R (cd Try.f31 []) e (kont Pg R Try.f31) = orpimentlaw35_do R (e 0) (e 1) (e 2) := fun e => (by kernel_rfl)
  h _
theorem orpimentlaw35_do_calls {R : ER} {x0 x1 x2 : Value} {w : World} (h : orpimentlaw35_do R x0 x1 x2 w) : Calls Pg 31 ⟨[x0, x1, x2]⟩ w R :=
  calls_of_den Try.func31 (by kernel_rfl) (by kernel_rfl) (orpimentlaw35_do_den R x0 x1 x2) h
/-! ### 32: orpimentlaw35_seen -/
def orpimentlaw35_seen (R : ER) (x0 x1 : Value) : WP :=
  cal Pg R 13 ⟨[x0]⟩ fun v1 =>
  pv (extO 0 v1) fun v2 =>
  pv (extO 1 v1) fun v3 =>
  cal Pg R 56 ⟨[x1]⟩ fun v4 =>
  pv (extO 0 v4) fun v5 =>
  pv (extO 1 v4) fun v6 =>
  pv (bin .eql v2 v5) fun v7 =>
  gd v7 true (pv (some v3)) fun v8 =>
  gd v7 true (pv (some v6)) fun v9 =>
  gd v7 true (pv (binB .eql v8 v9)) fun v10 =>
  pv (pickO v7 v10 (.bool false)) fun v11 =>
  gd v11 true (pv (some x0)) fun v12 =>
  gd v11 true (cal Pg R 25 ⟨[v12]⟩) fun v13 =>
  gd v11 true (pv (some x1)) fun v14 =>
  gd v11 true (cal Pg R 57 ⟨[v14]⟩) fun v15 =>
  gd v11 true (pv (bin .eql v13 v15)) fun v16 =>
  pv (pickO v11 v16 (.bool false)) fun v17 =>
  gd v17 true (pv (some x0)) fun v18 =>
  gd v17 true (cal Pg R 15 ⟨[v18]⟩) fun v19 =>
  gd v17 true (pv (some x1)) fun v20 =>
  gd v17 true (cal Pg R 58 ⟨[v20]⟩) fun v21 =>
  gd v17 true (pv (binB .eql v19 v21)) fun v22 =>
  pv (pickO v17 v22 (.bool false)) fun v23 =>
  R (.returned v23)
theorem orpimentlaw35_seen_den (R : ER) (x0 x1 : Value) : den Pg R (cd Try.f32 []) (argsEnv [x0, x1]) (kont Pg R Try.f32) = orpimentlaw35_seen R x0 x1 :=
  have h : ∀ e, den Pg R (cd Try.f32 []) e (kont Pg R Try.f32) = orpimentlaw35_seen R (e 0) (e 1) := fun e => by kernel_rfl
  h _
theorem orpimentlaw35_seen_calls {R : ER} {x0 x1 : Value} {w : World} (h : orpimentlaw35_seen R x0 x1 w) : Calls Pg 32 ⟨[x0, x1]⟩ w R :=
  calls_of_den Try.func32 (by kernel_rfl) (by kernel_rfl) (orpimentlaw35_seen_den R x0 x1) h
/-! ### 33: orpimentlaw35_talk_step -/
def orpimentlaw35_talk_step_j2 (R : ER) (x0 : Value) : WP :=
  drewV (
  pv (nilO x0) fun v1 =>
  pv (faO 0 v1) fun v2 =>
  pv (ixA 2 1 v2 (.int .i64 0)) fun v3 =>
  ld1 v3 fun v4 =>
  pv (nilO x0) fun v5 =>
  pv (faO 2 v5) fun v6 =>
  pv (ixA 2 1 v6 (.int .i64 0)) fun v7 =>
  ld1 v7 fun v8 =>
  mem fun w10 => cal Pg noR 32 ⟨[v4, v8]⟩ fun v9 =>
  gd v9 true (pv (some x0)) fun v11 =>
  gd v9 true (pv (nilO v11)) fun v12 =>
  gd v9 true (pv (faO 0 v12)) fun v13 =>
  gd v9 true (pv (ixA 2 1 v13 (.int .i64 1))) fun v14 =>
  gd v9 true (ld1 v14) fun v15 =>
  gd v9 true (pv (some x0)) fun v16 =>
  gd v9 true (pv (nilO v16)) fun v17 =>
  gd v9 true (pv (faO 2 v17)) fun v18 =>
  gd v9 true (pv (ixA 2 1 v18 (.int .i64 1))) fun v19 =>
  gd v9 true (ld1 v19) fun v20 =>
  mem fun w22 => gd v9 true (cal Pg noR 32 ⟨[v15, v20]⟩) fun v21 =>
  pv (pickO v9 v21 (.bool false)) fun v23 =>
  R (.returned v23))
theorem orpimentlaw35_talk_step_j2_ok (R : ER) (e : Env) : den Pg R (cd Try.f33 [1,1,1,1,1,1,1]) e (kont Pg R Try.f33) = (orpimentlaw35_talk_step_j2 R (e 0)) := by kernel_rfl
def orpimentlaw35_talk_step_j6 (R : ER) (x0 x6 x8 : Value) : WP :=
  drewV (
  pv (nilO x0) fun v24 =>
  pv (faO 2 v24) fun v25 =>
  pv (ixA 2 1 v25 x6) fun v26 =>
  ld1 v26 fun v27 =>
  pv (nilO x0) fun v28 =>
  pv (faO 5 v28) fun v29 =>
  ld1 v29 fun v30 =>
  mem fun w32 => cal Pg noR 50 ⟨[v27, x8, v30]⟩ fun v31 =>
  orpimentlaw35_talk_step_j2 R x0)
theorem orpimentlaw35_talk_step_j6_ok (R : ER) (e : Env) : den Pg R (cd Try.f33 [1,1,1,1,1,1,0,0,1,0,1,1]) e (inB 0 (setN (kont Pg R Try.f33) (fun e => orpimentlaw35_talk_step_j2 R (e 0)))) = (orpimentlaw35_talk_step_j6 R (e 0) (e 6) (e 8)) := by kernel_rfl
def orpimentlaw35_talk_step_j9 (R : ER) (x0 x6 x8 : Value) : WP :=
  drewV (
  pv (nilO x0) fun v33 =>
  pv (faO 6 v33) fun v34 =>
  pv (ixA 2 1 v34 x6) fun v35 =>
  ld1 v35 fun v36 =>
  mem fun w38 => valV Pg noR (Instr.buildSlice 36 1 ⟨[(0, x8)]⟩) fun v37 =>
  rd1 v35 v36 <|
  mem fun w40 => blt Pg noR .append ⟨[36,36]⟩ 36 ⟨[false, false]⟩ ⟨[v36, v37]⟩ fun v39 =>
  pv (nilO x0) fun v41 =>
  pv (faO 6 v41) fun v42 =>
  pv (ixA 2 1 v42 x6) fun v43 =>
  mem fun w45 => st1 v43 v39 fun v44 =>
  orpimentlaw35_talk_step_j6 R x0 x6 x8)
theorem orpimentlaw35_talk_step_j9_ok (R : ER) (e : Env) : den Pg R (cd Try.f33 [1,1,1,1,1,1,0,0,1,0,1,0,1,1,0]) e (setN (inB 0 (setN (kont Pg R Try.f33) (fun e => orpimentlaw35_talk_step_j2 R (e 0)))) (fun e => orpimentlaw35_talk_step_j6 R (e 0) (e 6) (e 8))) = (orpimentlaw35_talk_step_j9 R (e 0) (e 6) (e 8)) := by kernel_rfl
def orpimentlaw35_talk_step_j8 (R : ER) (x0 x6 x8 x82 : Value) : WP :=
  cnd x82 (orpimentlaw35_talk_step_j9 R x0 x6 x8) (orpimentlaw35_talk_step_j6 R x0 x6 x8)
theorem orpimentlaw35_talk_step_j8_ok (R : ER) (e : Env) : den Pg R (cd Try.f33 [1,1,1,1,1,1,0,0,1,0,1,0,1,1]) e (setN (inB 0 (setN (kont Pg R Try.f33) (fun e => orpimentlaw35_talk_step_j2 R (e 0)))) (fun e => orpimentlaw35_talk_step_j6 R (e 0) (e 6) (e 8))) = (orpimentlaw35_talk_step_j8 R (e 0) (e 6) (e 8) (e 82)) := (den_if Pg R (cd Try.f33 [1,1,1,1,1,1,0,0,1,0,1,0,1,1]) (cd Try.f33 [1,1,1,1,1,1,0,0,1,0,1,0,1,1,0]) (cd Try.f33 [1,1,1,1,1,1,0,0,1,0,1,0,1,1,1]) e (setN (inB 0 (setN (kont Pg R Try.f33) (fun e => orpimentlaw35_talk_step_j2 R (e 0)))) (fun e => orpimentlaw35_talk_step_j6 R (e 0) (e 6) (e 8))) (orpimentlaw35_talk_step_j9 R (e 0) (e 6) (e 8)) _ _ (by kernel_rfl) (orpimentlaw35_talk_step_j9_ok R e) rfl (by kernel_rfl))
def orpimentlaw35_talk_step_j7 (R : ER) (x0 x6 x8 : Value) : WP :=
  drewV (
  pv (nilO x0) fun v46 =>
  pv (faO 0 v46) fun v47 =>
  pv (ixA 2 1 v47 x6) fun v48 =>
  ld1 v48 fun v49 =>
  mem fun w51 => cal Pg noR 26 ⟨[x8]⟩ fun v50 =>
  rd1 v48 v49 <|
  pv (nilO x0) fun v52 =>
  pv (faO 5 v52) fun v53 =>
  ld1S [w51] v53 fun v54 =>
  mem fun w56 => cal Pg noR 12 ⟨[v49, v50, v54]⟩ fun v55 =>
  pv (extO 0 v55) fun v57 =>
  pv (extO 1 v55) fun v58 =>
  pv (bin .eql v58 (.int .i64 0)) fun v59 =>
  orpimentlaw35_talk_step_j8 R x0 x6 x8 v59)
theorem orpimentlaw35_talk_step_j7_ok (R : ER) (e : Env) : den Pg R (cd Try.f33 [1,1,1,1,1,1,0,0,1,0,1,0]) e (setN (inB 0 (setN (kont Pg R Try.f33) (fun e => orpimentlaw35_talk_step_j2 R (e 0)))) (fun e => orpimentlaw35_talk_step_j6 R (e 0) (e 6) (e 8))) = (orpimentlaw35_talk_step_j7 R (e 0) (e 6) (e 8)) := (den_join Pg R 1 (cd Try.f33 [1,1,1,1,1,1,0,0,1,0,1,0]) (cd Try.f33 [1,1,1,1,1,1,0,0,1,0,1,0,1,1]) e (setN (inB 0 (setN (kont Pg R Try.f33) (fun e => orpimentlaw35_talk_step_j2 R (e 0)))) (fun e => orpimentlaw35_talk_step_j6 R (e 0) (e 6) (e 8))) (fun e => orpimentlaw35_talk_step_j8 R (e 0) (e 6) (e 8) (e 82)) _ (by kernel_rfl) (fun e => orpimentlaw35_talk_step_j8_ok R e) (by kernel_rfl))
def orpimentlaw35_talk_step_j5 (R : ER) (x0 x3 x6 : Value) : WP :=
  pv (faO 3 x3) fun v60 =>
  ld1 v60 fun v61 =>
  pv (faO 3 x3) fun v62 =>
  ld1 v62 fun v63 =>
  pv (lenS v63) fun v64 =>
  pv (min2I v64 (.int .i64 200)) fun v65 =>
  pv (slS 1 v61 none (some v65)) fun v66 =>
  orpimentlaw35_talk_step_j7 R x0 x6 v66
theorem orpimentlaw35_talk_step_j5_ok (R : ER) (e : Env) : den Pg R (cd Try.f33 [1,1,1,1,1,1,0,0,1,0]) e (inB 0 (setN (kont Pg R Try.f33) (fun e => orpimentlaw35_talk_step_j2 R (e 0)))) = (orpimentlaw35_talk_step_j5 R (e 0) (e 3) (e 6)) := (den_join Pg R 1 (cd Try.f33 [1,1,1,1,1,1,0,0,1,0]) (cd Try.f33 [1,1,1,1,1,1,0,0,1,0,1,1]) e (inB 0 (setN (kont Pg R Try.f33) (fun e => orpimentlaw35_talk_step_j2 R (e 0)))) (fun e => orpimentlaw35_talk_step_j6 R (e 0) (e 6) (e 8)) _ (by kernel_rfl) (fun e => orpimentlaw35_talk_step_j6_ok R e) (den_join Pg R 0 (pre 1 (cd Try.f33 [1,1,1,1,1,1,0,0,1,0])) (cd Try.f33 [1,1,1,1,1,1,0,0,1,0,1,0]) e (setN (inB 0 (setN (kont Pg R Try.f33) (fun e => orpimentlaw35_talk_step_j2 R (e 0)))) (fun e => orpimentlaw35_talk_step_j6 R (e 0) (e 6) (e 8))) (fun e => orpimentlaw35_talk_step_j7 R (e 0) (e 6) (e 8)) _ (by kernel_rfl) (fun e => orpimentlaw35_talk_step_j7_ok R e) (by kernel_rfl)))
def orpimentlaw35_talk_step_j15 (R : ER) (k1 : Value → Value → Value → Value → Value → WP) (x0 x6 x149 x150 x151 : Value) : WP :=
  pv (ixS 2 x149 x151) fun v67 =>
  ldN 2 v67 fun v68 =>
  al Pg 90 fun v69 =>
  stN 2 v69 v68 fun _ =>
  drewV (
  pv (nilO x0) fun v70 =>
  pv (faO 4 v70) fun v71 =>
  ld1 v71 fun v72 =>
  pv (bin .sub (.int .i64 1) x6) fun v73 =>
  pv (faO 0 v69) fun v74 =>
  ld1 v74 fun v75 =>
  pv (faO 1 v69) fun v76 =>
  ld1 v76 fun v77 =>
  pv (bldO [.int .i64 0, .int .i64 0, .slice none 0 0, .bool false] [(0,1, v73), (1,1, v75), (2,1, v77)]) fun v78 =>
  mem fun w80 => valV Pg noR (Instr.buildSlice 35 1 ⟨[(0, v78)]⟩) fun v79 =>
  rd1 v71 v72 <|
  mem fun w82 => blt Pg noR .append ⟨[35,35]⟩ 35 ⟨[false, false]⟩ ⟨[v72, v79]⟩ fun v81 =>
  pv (nilO x0) fun v83 =>
  pv (faO 4 v83) fun v84 =>
  mem fun w86 => st1 v84 v81 fun v85 =>
  pv (bin .add x151 (.int .i64 1)) fun v87 =>
  k1 x0 x6 x149 x150 v87)
theorem orpimentlaw35_talk_step_j15_ok (R : ER) (k1 : Value → Value → Value → Value → Value → WP) (e : Env) : den Pg R (cd Try.f33 [1,1,1,1,1,1,0,0,1,1,1,0,1,1,1,1,0,0,1,1]) e (setN (inB 1 (inB 0 (setN (kont Pg R Try.f33) (fun e => orpimentlaw35_talk_step_j2 R (e 0))))) (fun e => k1 (e 0) (e 6) (e 149) (e 150) (e 151))) = (orpimentlaw35_talk_step_j15 R k1 (e 0) (e 6) (e 149) (e 150) (e 151)) := by kernel_rfl
def orpimentlaw35_talk_step_b1 (R : ER) (k1 : Value → Value → Value → Value → Value → WP) (x0 x6 x149 x150 x151 : Value) : WP :=
  pv (bin .lss x151 x150) fun v88 =>
  cnd v88 (
   orpimentlaw35_talk_step_j15 R k1 x0 x6 x149 x150 x151) (
   orpimentlaw35_talk_step_j2 R x0)
theorem orpimentlaw35_talk_step_b1_ok (R : ER) (k1 : Value → Value → Value → Value → Value → WP) (e : Env) : den Pg R (cd Try.f33 [1,1,1,1,1,1,0,0,1,1,1,0,1,1,1,1,0,0]) e (setN (inB 1 (inB 0 (setN (kont Pg R Try.f33) (fun e => orpimentlaw35_talk_step_j2 R (e 0))))) (fun e => k1 (e 0) (e 6) (e 149) (e 150) (e 151))) = (orpimentlaw35_talk_step_b1 R k1 (e 0) (e 6) (e 149) (e 150) (e 151)) := (den_join Pg R 1 (cd Try.f33 [1,1,1,1,1,1,0,0,1,1,1,0,1,1,1,1,0,0]) (cd Try.f33 [1,1,1,1,1,1,0,0,1,1,1,0,1,1,1,1,0,0,1,1]) e (setN (inB 1 (inB 0 (setN (kont Pg R Try.f33) (fun e => orpimentlaw35_talk_step_j2 R (e 0))))) (fun e => k1 (e 0) (e 6) (e 149) (e 150) (e 151))) (fun e => orpimentlaw35_talk_step_j15 R k1 (e 0) (e 6) (e 149) (e 150) (e 151)) _ (by kernel_rfl) (fun e => orpimentlaw35_talk_step_j15_ok R k1 e) (by kernel_rfl))
noncomputable def orpimentlaw35_talk_step_l1 (R : ER) (n : Nat) : Value → Value → Value → Value → Value → WP := Nat.rec (motive := fun _ => Value → Value → Value → Value → Value → WP) (fun _ _ _ _ _ => fun _ => False) (fun _ ih => fun x0 x6 x149 x150 x151 => orpimentlaw35_talk_step_b1 R ih x0 x6 x149 x150 x151) n
theorem orpimentlaw35_talk_step_l1_succ (R : ER) (n : Nat) (x0 x6 x149 x150 x151 : Value) : orpimentlaw35_talk_step_l1 R (n + 1) x0 x6 x149 x150 x151 = orpimentlaw35_talk_step_b1 R (orpimentlaw35_talk_step_l1 R n) x0 x6 x149 x150 x151 := rfl
theorem orpimentlaw35_talk_step_l1_ok (R : ER) : ∀ (n : Nat) (e : Env), iterL (den Pg R (cd Try.f33 [1,1,1,1,1,1,0,0,1,1,1,0,1,1,1,1,0,0])) n e (inB 1 (inB 0 (setN (kont Pg R Try.f33) (fun e => orpimentlaw35_talk_step_j2 R (e 0))))) = orpimentlaw35_talk_step_l1 R n (e 0) (e 6) (e 149) (e 150) (e 151) :=
  iterL_join (den Pg R (cd Try.f33 [1,1,1,1,1,1,0,0,1,1,1,0,1,1,1,1,0,0])) (inB 1 (inB 0 (setN (kont Pg R Try.f33) (fun e => orpimentlaw35_talk_step_j2 R (e 0))))) (fun n e => orpimentlaw35_talk_step_l1 R n (e 0) (e 6) (e 149) (e 150) (e 151)) (fun _ => rfl) (fun n e => (orpimentlaw35_talk_step_b1_ok R (orpimentlaw35_talk_step_l1 R n) e).trans (orpimentlaw35_talk_step_l1_succ R n (e 0) (e 6) (e 149) (e 150) (e 151)).symm)
def orpimentlaw35_talk_step_j14 (R : ER) (x0 x6 x149 x150 x151 : Value) : WP :=
  exN fun n => orpimentlaw35_talk_step_l1 R n x0 x6 x149 x150 x151
theorem orpimentlaw35_talk_step_j14_ok (R : ER) (e : Env) : den Pg R (cd Try.f33 [1,1,1,1,1,1,0,0,1,1,1,0,1,1,1,1]) e (inB 0 (setN (kont Pg R Try.f33) (fun e => orpimentlaw35_talk_step_j2 R (e 0)))) = (orpimentlaw35_talk_step_j14 R (e 0) (e 6) (e 149) (e 150) (e 151)) := (den_block Pg R (cd Try.f33 [1,1,1,1,1,1,0,0,1,1,1,0,1,1,1,1]) 1 (cd Try.f33 [1,1,1,1,1,1,0,0,1,1,1,0,1,1,1,1,0]) e (inB 0 (setN (kont Pg R Try.f33) (fun e => orpimentlaw35_talk_step_j2 R (e 0)))) _ (by kernel_rfl) (den_loop Pg R (cd Try.f33 [1,1,1,1,1,1,0,0,1,1,1,0,1,1,1,1,0]) (cd Try.f33 [1,1,1,1,1,1,0,0,1,1,1,0,1,1,1,1,0,0]) e (inB 1 (inB 0 (setN (kont Pg R Try.f33) (fun e => orpimentlaw35_talk_step_j2 R (e 0))))) (fun n e => orpimentlaw35_talk_step_l1 R n (e 0) (e 6) (e 149) (e 150) (e 151)) _ (by kernel_rfl) (orpimentlaw35_talk_step_l1_ok R) (by kernel_rfl)))
def orpimentlaw35_talk_step_j13 (R : ER) (x0 x6 x11 : Value) : WP :=
  pv (lenS x11) fun v89 =>
  orpimentlaw35_talk_step_j14 R x0 x6 x11 v89 (.int .i64 0)
theorem orpimentlaw35_talk_step_j13_ok (R : ER) (e : Env) : den Pg R (cd Try.f33 [1,1,1,1,1,1,0,0,1,1,1,0,1,1,1]) e (inB 0 (setN (kont Pg R Try.f33) (fun e => orpimentlaw35_talk_step_j2 R (e 0)))) = (orpimentlaw35_talk_step_j13 R (e 0) (e 6) (e 11)) := (den_join Pg R 0 (cd Try.f33 [1,1,1,1,1,1,0,0,1,1,1,0,1,1,1]) (cd Try.f33 [1,1,1,1,1,1,0,0,1,1,1,0,1,1,1,1]) e (inB 0 (setN (kont Pg R Try.f33) (fun e => orpimentlaw35_talk_step_j2 R (e 0)))) (fun e => orpimentlaw35_talk_step_j14 R (e 0) (e 6) (e 149) (e 150) (e 151)) _ (by kernel_rfl) (fun e => orpimentlaw35_talk_step_j14_ok R e) (by kernel_rfl))
def orpimentlaw35_talk_step_j12 (R : ER) (x0 x6 : Value) : WP :=
  drewV (
  pv (nilO x0) fun v90 =>
  pv (faO 0 v90) fun v91 =>
  pv (ixA 2 1 v91 x6) fun v92 =>
  ld1 v92 fun v93 =>
  pv (nilO x0) fun v94 =>
  pv (faO 5 v94) fun v95 =>
  ld1 v95 fun v96 =>
  mem fun w98 => cal Pg noR 14 ⟨[v93, v96]⟩ fun v97 =>
  pv (extO 0 v97) fun v99 =>
  pv (extO 1 v97) fun v100 =>
  drewV (
  pv (nilO x0) fun v101 =>
  pv (faO 2 v101) fun v102 =>
  pv (ixA 2 1 v102 x6) fun v103 =>
  ld1 v103 fun v104 =>
  pv (nilO x0) fun v105 =>
  pv (faO 5 v105) fun v106 =>
  ld1 v106 fun v107 =>
  mem fun w109 => cal Pg noR 54 ⟨[v104, v107]⟩ fun v108 =>
  pv (extO 0 v108) fun v110 =>
  pv (extO 1 v108) fun v111 =>
  pv (bin .neq v100 v111) fun v112 =>
  gd v112 false (pv (some v99)) fun v113 =>
  gd v112 false (pv (some v110)) fun v114 =>
  gd v112 false (cal Pg R 55 ⟨[v113, v114]⟩) fun v115 =>
  gd v112 false (pv (unO .not v115)) fun v116 =>
  pv (pickO v112 (.bool true) v116) fun v117 =>
  cnd v117 (
   R (.returned (.bool false))) (
   orpimentlaw35_talk_step_j13 R x0 x6 v99)))
theorem orpimentlaw35_talk_step_j12_ok (R : ER) (e : Env) : den Pg R (cd Try.f33 [1,1,1,1,1,1,0,0,1,1,1,0]) e (inB 0 (setN (kont Pg R Try.f33) (fun e => orpimentlaw35_talk_step_j2 R (e 0)))) = (orpimentlaw35_talk_step_j12 R (e 0) (e 6)) := (den_join Pg R 2 (cd Try.f33 [1,1,1,1,1,1,0,0,1,1,1,0]) (cd Try.f33 [1,1,1,1,1,1,0,0,1,1,1,0,1,1,1]) e (inB 0 (setN (kont Pg R Try.f33) (fun e => orpimentlaw35_talk_step_j2 R (e 0)))) (fun e => orpimentlaw35_talk_step_j13 R (e 0) (e 6) (e 11)) _ (by kernel_rfl) (fun e => orpimentlaw35_talk_step_j13_ok R e) (by kernel_rfl))
def orpimentlaw35_talk_step_j18 (R : ER) (x0 x3 x6 : Value) : WP :=
  pv (faO 1 x3) fun v118 =>
  ld1 v118 fun v119 =>
  pv (cvI .u64 v119) fun v120 =>
  pv (bin .rem v120 (.int .u64 3)) fun v121 =>
  pv (cvI .i64 v121) fun v122 =>
  drewV (
  pv (nilO x0) fun v123 =>
  pv (faO 0 v123) fun v124 =>
  pv (ixA 2 1 v124 x6) fun v125 =>
  ld1 v125 fun v126 =>
  pv (faO 2 x3) fun v127 =>
  ld1 v127 fun v128 =>
  pv (bin .rem v128 (.int .u8 2)) fun v129 =>
  pv (bin .eql v129 (.int .u8 0)) fun v130 =>
  mem fun w132 => cal Pg noR 24 ⟨[v126, v122, v130]⟩ fun v131 =>
  pv (nilO x0) fun v133 =>
  pv (faO 2 v133) fun v134 =>
  pv (ixA 2 1 v134 x6) fun v135 =>
  ld1S [w132] v135 fun v136 =>
  pv (faO 2 x3) fun v137 =>
  ld1S [w132] v137 fun v138 =>
  pv (bin .rem v138 (.int .u8 2)) fun v139 =>
  pv (bin .eql v139 (.int .u8 0)) fun v140 =>
  mem fun w142 => cal Pg noR 49 ⟨[v136, v122, v140]⟩ fun v141 =>
  pv (bin .neq v131 v141) fun v143 =>
  cnd v143 (
   R (.returned (.bool false))) (
   orpimentlaw35_talk_step_j2 R x0))
theorem orpimentlaw35_talk_step_j18_ok (R : ER) (e : Env) : den Pg R (cd Try.f33 [1,1,1,1,1,1,0,0,1,1,1,1,1,0]) e (inB 0 (setN (kont Pg R Try.f33) (fun e => orpimentlaw35_talk_step_j2 R (e 0)))) = (orpimentlaw35_talk_step_j18 R (e 0) (e 3) (e 6)) := (by kernel_rfl)
def orpimentlaw35_talk_step_j24 (R : ER) (x18 : Value) : WP :=
  R (.returned x18)
theorem orpimentlaw35_talk_step_j24_ok (R : ER) (e : Env) : den Pg R (cd Try.f33 [1,1,1,1,1,1,0,0,1,1,1,1,1,1,1,1,1,0,1,1]) e (inB 0 (setN (kont Pg R Try.f33) (fun e => orpimentlaw35_talk_step_j2 R (e 0)))) = (orpimentlaw35_talk_step_j24 R (e 18)) := by kernel_rfl
def orpimentlaw35_talk_step_j25 (R : ER) (x0 x5 x7 x18 : Value) : WP :=
  pv (bin .eql x5 (.int .i64 4)) fun v144 =>
  cnd v144 (
   pv (nilO x0) fun v145 =>
   pv (faO 4 v145) fun v146 =>
   ld1 v146 fun v147 =>
   pv (bin .add x7 (.int .i64 1)) fun v148 =>
   cal Pg R 60 ⟨[v147, x7, v148]⟩ fun v149 =>
   pv (nilO x0) fun v150 =>
   pv (faO 4 v150) fun v151 =>
   st1 v151 v149 fun _ =>
   orpimentlaw35_talk_step_j24 R x18) (
   orpimentlaw35_talk_step_j24 R x18)
theorem orpimentlaw35_talk_step_j25_ok (R : ER) (e : Env) : den Pg R (cd Try.f33 [1,1,1,1,1,1,0,0,1,1,1,1,1,1,1,1,1,0,1,0]) e (setN (inB 0 (setN (kont Pg R Try.f33) (fun e => orpimentlaw35_talk_step_j2 R (e 0)))) (fun e => orpimentlaw35_talk_step_j24 R (e 18))) = (orpimentlaw35_talk_step_j25 R (e 0) (e 5) (e 7) (e 18)) := (by kernel_rfl)
def orpimentlaw35_talk_step_j23 (R : ER) (x0 x5 x7 : Value) : WP :=
  pv (nilO x0) fun v152 =>
  pv (faO 4 v152) fun v153 =>
  ld1 v153 fun v154 =>
  pv (ixS 4 v154 x7) fun v155 =>
  ldN 4 v155 fun v156 =>
  cal Pg R 59 ⟨[x0, v156]⟩ fun v157 =>
  orpimentlaw35_talk_step_j25 R x0 x5 x7 v157
theorem orpimentlaw35_talk_step_j23_ok (R : ER) (e : Env) : den Pg R (cd Try.f33 [1,1,1,1,1,1,0,0,1,1,1,1,1,1,1,1,1,0]) e (inB 0 (setN (kont Pg R Try.f33) (fun e => orpimentlaw35_talk_step_j2 R (e 0)))) = (orpimentlaw35_talk_step_j23 R (e 0) (e 5) (e 7)) := (den_join Pg R 1 (cd Try.f33 [1,1,1,1,1,1,0,0,1,1,1,1,1,1,1,1,1,0]) (cd Try.f33 [1,1,1,1,1,1,0,0,1,1,1,1,1,1,1,1,1,0,1,1]) e (inB 0 (setN (kont Pg R Try.f33) (fun e => orpimentlaw35_talk_step_j2 R (e 0)))) (fun e => orpimentlaw35_talk_step_j24 R (e 18)) _ (by kernel_rfl) (fun e => orpimentlaw35_talk_step_j24_ok R e) (den_join Pg R 0 (pre 1 (cd Try.f33 [1,1,1,1,1,1,0,0,1,1,1,1,1,1,1,1,1,0])) (cd Try.f33 [1,1,1,1,1,1,0,0,1,1,1,1,1,1,1,1,1,0,1,0]) e (setN (inB 0 (setN (kont Pg R Try.f33) (fun e => orpimentlaw35_talk_step_j2 R (e 0)))) (fun e => orpimentlaw35_talk_step_j24 R (e 18))) (fun e => orpimentlaw35_talk_step_j25 R (e 0) (e 5) (e 7) (e 18)) _ (by kernel_rfl) (fun e => orpimentlaw35_talk_step_j25_ok R e) (by kernel_rfl)))
def orpimentlaw35_talk_step_j28 (R : ER) (x0 x7 : Value) : WP :=
  pv (nilO x0) fun v158 =>
  pv (faO 4 v158) fun v159 =>
  ld1 v159 fun v160 =>
  pv (bin .add x7 (.int .i64 1)) fun v161 =>
  cal Pg R 60 ⟨[v160, x7, v161]⟩ fun v162 =>
  pv (nilO x0) fun v163 =>
  pv (faO 4 v163) fun v164 =>
  st1 v164 v162 fun _ =>
  orpimentlaw35_talk_step_j2 R x0
theorem orpimentlaw35_talk_step_j28_ok (R : ER) (e : Env) : den Pg R (cd Try.f33 [1,1,1,1,1,1,0,0,1,1,1,1,1,1,1,1,1,1,1,0]) e (inB 0 (setN (kont Pg R Try.f33) (fun e => orpimentlaw35_talk_step_j2 R (e 0)))) = (orpimentlaw35_talk_step_j28 R (e 0) (e 7)) := by kernel_rfl
def orpimentlaw35_talk_step_j31 (R : ER) (x0 x3 x7 : Value) : WP :=
  pv (nilO x0) fun v165 =>
  pv (faO 4 v165) fun v166 =>
  ld1 v166 fun v167 =>
  pv (ixS 4 v167 x7) fun v168 =>
  ldN 4 v168 fun v169 =>
  al Pg 132 fun v170 =>
  stN 4 v170 v169 fun _ =>
  pv (faO 2 v170) fun v171 =>
  ld1 v171 fun v172 =>
  cal Pg R 26 ⟨[v172]⟩ fun v173 =>
  pv (faO 3 v170) fun v174 =>
  st1 v174 (.bool true) fun _ =>
  pv (faO 2 v170) fun v175 =>
  st1 v175 v173 fun _ =>
  drewV (
  pv (faO 2 v170) fun v176 =>
  ld1 v176 fun v177 =>
  pv (faO 2 x3) fun v178 =>
  ld1 v178 fun v179 =>
  pv (cvI .i64 v179) fun v180 =>
  pv (faO 2 v170) fun v181 =>
  ld1 v181 fun v182 =>
  pv (lenS v182) fun v183 =>
  pv (bin .rem v180 v183) fun v184 =>
  pv (ixS 1 v177 v184) fun v185 =>
  ld1 v185 fun v186 =>
  pv (faO 2 x3) fun v187 =>
  ld1 v187 fun v188 =>
  pv (bin .rem v188 (.int .u8 7)) fun v189 =>
  pv (bin .add (.int .u8 1) v189) fun v190 =>
  pv (bin .xor v186 v190) fun v191 =>
  pv (ixS 1 v177 v184) fun v192 =>
  mem fun w194 => st1 v192 v191 fun v193 =>
  drewV (
  pv (nilO x0) fun v195 =>
  pv (faO 4 v195) fun v196 =>
  ld1 v196 fun v197 =>
  ldN 4 v170 fun v198 =>
  pv (ixS 4 v197 x7) fun v199 =>
  mem fun w201 => stN 4 v199 v198 fun v200 =>
  orpimentlaw35_talk_step_j2 R x0))
theorem orpimentlaw35_talk_step_j31_ok (R : ER) (e : Env) : den Pg R (cd Try.f33 [1,1,1,1,1,1,0,0,1,1,1,1,1,1,1,1,1,1,1,1,1,0]) e (inB 0 (setN (kont Pg R Try.f33) (fun e => orpimentlaw35_talk_step_j2 R (e 0)))) = (orpimentlaw35_talk_step_j31 R (e 0) (e 3) (e 7)) := by kernel_rfl
def orpimentlaw35_talk_step_j30 (R : ER) (x0 x3 x7 x256 : Value) : WP :=
  cnd x256 (orpimentlaw35_talk_step_j31 R x0 x3 x7) (orpimentlaw35_talk_step_j2 R x0)
theorem orpimentlaw35_talk_step_j30_ok (R : ER) (e : Env) : den Pg R (cd Try.f33 [1,1,1,1,1,1,0,0,1,1,1,1,1,1,1,1,1,1,1,1,1]) e (inB 0 (setN (kont Pg R Try.f33) (fun e => orpimentlaw35_talk_step_j2 R (e 0)))) = (orpimentlaw35_talk_step_j30 R (e 0) (e 3) (e 7) (e 256)) := (den_if Pg R (cd Try.f33 [1,1,1,1,1,1,0,0,1,1,1,1,1,1,1,1,1,1,1,1,1]) (cd Try.f33 [1,1,1,1,1,1,0,0,1,1,1,1,1,1,1,1,1,1,1,1,1,0]) (cd Try.f33 [1,1,1,1,1,1,0,0,1,1,1,1,1,1,1,1,1,1,1,1,1,1]) e (inB 0 (setN (kont Pg R Try.f33) (fun e => orpimentlaw35_talk_step_j2 R (e 0)))) (orpimentlaw35_talk_step_j31 R (e 0) (e 3) (e 7)) _ _ (by kernel_rfl) (orpimentlaw35_talk_step_j31_ok R e) rfl (by kernel_rfl))
def orpimentlaw35_talk_step_j29 (R : ER) (x0 x3 x5 x7 : Value) : WP :=
  pv (bin .eql x5 (.int .i64 7)) fun v202 =>
  gd v202 true (pv (some x0)) fun v203 =>
  gd v202 true (pv (nilO v203)) fun v204 =>
  gd v202 true (pv (faO 4 v204)) fun v205 =>
  gd v202 true (ld1 v205) fun v206 =>
  gd v202 true (pv (some x7)) fun v207 =>
  gd v202 true (pv (ixS 4 v206 v207)) fun v208 =>
  gd v202 true (pv (faO 3 v208)) fun v209 =>
  gd v202 true (ld1 v209) fun v210 =>
  gd v202 true (pv (unO .not v210)) fun v211 =>
  pv (pickO v202 v211 (.bool false)) fun v212 =>
  orpimentlaw35_talk_step_j30 R x0 x3 x7 v212
theorem orpimentlaw35_talk_step_j29_ok (R : ER) (e : Env) : den Pg R (cd Try.f33 [1,1,1,1,1,1,0,0,1,1,1,1,1,1,1,1,1,1,1,1]) e (inB 0 (setN (kont Pg R Try.f33) (fun e => orpimentlaw35_talk_step_j2 R (e 0)))) = (orpimentlaw35_talk_step_j29 R (e 0) (e 3) (e 5) (e 7)) := (den_join Pg R 0 (cd Try.f33 [1,1,1,1,1,1,0,0,1,1,1,1,1,1,1,1,1,1,1,1]) (cd Try.f33 [1,1,1,1,1,1,0,0,1,1,1,1,1,1,1,1,1,1,1,1,1]) e (inB 0 (setN (kont Pg R Try.f33) (fun e => orpimentlaw35_talk_step_j2 R (e 0)))) (fun e => orpimentlaw35_talk_step_j30 R (e 0) (e 3) (e 7) (e 256)) _ (by kernel_rfl) (fun e => orpimentlaw35_talk_step_j30_ok R e) (by kernel_rfl))
def orpimentlaw35_talk_step_j27 (R : ER) (x0 x3 x5 x7 x242 : Value) : WP :=
  cnd x242 (orpimentlaw35_talk_step_j28 R x0 x7) (orpimentlaw35_talk_step_j29 R x0 x3 x5 x7)
theorem orpimentlaw35_talk_step_j27_ok (R : ER) (e : Env) : den Pg R (cd Try.f33 [1,1,1,1,1,1,0,0,1,1,1,1,1,1,1,1,1,1,1]) e (inB 0 (setN (kont Pg R Try.f33) (fun e => orpimentlaw35_talk_step_j2 R (e 0)))) = (orpimentlaw35_talk_step_j27 R (e 0) (e 3) (e 5) (e 7) (e 242)) := (den_if Pg R (cd Try.f33 [1,1,1,1,1,1,0,0,1,1,1,1,1,1,1,1,1,1,1]) (cd Try.f33 [1,1,1,1,1,1,0,0,1,1,1,1,1,1,1,1,1,1,1,0]) (cd Try.f33 [1,1,1,1,1,1,0,0,1,1,1,1,1,1,1,1,1,1,1,1]) e (inB 0 (setN (kont Pg R Try.f33) (fun e => orpimentlaw35_talk_step_j2 R (e 0)))) (orpimentlaw35_talk_step_j28 R (e 0) (e 7)) (orpimentlaw35_talk_step_j29 R (e 0) (e 3) (e 5) (e 7)) _ (by kernel_rfl) (orpimentlaw35_talk_step_j28_ok R e) (orpimentlaw35_talk_step_j29_ok R e) (by kernel_rfl))
def orpimentlaw35_talk_step_j26 (R : ER) (x0 x3 x5 x7 : Value) : WP :=
  pv (bin .eql x5 (.int .i64 5)) fun v213 =>
  orpimentlaw35_talk_step_j27 R x0 x3 x5 x7 v213
theorem orpimentlaw35_talk_step_j26_ok (R : ER) (e : Env) : den Pg R (cd Try.f33 [1,1,1,1,1,1,0,0,1,1,1,1,1,1,1,1,1,1]) e (inB 0 (setN (kont Pg R Try.f33) (fun e => orpimentlaw35_talk_step_j2 R (e 0)))) = (orpimentlaw35_talk_step_j26 R (e 0) (e 3) (e 5) (e 7)) := (den_join Pg R 0 (cd Try.f33 [1,1,1,1,1,1,0,0,1,1,1,1,1,1,1,1,1,1]) (cd Try.f33 [1,1,1,1,1,1,0,0,1,1,1,1,1,1,1,1,1,1,1]) e (inB 0 (setN (kont Pg R Try.f33) (fun e => orpimentlaw35_talk_step_j2 R (e 0)))) (fun e => orpimentlaw35_talk_step_j27 R (e 0) (e 3) (e 5) (e 7) (e 242)) _ (by kernel_rfl) (fun e => orpimentlaw35_talk_step_j27_ok R e) (by kernel_rfl))
def orpimentlaw35_talk_step_j22 (R : ER) (x0 x3 x5 x7 x212 : Value) : WP :=
  cnd x212 (orpimentlaw35_talk_step_j23 R x0 x5 x7) (orpimentlaw35_talk_step_j26 R x0 x3 x5 x7)
theorem orpimentlaw35_talk_step_j22_ok (R : ER) (e : Env) : den Pg R (cd Try.f33 [1,1,1,1,1,1,0,0,1,1,1,1,1,1,1,1,1]) e (inB 0 (setN (kont Pg R Try.f33) (fun e => orpimentlaw35_talk_step_j2 R (e 0)))) = (orpimentlaw35_talk_step_j22 R (e 0) (e 3) (e 5) (e 7) (e 212)) := (den_if Pg R (cd Try.f33 [1,1,1,1,1,1,0,0,1,1,1,1,1,1,1,1,1]) (cd Try.f33 [1,1,1,1,1,1,0,0,1,1,1,1,1,1,1,1,1,0]) (cd Try.f33 [1,1,1,1,1,1,0,0,1,1,1,1,1,1,1,1,1,1]) e (inB 0 (setN (kont Pg R Try.f33) (fun e => orpimentlaw35_talk_step_j2 R (e 0)))) (orpimentlaw35_talk_step_j23 R (e 0) (e 5) (e 7)) (orpimentlaw35_talk_step_j26 R (e 0) (e 3) (e 5) (e 7)) _ (by kernel_rfl) (orpimentlaw35_talk_step_j23_ok R e) (orpimentlaw35_talk_step_j26_ok R e) (by kernel_rfl))
def orpimentlaw35_talk_step_j21 (R : ER) (x0 x3 x5 x7 : Value) : WP :=
  pv (bin .eql x5 (.int .i64 4)) fun v214 =>
  gd v214 false (pv (some x5)) fun v215 =>
  gd v214 false (pv (bin .eql v215 (.int .i64 6))) fun v216 =>
  pv (pickO v214 (.bool true) v216) fun v217 =>
  orpimentlaw35_talk_step_j22 R x0 x3 x5 x7 v217
theorem orpimentlaw35_talk_step_j21_ok (R : ER) (e : Env) : den Pg R (cd Try.f33 [1,1,1,1,1,1,0,0,1,1,1,1,1,1,1,1]) e (inB 0 (setN (kont Pg R Try.f33) (fun e => orpimentlaw35_talk_step_j2 R (e 0)))) = (orpimentlaw35_talk_step_j21 R (e 0) (e 3) (e 5) (e 7)) := (den_join Pg R 0 (cd Try.f33 [1,1,1,1,1,1,0,0,1,1,1,1,1,1,1,1]) (cd Try.f33 [1,1,1,1,1,1,0,0,1,1,1,1,1,1,1,1,1]) e (inB 0 (setN (kont Pg R Try.f33) (fun e => orpimentlaw35_talk_step_j2 R (e 0)))) (fun e => orpimentlaw35_talk_step_j22 R (e 0) (e 3) (e 5) (e 7) (e 212)) _ (by kernel_rfl) (fun e => orpimentlaw35_talk_step_j22_ok R e) (by kernel_rfl))
def orpimentlaw35_talk_step_j20 (R : ER) (x0 x3 x5 x7 x205 : Value) : WP :=
  cnd x205 (orpimentlaw35_talk_step_j2 R x0) (orpimentlaw35_talk_step_j21 R x0 x3 x5 x7)
theorem orpimentlaw35_talk_step_j20_ok (R : ER) (e : Env) : den Pg R (cd Try.f33 [1,1,1,1,1,1,0,0,1,1,1,1,1,1,1]) e (inB 0 (setN (kont Pg R Try.f33) (fun e => orpimentlaw35_talk_step_j2 R (e 0)))) = (orpimentlaw35_talk_step_j20 R (e 0) (e 3) (e 5) (e 7) (e 205)) := (den_if Pg R (cd Try.f33 [1,1,1,1,1,1,0,0,1,1,1,1,1,1,1]) (cd Try.f33 [1,1,1,1,1,1,0,0,1,1,1,1,1,1,1,0]) (cd Try.f33 [1,1,1,1,1,1,0,0,1,1,1,1,1,1,1,1]) e (inB 0 (setN (kont Pg R Try.f33) (fun e => orpimentlaw35_talk_step_j2 R (e 0)))) _ (orpimentlaw35_talk_step_j21 R (e 0) (e 3) (e 5) (e 7)) _ (by kernel_rfl) rfl (orpimentlaw35_talk_step_j21_ok R e) (by kernel_rfl))
def orpimentlaw35_talk_step_j19 (R : ER) (x0 x3 x5 x7 : Value) : WP :=
  pv (nilO x0) fun v218 =>
  pv (faO 4 v218) fun v219 =>
  ld1 v219 fun v220 =>
  pv (lenS v220) fun v221 =>
  pv (bin .eql v221 (.int .i64 0)) fun v222 =>
  orpimentlaw35_talk_step_j20 R x0 x3 x5 x7 v222
theorem orpimentlaw35_talk_step_j19_ok (R : ER) (e : Env) : den Pg R (cd Try.f33 [1,1,1,1,1,1,0,0,1,1,1,1,1,1]) e (inB 0 (setN (kont Pg R Try.f33) (fun e => orpimentlaw35_talk_step_j2 R (e 0)))) = (orpimentlaw35_talk_step_j19 R (e 0) (e 3) (e 5) (e 7)) := (den_join Pg R 0 (cd Try.f33 [1,1,1,1,1,1,0,0,1,1,1,1,1,1]) (cd Try.f33 [1,1,1,1,1,1,0,0,1,1,1,1,1,1,1]) e (inB 0 (setN (kont Pg R Try.f33) (fun e => orpimentlaw35_talk_step_j2 R (e 0)))) (fun e => orpimentlaw35_talk_step_j20 R (e 0) (e 3) (e 5) (e 7) (e 205)) _ (by kernel_rfl) (fun e => orpimentlaw35_talk_step_j20_ok R e) (by kernel_rfl))
def orpimentlaw35_talk_step_j17 (R : ER) (x0 x3 x5 x6 x7 x172 : Value) : WP :=
  cnd x172 (orpimentlaw35_talk_step_j18 R x0 x3 x6) (orpimentlaw35_talk_step_j19 R x0 x3 x5 x7)
theorem orpimentlaw35_talk_step_j17_ok (R : ER) (e : Env) : den Pg R (cd Try.f33 [1,1,1,1,1,1,0,0,1,1,1,1,1]) e (inB 0 (setN (kont Pg R Try.f33) (fun e => orpimentlaw35_talk_step_j2 R (e 0)))) = (orpimentlaw35_talk_step_j17 R (e 0) (e 3) (e 5) (e 6) (e 7) (e 172)) := (den_if Pg R (cd Try.f33 [1,1,1,1,1,1,0,0,1,1,1,1,1]) (cd Try.f33 [1,1,1,1,1,1,0,0,1,1,1,1,1,0]) (cd Try.f33 [1,1,1,1,1,1,0,0,1,1,1,1,1,1]) e (inB 0 (setN (kont Pg R Try.f33) (fun e => orpimentlaw35_talk_step_j2 R (e 0)))) (orpimentlaw35_talk_step_j18 R (e 0) (e 3) (e 6)) (orpimentlaw35_talk_step_j19 R (e 0) (e 3) (e 5) (e 7)) _ (by kernel_rfl) (orpimentlaw35_talk_step_j18_ok R e) (orpimentlaw35_talk_step_j19_ok R e) (by kernel_rfl))
def orpimentlaw35_talk_step_j16 (R : ER) (x0 x3 x5 x6 x7 : Value) : WP :=
  pv (bin .geq x5 (.int .i64 8)) fun v223 =>
  orpimentlaw35_talk_step_j17 R x0 x3 x5 x6 x7 v223
theorem orpimentlaw35_talk_step_j16_ok (R : ER) (e : Env) : den Pg R (cd Try.f33 [1,1,1,1,1,1,0,0,1,1,1,1]) e (inB 0 (setN (kont Pg R Try.f33) (fun e => orpimentlaw35_talk_step_j2 R (e 0)))) = (orpimentlaw35_talk_step_j16 R (e 0) (e 3) (e 5) (e 6) (e 7)) := (den_join Pg R 0 (cd Try.f33 [1,1,1,1,1,1,0,0,1,1,1,1]) (cd Try.f33 [1,1,1,1,1,1,0,0,1,1,1,1,1]) e (inB 0 (setN (kont Pg R Try.f33) (fun e => orpimentlaw35_talk_step_j2 R (e 0)))) (fun e => orpimentlaw35_talk_step_j17 R (e 0) (e 3) (e 5) (e 6) (e 7) (e 172)) _ (by kernel_rfl) (fun e => orpimentlaw35_talk_step_j17_ok R e) (by kernel_rfl))
def orpimentlaw35_talk_step_j11 (R : ER) (x0 x3 x5 x6 x7 x109 : Value) : WP :=
  cnd x109 (orpimentlaw35_talk_step_j12 R x0 x6) (orpimentlaw35_talk_step_j16 R x0 x3 x5 x6 x7)
theorem orpimentlaw35_talk_step_j11_ok (R : ER) (e : Env) : den Pg R (cd Try.f33 [1,1,1,1,1,1,0,0,1,1,1]) e (inB 0 (setN (kont Pg R Try.f33) (fun e => orpimentlaw35_talk_step_j2 R (e 0)))) = (orpimentlaw35_talk_step_j11 R (e 0) (e 3) (e 5) (e 6) (e 7) (e 109)) := (den_if Pg R (cd Try.f33 [1,1,1,1,1,1,0,0,1,1,1]) (cd Try.f33 [1,1,1,1,1,1,0,0,1,1,1,0]) (cd Try.f33 [1,1,1,1,1,1,0,0,1,1,1,1]) e (inB 0 (setN (kont Pg R Try.f33) (fun e => orpimentlaw35_talk_step_j2 R (e 0)))) (orpimentlaw35_talk_step_j12 R (e 0) (e 6)) (orpimentlaw35_talk_step_j16 R (e 0) (e 3) (e 5) (e 6) (e 7)) _ (by kernel_rfl) (orpimentlaw35_talk_step_j12_ok R e) (orpimentlaw35_talk_step_j16_ok R e) (by kernel_rfl))
def orpimentlaw35_talk_step_j10 (R : ER) (x0 x3 x5 x6 x7 : Value) : WP :=
  pv (bin .lss x5 (.int .i64 4)) fun v224 =>
  orpimentlaw35_talk_step_j11 R x0 x3 x5 x6 x7 v224
theorem orpimentlaw35_talk_step_j10_ok (R : ER) (e : Env) : den Pg R (cd Try.f33 [1,1,1,1,1,1,0,0,1,1]) e (inB 0 (setN (kont Pg R Try.f33) (fun e => orpimentlaw35_talk_step_j2 R (e 0)))) = (orpimentlaw35_talk_step_j10 R (e 0) (e 3) (e 5) (e 6) (e 7)) := (den_join Pg R 0 (cd Try.f33 [1,1,1,1,1,1,0,0,1,1]) (cd Try.f33 [1,1,1,1,1,1,0,0,1,1,1]) e (inB 0 (setN (kont Pg R Try.f33) (fun e => orpimentlaw35_talk_step_j2 R (e 0)))) (fun e => orpimentlaw35_talk_step_j11 R (e 0) (e 3) (e 5) (e 6) (e 7) (e 109)) _ (by kernel_rfl) (fun e => orpimentlaw35_talk_step_j11_ok R e) (by kernel_rfl))
def orpimentlaw35_talk_step_j4 (R : ER) (x0 x3 x5 x6 x7 x55 : Value) : WP :=
  cnd x55 (orpimentlaw35_talk_step_j5 R x0 x3 x6) (orpimentlaw35_talk_step_j10 R x0 x3 x5 x6 x7)
theorem orpimentlaw35_talk_step_j4_ok (R : ER) (e : Env) : den Pg R (cd Try.f33 [1,1,1,1,1,1,0,0,1]) e (inB 0 (setN (kont Pg R Try.f33) (fun e => orpimentlaw35_talk_step_j2 R (e 0)))) = (orpimentlaw35_talk_step_j4 R (e 0) (e 3) (e 5) (e 6) (e 7) (e 55)) := (den_if Pg R (cd Try.f33 [1,1,1,1,1,1,0,0,1]) (cd Try.f33 [1,1,1,1,1,1,0,0,1,0]) (cd Try.f33 [1,1,1,1,1,1,0,0,1,1]) e (inB 0 (setN (kont Pg R Try.f33) (fun e => orpimentlaw35_talk_step_j2 R (e 0)))) (orpimentlaw35_talk_step_j5 R (e 0) (e 3) (e 6)) (orpimentlaw35_talk_step_j10 R (e 0) (e 3) (e 5) (e 6) (e 7)) _ (by kernel_rfl) (orpimentlaw35_talk_step_j5_ok R e) (orpimentlaw35_talk_step_j10_ok R e) (by kernel_rfl))
def orpimentlaw35_talk_step_j3 (R : ER) (x0 x3 x5 x6 x7 : Value) : WP :=
  pv (bin .lss x5 (.int .i64 2)) fun v225 =>
  orpimentlaw35_talk_step_j4 R x0 x3 x5 x6 x7 v225
theorem orpimentlaw35_talk_step_j3_ok (R : ER) (e : Env) : den Pg R (cd Try.f33 [1,1,1,1,1,1,0]) e (setN (kont Pg R Try.f33) (fun e => orpimentlaw35_talk_step_j2 R (e 0))) = (orpimentlaw35_talk_step_j3 R (e 0) (e 3) (e 5) (e 6) (e 7)) := (den_block Pg R (cd Try.f33 [1,1,1,1,1,1,0]) 0 (cd Try.f33 [1,1,1,1,1,1,0,0]) e (setN (kont Pg R Try.f33) (fun e => orpimentlaw35_talk_step_j2 R (e 0))) _ (by kernel_rfl) (den_join Pg R 0 (cd Try.f33 [1,1,1,1,1,1,0,0]) (cd Try.f33 [1,1,1,1,1,1,0,0,1]) e (inB 0 (setN (kont Pg R Try.f33) (fun e => orpimentlaw35_talk_step_j2 R (e 0)))) (fun e => orpimentlaw35_talk_step_j4 R (e 0) (e 3) (e 5) (e 6) (e 7) (e 55)) _ (by kernel_rfl) (fun e => orpimentlaw35_talk_step_j4_ok R e) (by kernel_rfl)))
def orpimentlaw35_talk_step_j1 (R : ER) (x0 x3 x5 x6 x7 : Value) : WP :=
  orpimentlaw35_talk_step_j3 R x0 x3 x5 x6 x7
theorem orpimentlaw35_talk_step_j1_ok (R : ER) (e : Env) : den Pg R (cd Try.f33 [1,1,1,1,1,1]) e (kont Pg R Try.f33) = (orpimentlaw35_talk_step_j1 R (e 0) (e 3) (e 5) (e 6) (e 7)) := (den_join Pg R 0 (cd Try.f33 [1,1,1,1,1,1]) (cd Try.f33 [1,1,1,1,1,1,1]) e (kont Pg R Try.f33) (fun e => orpimentlaw35_talk_step_j2 R (e 0)) _ (by kernel_rfl) (fun e => orpimentlaw35_talk_step_j2_ok R e) (den_conv Pg R (pre 0 (cd Try.f33 [1,1,1,1,1,1])) (cd Try.f33 [1,1,1,1,1,1,0]) e (setN (kont Pg R Try.f33) (fun e => orpimentlaw35_talk_step_j2 R (e 0))) _ (by kernel_rfl) (orpimentlaw35_talk_step_j3_ok R e)))
def orpimentlaw35_talk_step_j32 (R : ER) (x0 x3 x5 x6 x7 : Value) : WP :=
  pv (nilO x0) fun v226 =>
  pv (faO 4 v226) fun v227 =>
  ld1 v227 fun v228 =>
  pv (lenS v228) fun v229 =>
  pv (bin .gtr v229 (.int .i64 0)) fun v230 =>
  cnd v230 (
   drewV (
   pv (faO 1 x3) fun v231 =>
   ld1 v231 fun v232 =>
   pv (cvI .u64 v232) fun v233 =>
   pv (nilO x0) fun v234 =>
   pv (faO 4 v234) fun v235 =>
   ld1 v235 fun v236 =>
   pv (lenS v236) fun v237 =>
   pv (cvI .u64 v237) fun v238 =>
   pv (bin .rem v233 v238) fun v239 =>
   pv (cvI .i64 v239) fun v240 =>
   orpimentlaw35_talk_step_j1 R x0 x3 x5 x6 v240)) (
   orpimentlaw35_talk_step_j1 R x0 x3 x5 x6 x7)
theorem orpimentlaw35_talk_step_j32_ok (R : ER) (e : Env) : den Pg R (cd Try.f33 [1,1,1,1,1,0]) e (setN (kont Pg R Try.f33) (fun e => orpimentlaw35_talk_step_j1 R (e 0) (e 3) (e 5) (e 6) (e 7))) = (orpimentlaw35_talk_step_j32 R (e 0) (e 3) (e 5) (e 6) (e 7)) := (by kernel_rfl)
def orpimentlaw35_talk_step (R : ER) (x0 x1 : Value) : WP :=
  bx 85 x1 fun v241 =>
  drewV (
  pv (nilO x0) fun v242 =>
  pv (faO 5 v242) fun v243 =>
  ld1 v243 fun v244 =>
  pv (faO 2 v241) fun v245 =>
  ld1 v245 fun v246 =>
  pv (bin .rem v246 (.int .u8 8)) fun v247 =>
  pv (cvI .i64 v247) fun v248 =>
  pv (bin .add v244 v248) fun v249 =>
  pv (nilO x0) fun v250 =>
  pv (faO 5 v250) fun v251 =>
  mem fun w253 => st1 v251 v249 fun v252 =>
  pv (faO 0 v241) fun v254 =>
  ld1 v254 fun v255 =>
  pv (cvI .u64 v255) fun v256 =>
  pv (bin .rem v256 (.int .u64 10)) fun v257 =>
  pv (cvI .i64 v257) fun v258 =>
  pv (bin .rem v258 (.int .i64 2)) fun v259 =>
  orpimentlaw35_talk_step_j32 R x0 v241 v258 v259 (.int .i64 0))
theorem orpimentlaw35_talk_step_den (R : ER) (x0 x1 : Value) : den Pg R (cd Try.f33 []) (argsEnv [x0, x1]) (kont Pg R Try.f33) = orpimentlaw35_talk_step R x0 x1 :=
  have h : ∀ e, den Pg R (cd Try.f33 []) e (kont Pg R Try.f33) = orpimentlaw35_talk_step R (e 0) (e 1) := fun e => (den_join Pg R 5 (cd Try.f33 []) (cd Try.f33 [1,1,1,1,1,1]) e (kont Pg R Try.f33) (fun e => orpimentlaw35_talk_step_j1 R (e 0) (e 3) (e 5) (e 6) (e 7)) _ (by kernel_rfl) (fun e => orpimentlaw35_talk_step_j1_ok R e) (den_join Pg R 4 (pre 5 (cd Try.f33 [])) (cd Try.f33 [1,1,1,1,1,0]) e (setN (kont Pg R Try.f33) (fun e => orpimentlaw35_talk_step_j1 R (e 0) (e 3) (e 5) (e 6) (e 7))) (fun e => orpimentlaw35_talk_step_j32 R (e 0) (e 3) (e 5) (e 6) (e 7)) _ (by kernel_rfl) (fun e => orpimentlaw35_talk_step_j32_ok R e) (by kernel_rfl)))
  h _
theorem orpimentlaw35_talk_step_calls {R : ER} {x0 x1 : Value} {w : World} (h : orpimentlaw35_talk_step R x0 x1 w) : Calls Pg 33 ⟨[x0, x1]⟩ w R :=
  calls_of_den Try.func33 (by kernel_rfl) (by kernel_rfl) (orpimentlaw35_talk_step_den R x0 x1) h
/-! ### 34: links_Link_time -/
def links_Link_time (R : ER) (x0 x1 : Value) : WP :=
  pv (bin .lss x1 (.int .i64 0)) fun v1 =>
  gd v1 false (pv (some x1)) fun v2 =>
  gd v1 false (pv (bin .gtr v2 (.int .i64 1099511627776))) fun v3 =>
  pv (pickO v1 (.bool true) v3) fun v4 =>
  cnd v4 (
   R (.returned (.int .i64 34))) (
   pv (nilO x0) fun v5 =>
   pv (faO 4 v5) fun v6 =>
   ld1 v6 fun v7 =>
   pv (bin .lss x1 v7) fun v8 =>
   cnd v8 (
    R (.returned (.int .i64 30))) (
    pv (nilO x0) fun v9 =>
    pv (faO 10 v9) fun v10 =>
    ld1 v10 fun v11 =>
    cnd v11 (
     R (.returned (.int .i64 4))) (
     R (.returned (.int .i64 0)))))
theorem links_Link_time_den (R : ER) (x0 x1 : Value) : den Pg R (cd Try.f34 []) (argsEnv [x0, x1]) (kont Pg R Try.f34) = links_Link_time R x0 x1 :=
  have h : ∀ e, den Pg R (cd Try.f34 []) e (kont Pg R Try.f34) = links_Link_time R (e 0) (e 1) := fun e => (by kernel_rfl)
  h _
theorem links_Link_time_calls {R : ER} {x0 x1 : Value} {w : World} (h : links_Link_time R x0 x1 w) : Calls Pg 34 ⟨[x0, x1]⟩ w R :=
  calls_of_den Try.func34 (by kernel_rfl) (by kernel_rfl) (links_Link_time_den R x0 x1) h
/-! ### 35: links_pieces -/
def links_pieces (R : ER) (x0 x1 : Value) : WP :=
  bx 24 x0 fun v1 =>
  bx 3 x1 fun v2 =>
  R (.returned (.func (.func 61) ⟨[]⟩ ⟨[v2, v1]⟩))
theorem links_pieces_den (R : ER) (x0 x1 : Value) : den Pg R (cd Try.f35 []) (argsEnv [x0, x1]) (kont Pg R Try.f35) = links_pieces R x0 x1 :=
  have h : ∀ e, den Pg R (cd Try.f35 []) e (kont Pg R Try.f35) = links_pieces R (e 0) (e 1) := fun e => by kernel_rfl
  h _
theorem links_pieces_calls {R : ER} {x0 x1 : Value} {w : World} (h : links_pieces R x0 x1 w) : Calls Pg 35 ⟨[x0, x1]⟩ w R :=
  calls_of_den Try.func35 (by kernel_rfl) (by kernel_rfl) (links_pieces_den R x0 x1) h
/-! ### 36: slices_ContainsFunc -/
def slices_ContainsFunc (R : ER) (x0 x1 : Value) : WP :=
  cal Pg R 62 ⟨[x0, x1]⟩ fun v1 =>
  pv (bin .geq v1 (.int .i64 0)) fun v2 =>
  R (.returned v2)
theorem slices_ContainsFunc_den (R : ER) (x0 x1 : Value) : den Pg R (cd Try.f36 []) (argsEnv [x0, x1]) (kont Pg R Try.f36) = slices_ContainsFunc R x0 x1 :=
  have h : ∀ e, den Pg R (cd Try.f36 []) e (kont Pg R Try.f36) = slices_ContainsFunc R (e 0) (e 1) := fun e => by kernel_rfl
  h _
theorem slices_ContainsFunc_calls {R : ER} {x0 x1 : Value} {w : World} (h : slices_ContainsFunc R x0 x1 w) : Calls Pg 36 ⟨[x0, x1]⟩ w R :=
  calls_of_den Try.func36 (by kernel_rfl) (by kernel_rfl) (slices_ContainsFunc_den R x0 x1) h
/-! ### 37: links_Link_Next_1 -/
def links_Link_Next_1 (R : ER) (x0 : Value) : WP :=
  bx 101 x0 fun v1 =>
  pv (faO 5 v1) fun v2 =>
  ld1 v2 fun v3 =>
  pv (bin .lss v3 (.int .i64 0)) fun v4 =>
  R (.returned v4)
theorem links_Link_Next_1_den (R : ER) (x0 : Value) : den Pg R (cd Try.f37 []) (argsEnv [x0]) (kont Pg R Try.f37) = links_Link_Next_1 R x0 :=
  have h : ∀ e, den Pg R (cd Try.f37 []) e (kont Pg R Try.f37) = links_Link_Next_1 R (e 0) := fun e => by kernel_rfl
  h _
theorem links_Link_Next_1_calls {R : ER} {x0 : Value} {w : World} (h : links_Link_Next_1 R x0 w) : Calls Pg 37 ⟨[x0]⟩ w R :=
  calls_of_den Try.func37 (by kernel_rfl) (by kernel_rfl) (links_Link_Next_1_den R x0) h
/-! ### 38: links_Link_usable -/
def links_Link_usable_j1 (R : ER) (x3 : Value) : WP :=
  R (.returned x3)
theorem links_Link_usable_j1_ok (R : ER) (e : Env) : den Pg R (cd Try.f38 [1,1,1]) e (kont Pg R Try.f38) = (links_Link_usable_j1 R (e 3)) := by kernel_rfl
def links_Link_usable_j5 (R : ER) (k1 : Value → Value → Value → Value → WP) (x3 x9 x10 x11 : Value) : WP :=
  pv (bin .add x11 (.int .i64 1)) fun v1 =>
  k1 x3 x9 x10 v1
theorem links_Link_usable_j5_ok (R : ER) (k1 : Value → Value → Value → Value → WP) (e : Env) : den Pg R (cd Try.f38 [1,1,0,1,0,0,1,1,1]) e (setN (inB 0 (setN (kont Pg R Try.f38) (fun e => links_Link_usable_j1 R (e 3)))) (fun e => k1 (e 3) (e 9) (e 10) (e 11))) = (links_Link_usable_j5 R k1 (e 3) (e 9) (e 10) (e 11)) := by kernel_rfl
def links_Link_usable_j4 (R : ER) (k1 : Value → Value → Value → Value → WP) (x3 x9 x10 x11 : Value) : WP :=
  pv (ixS 1 x9 x11) fun v2 =>
  ld1 v2 fun v3 =>
  cnd v3 (
   valV Pg R (Instr.buildSlice 104 1 ⟨[(0, x11)]⟩) fun v4 =>
   blt Pg R .append ⟨[104,104]⟩ 104 ⟨[false, false]⟩ ⟨[x3, v4]⟩ fun v5 =>
   links_Link_usable_j5 R k1 v5 x9 x10 x11) (
   links_Link_usable_j5 R k1 x3 x9 x10 x11)
theorem links_Link_usable_j4_ok (R : ER) (k1 : Value → Value → Value → Value → WP) (e : Env) : den Pg R (cd Try.f38 [1,1,0,1,0,0,1,1]) e (setN (inB 0 (setN (kont Pg R Try.f38) (fun e => links_Link_usable_j1 R (e 3)))) (fun e => k1 (e 3) (e 9) (e 10) (e 11))) = (links_Link_usable_j4 R k1 (e 3) (e 9) (e 10) (e 11)) := (den_join Pg R 0 (cd Try.f38 [1,1,0,1,0,0,1,1]) (cd Try.f38 [1,1,0,1,0,0,1,1,1]) e (setN (inB 0 (setN (kont Pg R Try.f38) (fun e => links_Link_usable_j1 R (e 3)))) (fun e => k1 (e 3) (e 9) (e 10) (e 11))) (fun e => links_Link_usable_j5 R k1 (e 3) (e 9) (e 10) (e 11)) _ (by kernel_rfl) (fun e => links_Link_usable_j5_ok R k1 e) (by kernel_rfl))
def links_Link_usable_b1 (R : ER) (k1 : Value → Value → Value → Value → WP) (x3 x9 x10 x11 : Value) : WP :=
  pv (bin .lss x11 x10) fun v6 =>
  cnd v6 (
   links_Link_usable_j4 R k1 x3 x9 x10 x11) (
   links_Link_usable_j1 R x3)
theorem links_Link_usable_b1_ok (R : ER) (k1 : Value → Value → Value → Value → WP) (e : Env) : den Pg R (cd Try.f38 [1,1,0,1,0,0]) e (setN (inB 0 (setN (kont Pg R Try.f38) (fun e => links_Link_usable_j1 R (e 3)))) (fun e => k1 (e 3) (e 9) (e 10) (e 11))) = (links_Link_usable_b1 R k1 (e 3) (e 9) (e 10) (e 11)) := (den_join Pg R 1 (cd Try.f38 [1,1,0,1,0,0]) (cd Try.f38 [1,1,0,1,0,0,1,1]) e (setN (inB 0 (setN (kont Pg R Try.f38) (fun e => links_Link_usable_j1 R (e 3)))) (fun e => k1 (e 3) (e 9) (e 10) (e 11))) (fun e => links_Link_usable_j4 R k1 (e 3) (e 9) (e 10) (e 11)) _ (by kernel_rfl) (fun e => links_Link_usable_j4_ok R k1 e) (by kernel_rfl))
noncomputable def links_Link_usable_l1 (R : ER) (n : Nat) : Value → Value → Value → Value → WP := Nat.rec (motive := fun _ => Value → Value → Value → Value → WP) (fun _ _ _ _ => fun _ => False) (fun _ ih => fun x3 x9 x10 x11 => links_Link_usable_b1 R ih x3 x9 x10 x11) n
theorem links_Link_usable_l1_succ (R : ER) (n : Nat) (x3 x9 x10 x11 : Value) : links_Link_usable_l1 R (n + 1) x3 x9 x10 x11 = links_Link_usable_b1 R (links_Link_usable_l1 R n) x3 x9 x10 x11 := rfl
theorem links_Link_usable_l1_ok (R : ER) : ∀ (n : Nat) (e : Env), iterL (den Pg R (cd Try.f38 [1,1,0,1,0,0])) n e (inB 0 (setN (kont Pg R Try.f38) (fun e => links_Link_usable_j1 R (e 3)))) = links_Link_usable_l1 R n (e 3) (e 9) (e 10) (e 11) :=
  iterL_join (den Pg R (cd Try.f38 [1,1,0,1,0,0])) (inB 0 (setN (kont Pg R Try.f38) (fun e => links_Link_usable_j1 R (e 3)))) (fun n e => links_Link_usable_l1 R n (e 3) (e 9) (e 10) (e 11)) (fun _ => rfl) (fun n e => (links_Link_usable_b1_ok R (links_Link_usable_l1 R n) e).trans (links_Link_usable_l1_succ R n (e 3) (e 9) (e 10) (e 11)).symm)
def links_Link_usable_j3 (R : ER) (x3 x9 x10 x11 : Value) : WP :=
  exN fun n => links_Link_usable_l1 R n x3 x9 x10 x11
theorem links_Link_usable_j3_ok (R : ER) (e : Env) : den Pg R (cd Try.f38 [1,1,0,1]) e (setN (kont Pg R Try.f38) (fun e => links_Link_usable_j1 R (e 3))) = (links_Link_usable_j3 R (e 3) (e 9) (e 10) (e 11)) := (den_block Pg R (cd Try.f38 [1,1,0,1]) 0 (cd Try.f38 [1,1,0,1,0]) e (setN (kont Pg R Try.f38) (fun e => links_Link_usable_j1 R (e 3))) _ (by kernel_rfl) (den_loop Pg R (cd Try.f38 [1,1,0,1,0]) (cd Try.f38 [1,1,0,1,0,0]) e (inB 0 (setN (kont Pg R Try.f38) (fun e => links_Link_usable_j1 R (e 3)))) (fun n e => links_Link_usable_l1 R n (e 3) (e 9) (e 10) (e 11)) _ (by kernel_rfl) (links_Link_usable_l1_ok R) (by kernel_rfl)))
def links_Link_usable_j2 (R : ER) (x0 x3 : Value) : WP :=
  pv (nilO x0) fun v7 =>
  pv (faO 0 v7) fun v8 =>
  ld1 v8 fun v9 =>
  pv (lenS v9) fun v10 =>
  links_Link_usable_j3 R x3 v9 v10 (.int .i64 0)
theorem links_Link_usable_j2_ok (R : ER) (e : Env) : den Pg R (cd Try.f38 [1,1,0]) e (setN (kont Pg R Try.f38) (fun e => links_Link_usable_j1 R (e 3))) = (links_Link_usable_j2 R (e 0) (e 3)) := (den_join Pg R 0 (cd Try.f38 [1,1,0]) (cd Try.f38 [1,1,0,1]) e (setN (kont Pg R Try.f38) (fun e => links_Link_usable_j1 R (e 3))) (fun e => links_Link_usable_j3 R (e 3) (e 9) (e 10) (e 11)) _ (by kernel_rfl) (fun e => links_Link_usable_j3_ok R e) (by kernel_rfl))
def links_Link_usable (R : ER) (x0 : Value) : WP :=
  links_Link_usable_j2 R x0 (.slice none 0 0)
theorem links_Link_usable_den (R : ER) (x0 : Value) : den Pg R (cd Try.f38 []) (argsEnv [x0]) (kont Pg R Try.f38) = links_Link_usable R x0 :=
  have h : ∀ e, den Pg R (cd Try.f38 []) e (kont Pg R Try.f38) = links_Link_usable R (e 0) := fun e => (den_join Pg R 2 (cd Try.f38 []) (cd Try.f38 [1,1,1]) e (kont Pg R Try.f38) (fun e => links_Link_usable_j1 R (e 3)) _ (by kernel_rfl) (fun e => links_Link_usable_j1_ok R e) (den_join Pg R 1 (pre 2 (cd Try.f38 [])) (cd Try.f38 [1,1,0]) e (setN (kont Pg R Try.f38) (fun e => links_Link_usable_j1 R (e 3))) (fun e => links_Link_usable_j2 R (e 0) (e 3)) _ (by kernel_rfl) (fun e => links_Link_usable_j2_ok R e) (by kernel_rfl)))
  h _
theorem links_Link_usable_calls {R : ER} {x0 : Value} {w : World} (h : links_Link_usable R x0 w) : Calls Pg 38 ⟨[x0]⟩ w R :=
  calls_of_den Try.func38 (by kernel_rfl) (by kernel_rfl) (links_Link_usable_den R x0) h
/-! ### 39: links_Link_over -/
def links_Link_over (R : ER) (x0 x1 : Value) : WP :=
  pv (nilO x0) fun v1 =>
  pv (faO 2 v1) fun v2 =>
  ld1 v2 fun v3 =>
  pv (bin .eql v3 (.int .i64 0)) fun v4 =>
  cnd v4 (
   pv (slS 1 x1 none (some (.int .i64 1))) fun v5 =>
   R (.returned v5)) (
   pv (bin .eql v3 (.int .i64 1)) fun v6 =>
   cnd v6 (
    pv (nilO x0) fun v7 =>
    pv (faO 9 v7) fun v8 =>
    ld1 v8 fun v9 =>
    pv (lenS x1) fun v10 =>
    pv (bin .rem v9 v10) fun v11 =>
    pv (nilO x0) fun v12 =>
    pv (faO 9 v12) fun v13 =>
    ld1 v13 fun v14 =>
    pv (bin .add v14 (.int .i64 1)) fun v15 =>
    pv (nilO x0) fun v16 =>
    pv (faO 9 v16) fun v17 =>
    st1 v17 v15 fun _ =>
    pv (bin .add v11 (.int .i64 1)) fun v18 =>
    pv (slS 1 x1 (some v11) (some v18)) fun v19 =>
    R (.returned v19)) (
    R (.returned x1)))
theorem links_Link_over_den (R : ER) (x0 x1 : Value) : den Pg R (cd Try.f39 []) (argsEnv [x0, x1]) (kont Pg R Try.f39) = links_Link_over R x0 x1 :=
  have h : ∀ e, den Pg R (cd Try.f39 []) e (kont Pg R Try.f39) = links_Link_over R (e 0) (e 1) := fun e => (by kernel_rfl)
  h _
theorem links_Link_over_calls {R : ER} {x0 x1 : Value} {w : World} (h : links_Link_over R x0 x1 w) : Calls Pg 39 ⟨[x0, x1]⟩ w R :=
  calls_of_den Try.func39 (by kernel_rfl) (by kernel_rfl) (links_Link_over_den R x0 x1) h
/-! ### 40: links_fields -/
def links_fields (R : ER) : WP :=
  al Pg 112 fun v1 =>
  pv (bldO [.int .i64 0, .int .i64 0] [(0,1, (.int .i64 2)), (1,1, (.int .i64 2))]) fun v2 =>
  pv (bldO [.int .i64 0, .int .i64 0] [(0,1, (.int .i64 4)), (1,1, (.int .i64 8))]) fun v3 =>
  pv (bldO [.int .i64 0, .int .i64 0] [(0,1, (.int .i64 12)), (1,1, (.int .i64 4))]) fun v4 =>
  pv (bldO [.int .i64 0, .int .i64 0] [(0,1, (.int .i64 16)), (1,1, (.int .i64 8))]) fun v5 =>
  pv (bldO [.int .i64 0, .int .i64 0, .int .i64 0, .int .i64 0, .int .i64 0, .int .i64 0, .int .i64 0, .int .i64 0] [(0,2, v2), (2,2, v3), (4,2, v4), (6,2, v5)]) fun v6 =>
  stN 8 v1 v6 fun _ =>
  ldN 8 v1 fun v7 => R (.returned v7)
theorem links_fields_den (R : ER) : den Pg R (cd Try.f40 []) (argsEnv []) (kont Pg R Try.f40) = links_fields R :=
  have h : ∀ e, den Pg R (cd Try.f40 []) e (kont Pg R Try.f40) = links_fields R := fun e => by kernel_rfl
  h _
theorem links_fields_calls {R : ER} {w : World} (h : links_fields R w) : Calls Pg 40 ⟨[]⟩ w R :=
  calls_of_den Try.func40 (by kernel_rfl) (by kernel_rfl) (links_fields_den R) h
/-! ### 41: links_field_put -/
def links_field_put_j2 (R : ER) (k1 : Value → Value → Value → Value → WP) (x1 x2 x3 x6 : Value) : WP :=
  pv (faO 0 x3) fun v1 =>
  ld1 v1 fun v2 =>
  pv (bin .add v2 x6) fun v3 =>
  pv (cvI .u8 x2) fun v4 =>
  pv (ixS 1 x1 v3) fun v5 =>
  st1 v5 v4 fun _ =>
  pv (bin .shr x2 (.int .u64 8)) fun v6 =>
  pv (bin .sub x6 (.int .i64 1)) fun v7 =>
  k1 x1 v6 x3 v7
theorem links_field_put_j2_ok (R : ER) (k1 : Value → Value → Value → Value → WP) (e : Env) : den Pg R (cd Try.f41 [1,1,0,0,1]) e (setN (inB 0 (kont Pg R Try.f41)) (fun e => k1 (e 1) (e 2) (e 3) (e 6))) = (links_field_put_j2 R k1 (e 1) (e 2) (e 3) (e 6)) := by kernel_rfl
def links_field_put_b1 (R : ER) (k1 : Value → Value → Value → Value → WP) (x1 x2 x3 x6 : Value) : WP :=
  pv (bin .geq x6 (.int .i64 0)) fun v8 =>
  cnd v8 (
   links_field_put_j2 R k1 x1 x2 x3 x6) (
   R (.returned (.tuple ⟨[]⟩)))
theorem links_field_put_b1_ok (R : ER) (k1 : Value → Value → Value → Value → WP) (e : Env) : den Pg R (cd Try.f41 [1,1,0,0]) e (setN (inB 0 (kont Pg R Try.f41)) (fun e => k1 (e 1) (e 2) (e 3) (e 6))) = (links_field_put_b1 R k1 (e 1) (e 2) (e 3) (e 6)) := (den_join Pg R 0 (cd Try.f41 [1,1,0,0]) (cd Try.f41 [1,1,0,0,1]) e (setN (inB 0 (kont Pg R Try.f41)) (fun e => k1 (e 1) (e 2) (e 3) (e 6))) (fun e => links_field_put_j2 R k1 (e 1) (e 2) (e 3) (e 6)) _ (by kernel_rfl) (fun e => links_field_put_j2_ok R k1 e) (by kernel_rfl))
noncomputable def links_field_put_l1 (R : ER) (n : Nat) : Value → Value → Value → Value → WP := Nat.rec (motive := fun _ => Value → Value → Value → Value → WP) (fun _ _ _ _ => fun _ => False) (fun _ ih => fun x1 x2 x3 x6 => links_field_put_b1 R ih x1 x2 x3 x6) n
theorem links_field_put_l1_succ (R : ER) (n : Nat) (x1 x2 x3 x6 : Value) : links_field_put_l1 R (n + 1) x1 x2 x3 x6 = links_field_put_b1 R (links_field_put_l1 R n) x1 x2 x3 x6 := rfl
theorem links_field_put_l1_ok (R : ER) : ∀ (n : Nat) (e : Env), iterL (den Pg R (cd Try.f41 [1,1,0,0])) n e (inB 0 (kont Pg R Try.f41)) = links_field_put_l1 R n (e 1) (e 2) (e 3) (e 6) :=
  iterL_join (den Pg R (cd Try.f41 [1,1,0,0])) (inB 0 (kont Pg R Try.f41)) (fun n e => links_field_put_l1 R n (e 1) (e 2) (e 3) (e 6)) (fun _ => rfl) (fun n e => (links_field_put_b1_ok R (links_field_put_l1 R n) e).trans (links_field_put_l1_succ R n (e 1) (e 2) (e 3) (e 6)).symm)
def links_field_put_j1 (R : ER) (x1 x2 x3 x6 : Value) : WP :=
  exN fun n => links_field_put_l1 R n x1 x2 x3 x6
theorem links_field_put_j1_ok (R : ER) (e : Env) : den Pg R (cd Try.f41 [1,1]) e (kont Pg R Try.f41) = (links_field_put_j1 R (e 1) (e 2) (e 3) (e 6)) := (den_block Pg R (cd Try.f41 [1,1]) 0 (cd Try.f41 [1,1,0]) e (kont Pg R Try.f41) _ (by kernel_rfl) (den_loop Pg R (cd Try.f41 [1,1,0]) (cd Try.f41 [1,1,0,0]) e (inB 0 (kont Pg R Try.f41)) (fun n e => links_field_put_l1 R n (e 1) (e 2) (e 3) (e 6)) _ (by kernel_rfl) (links_field_put_l1_ok R) (by kernel_rfl)))
def links_field_put (R : ER) (x0 x1 x2 : Value) : WP :=
  bx 111 x0 fun v9 =>
  pv (faO 1 v9) fun v10 =>
  ld1 v10 fun v11 =>
  pv (bin .sub v11 (.int .i64 1)) fun v12 =>
  links_field_put_j1 R x1 x2 v9 v12
theorem links_field_put_den (R : ER) (x0 x1 x2 : Value) : den Pg R (cd Try.f41 []) (argsEnv [x0, x1, x2]) (kont Pg R Try.f41) = links_field_put R x0 x1 x2 :=
  have h : ∀ e, den Pg R (cd Try.f41 []) e (kont Pg R Try.f41) = links_field_put R (e 0) (e 1) (e 2) := fun e => (den_join Pg R 1 (cd Try.f41 []) (cd Try.f41 [1,1]) e (kont Pg R Try.f41) (fun e => links_field_put_j1 R (e 1) (e 2) (e 3) (e 6)) _ (by kernel_rfl) (fun e => links_field_put_j1_ok R e) (by kernel_rfl))
  h _
theorem links_field_put_calls {R : ER} {x0 x1 x2 : Value} {w : World} (h : links_field_put R x0 x1 x2 w) : Calls Pg 41 ⟨[x0, x1, x2]⟩ w R :=
  calls_of_den Try.func41 (by kernel_rfl) (by kernel_rfl) (links_field_put_den R x0 x1 x2) h
/-! ### 42: links_digest -/
def links_digest_j1 (R : ER) (x3 : Value) : WP :=
  R (.returned x3)
theorem links_digest_j1_ok (R : ER) (e : Env) : den Pg R (cd Try.f42 [1,1,1]) e (kont Pg R Try.f42) = (links_digest_j1 R (e 3)) := by kernel_rfl
def links_digest_j5 (R : ER) (k1 : Value → Value → Value → Value → WP) (x3 x6 x7 x8 : Value) : WP :=
  pv (bin .add x8 (.int .i64 1)) fun v1 =>
  k1 x3 x6 x7 v1
theorem links_digest_j5_ok (R : ER) (k1 : Value → Value → Value → Value → WP) (e : Env) : den Pg R (cd Try.f42 [1,1,0,1,0,0,1,1,1]) e (setN (inB 0 (setN (kont Pg R Try.f42) (fun e => links_digest_j1 R (e 3)))) (fun e => k1 (e 3) (e 6) (e 7) (e 8))) = (links_digest_j5 R k1 (e 3) (e 6) (e 7) (e 8)) := by kernel_rfl
def links_digest_j6 (R : ER) (k1 : Value → Value → Value → Value → WP) (x3 x6 x7 x8 : Value) : WP :=
  pv (ixS 1 x6 x8) fun v2 =>
  ld1 v2 fun v3 =>
  pv (bin .lss x8 (.int .i64 16)) fun v4 =>
  gd v4 false (pv (some x8)) fun v5 =>
  gd v4 false (pv (bin .geq v5 (.int .i64 24))) fun v6 =>
  pv (pickO v4 (.bool true) v6) fun v7 =>
  cnd v7 (
   pv (cvI .u64 v3) fun v8 =>
   pv (bin .xor x3 v8) fun v9 =>
   pv (bin .mul v9 (.int .u64 1099511628211)) fun v10 =>
   links_digest_j5 R k1 v10 x6 x7 x8) (
   links_digest_j5 R k1 x3 x6 x7 x8)
theorem links_digest_j6_ok (R : ER) (k1 : Value → Value → Value → Value → WP) (e : Env) : den Pg R (cd Try.f42 [1,1,0,1,0,0,1,1,0]) e (setN (setN (inB 0 (setN (kont Pg R Try.f42) (fun e => links_digest_j1 R (e 3)))) (fun e => k1 (e 3) (e 6) (e 7) (e 8))) (fun e => links_digest_j5 R k1 (e 3) (e 6) (e 7) (e 8))) = (links_digest_j6 R k1 (e 3) (e 6) (e 7) (e 8)) := (den_block Pg R (cd Try.f42 [1,1,0,1,0,0,1,1,0]) 1 (cd Try.f42 [1,1,0,1,0,0,1,1,0,0]) e (setN (setN (inB 0 (setN (kont Pg R Try.f42) (fun e => links_digest_j1 R (e 3)))) (fun e => k1 (e 3) (e 6) (e 7) (e 8))) (fun e => links_digest_j5 R k1 (e 3) (e 6) (e 7) (e 8))) _ (by kernel_rfl) (by kernel_rfl))
def links_digest_j4 (R : ER) (k1 : Value → Value → Value → Value → WP) (x3 x6 x7 x8 : Value) : WP :=
  links_digest_j6 R k1 x3 x6 x7 x8
theorem links_digest_j4_ok (R : ER) (k1 : Value → Value → Value → Value → WP) (e : Env) : den Pg R (cd Try.f42 [1,1,0,1,0,0,1,1]) e (setN (inB 0 (setN (kont Pg R Try.f42) (fun e => links_digest_j1 R (e 3)))) (fun e => k1 (e 3) (e 6) (e 7) (e 8))) = (links_digest_j4 R k1 (e 3) (e 6) (e 7) (e 8)) := (den_join Pg R 0 (cd Try.f42 [1,1,0,1,0,0,1,1]) (cd Try.f42 [1,1,0,1,0,0,1,1,1]) e (setN (inB 0 (setN (kont Pg R Try.f42) (fun e => links_digest_j1 R (e 3)))) (fun e => k1 (e 3) (e 6) (e 7) (e 8))) (fun e => links_digest_j5 R k1 (e 3) (e 6) (e 7) (e 8)) _ (by kernel_rfl) (fun e => links_digest_j5_ok R k1 e) (den_conv Pg R (pre 0 (cd Try.f42 [1,1,0,1,0,0,1,1])) (cd Try.f42 [1,1,0,1,0,0,1,1,0]) e (setN (setN (inB 0 (setN (kont Pg R Try.f42) (fun e => links_digest_j1 R (e 3)))) (fun e => k1 (e 3) (e 6) (e 7) (e 8))) (fun e => links_digest_j5 R k1 (e 3) (e 6) (e 7) (e 8))) _ (by kernel_rfl) (links_digest_j6_ok R k1 e)))
def links_digest_b1 (R : ER) (k1 : Value → Value → Value → Value → WP) (x3 x6 x7 x8 : Value) : WP :=
  pv (bin .lss x8 x7) fun v11 =>
  cnd v11 (
   links_digest_j4 R k1 x3 x6 x7 x8) (
   links_digest_j1 R x3)
theorem links_digest_b1_ok (R : ER) (k1 : Value → Value → Value → Value → WP) (e : Env) : den Pg R (cd Try.f42 [1,1,0,1,0,0]) e (setN (inB 0 (setN (kont Pg R Try.f42) (fun e => links_digest_j1 R (e 3)))) (fun e => k1 (e 3) (e 6) (e 7) (e 8))) = (links_digest_b1 R k1 (e 3) (e 6) (e 7) (e 8)) := (den_join Pg R 1 (cd Try.f42 [1,1,0,1,0,0]) (cd Try.f42 [1,1,0,1,0,0,1,1]) e (setN (inB 0 (setN (kont Pg R Try.f42) (fun e => links_digest_j1 R (e 3)))) (fun e => k1 (e 3) (e 6) (e 7) (e 8))) (fun e => links_digest_j4 R k1 (e 3) (e 6) (e 7) (e 8)) _ (by kernel_rfl) (fun e => links_digest_j4_ok R k1 e) (by kernel_rfl))
noncomputable def links_digest_l1 (R : ER) (n : Nat) : Value → Value → Value → Value → WP := Nat.rec (motive := fun _ => Value → Value → Value → Value → WP) (fun _ _ _ _ => fun _ => False) (fun _ ih => fun x3 x6 x7 x8 => links_digest_b1 R ih x3 x6 x7 x8) n
theorem links_digest_l1_succ (R : ER) (n : Nat) (x3 x6 x7 x8 : Value) : links_digest_l1 R (n + 1) x3 x6 x7 x8 = links_digest_b1 R (links_digest_l1 R n) x3 x6 x7 x8 := rfl
theorem links_digest_l1_ok (R : ER) : ∀ (n : Nat) (e : Env), iterL (den Pg R (cd Try.f42 [1,1,0,1,0,0])) n e (inB 0 (setN (kont Pg R Try.f42) (fun e => links_digest_j1 R (e 3)))) = links_digest_l1 R n (e 3) (e 6) (e 7) (e 8) :=
  iterL_join (den Pg R (cd Try.f42 [1,1,0,1,0,0])) (inB 0 (setN (kont Pg R Try.f42) (fun e => links_digest_j1 R (e 3)))) (fun n e => links_digest_l1 R n (e 3) (e 6) (e 7) (e 8)) (fun _ => rfl) (fun n e => (links_digest_b1_ok R (links_digest_l1 R n) e).trans (links_digest_l1_succ R n (e 3) (e 6) (e 7) (e 8)).symm)
def links_digest_j3 (R : ER) (x3 x6 x7 x8 : Value) : WP :=
  exN fun n => links_digest_l1 R n x3 x6 x7 x8
theorem links_digest_j3_ok (R : ER) (e : Env) : den Pg R (cd Try.f42 [1,1,0,1]) e (setN (kont Pg R Try.f42) (fun e => links_digest_j1 R (e 3))) = (links_digest_j3 R (e 3) (e 6) (e 7) (e 8)) := (den_block Pg R (cd Try.f42 [1,1,0,1]) 0 (cd Try.f42 [1,1,0,1,0]) e (setN (kont Pg R Try.f42) (fun e => links_digest_j1 R (e 3))) _ (by kernel_rfl) (den_loop Pg R (cd Try.f42 [1,1,0,1,0]) (cd Try.f42 [1,1,0,1,0,0]) e (inB 0 (setN (kont Pg R Try.f42) (fun e => links_digest_j1 R (e 3)))) (fun n e => links_digest_l1 R n (e 3) (e 6) (e 7) (e 8)) _ (by kernel_rfl) (links_digest_l1_ok R) (by kernel_rfl)))
def links_digest_j2 (R : ER) (x0 x3 : Value) : WP :=
  pv (lenS x0) fun v12 =>
  links_digest_j3 R x3 x0 v12 (.int .i64 0)
theorem links_digest_j2_ok (R : ER) (e : Env) : den Pg R (cd Try.f42 [1,1,0]) e (setN (kont Pg R Try.f42) (fun e => links_digest_j1 R (e 3))) = (links_digest_j2 R (e 0) (e 3)) := (den_join Pg R 0 (cd Try.f42 [1,1,0]) (cd Try.f42 [1,1,0,1]) e (setN (kont Pg R Try.f42) (fun e => links_digest_j1 R (e 3))) (fun e => links_digest_j3 R (e 3) (e 6) (e 7) (e 8)) _ (by kernel_rfl) (fun e => links_digest_j3_ok R e) (by kernel_rfl))
def links_digest (R : ER) (x0 : Value) : WP :=
  links_digest_j2 R x0 (.int .u64 14695981039346656037)
theorem links_digest_den (R : ER) (x0 : Value) : den Pg R (cd Try.f42 []) (argsEnv [x0]) (kont Pg R Try.f42) = links_digest R x0 :=
  have h : ∀ e, den Pg R (cd Try.f42 []) e (kont Pg R Try.f42) = links_digest R (e 0) := fun e => (den_join Pg R 2 (cd Try.f42 []) (cd Try.f42 [1,1,1]) e (kont Pg R Try.f42) (fun e => links_digest_j1 R (e 3)) _ (by kernel_rfl) (fun e => links_digest_j1_ok R e) (den_join Pg R 1 (pre 2 (cd Try.f42 [])) (cd Try.f42 [1,1,0]) e (setN (kont Pg R Try.f42) (fun e => links_digest_j1 R (e 3))) (fun e => links_digest_j2 R (e 0) (e 3)) _ (by kernel_rfl) (fun e => links_digest_j2_ok R e) (by kernel_rfl)))
  h _
theorem links_digest_calls {R : ER} {x0 : Value} {w : World} (h : links_digest R x0 w) : Calls Pg 42 ⟨[x0]⟩ w R :=
  calls_of_den Try.func42 (by kernel_rfl) (by kernel_rfl) (links_digest_den R x0) h
/-! ### 43: orpimentref35_put -/
def orpimentref35_put_j1 (R : ER) (x5 : Value) : WP :=
  R (.returned x5)
theorem orpimentref35_put_j1_ok (R : ER) (e : Env) : den Pg R (cd Try.f43 [1,1,1]) e (kont Pg R Try.f43) = (orpimentref35_put_j1 R (e 5)) := by kernel_rfl
def orpimentref35_put_j4 (R : ER) (k1 : Value → Value → Value → WP) (x0 x5 x6 : Value) : WP :=
  pv (bin .mul (.int .i64 8) x6) fun v1 =>
  pv (cvI .u64 v1) fun v2 =>
  pv (bin .shr x0 v2) fun v3 =>
  pv (cvI .u8 v3) fun v4 =>
  valV Pg R (Instr.buildSlice 24 1 ⟨[(0, v4)]⟩) fun v5 =>
  blt Pg R .append ⟨[24,24]⟩ 24 ⟨[false, false]⟩ ⟨[x5, v5]⟩ fun v6 =>
  pv (bin .sub x6 (.int .i64 1)) fun v7 =>
  k1 x0 v6 v7
theorem orpimentref35_put_j4_ok (R : ER) (k1 : Value → Value → Value → WP) (e : Env) : den Pg R (cd Try.f43 [1,1,0,1,0,0,1]) e (setN (inB 0 (setN (kont Pg R Try.f43) (fun e => orpimentref35_put_j1 R (e 5)))) (fun e => k1 (e 0) (e 5) (e 6))) = (orpimentref35_put_j4 R k1 (e 0) (e 5) (e 6)) := by kernel_rfl
def orpimentref35_put_b1 (R : ER) (k1 : Value → Value → Value → WP) (x0 x5 x6 : Value) : WP :=
  pv (bin .geq x6 (.int .i64 0)) fun v8 =>
  cnd v8 (
   orpimentref35_put_j4 R k1 x0 x5 x6) (
   orpimentref35_put_j1 R x5)
theorem orpimentref35_put_b1_ok (R : ER) (k1 : Value → Value → Value → WP) (e : Env) : den Pg R (cd Try.f43 [1,1,0,1,0,0]) e (setN (inB 0 (setN (kont Pg R Try.f43) (fun e => orpimentref35_put_j1 R (e 5)))) (fun e => k1 (e 0) (e 5) (e 6))) = (orpimentref35_put_b1 R k1 (e 0) (e 5) (e 6)) := (den_join Pg R 0 (cd Try.f43 [1,1,0,1,0,0]) (cd Try.f43 [1,1,0,1,0,0,1]) e (setN (inB 0 (setN (kont Pg R Try.f43) (fun e => orpimentref35_put_j1 R (e 5)))) (fun e => k1 (e 0) (e 5) (e 6))) (fun e => orpimentref35_put_j4 R k1 (e 0) (e 5) (e 6)) _ (by kernel_rfl) (fun e => orpimentref35_put_j4_ok R k1 e) (by kernel_rfl))
noncomputable def orpimentref35_put_l1 (R : ER) (n : Nat) : Value → Value → Value → WP := Nat.rec (motive := fun _ => Value → Value → Value → WP) (fun _ _ _ => fun _ => False) (fun _ ih => fun x0 x5 x6 => orpimentref35_put_b1 R ih x0 x5 x6) n
theorem orpimentref35_put_l1_succ (R : ER) (n : Nat) (x0 x5 x6 : Value) : orpimentref35_put_l1 R (n + 1) x0 x5 x6 = orpimentref35_put_b1 R (orpimentref35_put_l1 R n) x0 x5 x6 := rfl
theorem orpimentref35_put_l1_ok (R : ER) : ∀ (n : Nat) (e : Env), iterL (den Pg R (cd Try.f43 [1,1,0,1,0,0])) n e (inB 0 (setN (kont Pg R Try.f43) (fun e => orpimentref35_put_j1 R (e 5)))) = orpimentref35_put_l1 R n (e 0) (e 5) (e 6) :=
  iterL_join (den Pg R (cd Try.f43 [1,1,0,1,0,0])) (inB 0 (setN (kont Pg R Try.f43) (fun e => orpimentref35_put_j1 R (e 5)))) (fun n e => orpimentref35_put_l1 R n (e 0) (e 5) (e 6)) (fun _ => rfl) (fun n e => (orpimentref35_put_b1_ok R (orpimentref35_put_l1 R n) e).trans (orpimentref35_put_l1_succ R n (e 0) (e 5) (e 6)).symm)
def orpimentref35_put_j3 (R : ER) (x0 x5 x6 : Value) : WP :=
  exN fun n => orpimentref35_put_l1 R n x0 x5 x6
theorem orpimentref35_put_j3_ok (R : ER) (e : Env) : den Pg R (cd Try.f43 [1,1,0,1]) e (setN (kont Pg R Try.f43) (fun e => orpimentref35_put_j1 R (e 5))) = (orpimentref35_put_j3 R (e 0) (e 5) (e 6)) := (den_block Pg R (cd Try.f43 [1,1,0,1]) 0 (cd Try.f43 [1,1,0,1,0]) e (setN (kont Pg R Try.f43) (fun e => orpimentref35_put_j1 R (e 5))) _ (by kernel_rfl) (den_loop Pg R (cd Try.f43 [1,1,0,1,0]) (cd Try.f43 [1,1,0,1,0,0]) e (inB 0 (setN (kont Pg R Try.f43) (fun e => orpimentref35_put_j1 R (e 5)))) (fun n e => orpimentref35_put_l1 R n (e 0) (e 5) (e 6)) _ (by kernel_rfl) (orpimentref35_put_l1_ok R) (by kernel_rfl)))
def orpimentref35_put_j2 (R : ER) (x0 x1 x5 : Value) : WP :=
  pv (bin .sub x1 (.int .i64 1)) fun v9 =>
  orpimentref35_put_j3 R x0 x5 v9
theorem orpimentref35_put_j2_ok (R : ER) (e : Env) : den Pg R (cd Try.f43 [1,1,0]) e (setN (kont Pg R Try.f43) (fun e => orpimentref35_put_j1 R (e 5))) = (orpimentref35_put_j2 R (e 0) (e 1) (e 5)) := (den_join Pg R 0 (cd Try.f43 [1,1,0]) (cd Try.f43 [1,1,0,1]) e (setN (kont Pg R Try.f43) (fun e => orpimentref35_put_j1 R (e 5))) (fun e => orpimentref35_put_j3 R (e 0) (e 5) (e 6)) _ (by kernel_rfl) (fun e => orpimentref35_put_j3_ok R e) (by kernel_rfl))
def orpimentref35_put (R : ER) (x0 x1 : Value) : WP :=
  valV Pg R (Instr.buildSlice 24 0 ⟨[]⟩) fun v10 =>
  orpimentref35_put_j2 R x0 x1 v10
theorem orpimentref35_put_den (R : ER) (x0 x1 : Value) : den Pg R (cd Try.f43 []) (argsEnv [x0, x1]) (kont Pg R Try.f43) = orpimentref35_put R x0 x1 :=
  have h : ∀ e, den Pg R (cd Try.f43 []) e (kont Pg R Try.f43) = orpimentref35_put R (e 0) (e 1) := fun e => (den_join Pg R 2 (cd Try.f43 []) (cd Try.f43 [1,1,1]) e (kont Pg R Try.f43) (fun e => orpimentref35_put_j1 R (e 5)) _ (by kernel_rfl) (fun e => orpimentref35_put_j1_ok R e) (den_join Pg R 1 (pre 2 (cd Try.f43 [])) (cd Try.f43 [1,1,0]) e (setN (kont Pg R Try.f43) (fun e => orpimentref35_put_j1 R (e 5))) (fun e => orpimentref35_put_j2 R (e 0) (e 1) (e 5)) _ (by kernel_rfl) (fun e => orpimentref35_put_j2_ok R e) (by kernel_rfl)))
  h _
theorem orpimentref35_put_calls {R : ER} {x0 x1 : Value} {w : World} (h : orpimentref35_put R x0 x1 w) : Calls Pg 43 ⟨[x0, x1]⟩ w R :=
  calls_of_den Try.func43 (by kernel_rfl) (by kernel_rfl) (orpimentref35_put_den R x0 x1) h
/-! ### 44: orpimentref35_Digest -/
def orpimentref35_Digest_j1 (R : ER) (x3 : Value) : WP :=
  R (.returned x3)
theorem orpimentref35_Digest_j1_ok (R : ER) (e : Env) : den Pg R (cd Try.f44 [1,1,1]) e (kont Pg R Try.f44) = (orpimentref35_Digest_j1 R (e 3)) := by kernel_rfl
def orpimentref35_Digest_j4 (R : ER) (k1 : Value → Value → Value → WP) (x0 x3 x4 : Value) : WP :=
  pv (ixS 1 x0 x4) fun v1 =>
  ld1 v1 fun v2 =>
  pv (cvI .u64 v2) fun v3 =>
  pv (bin .xor x3 v3) fun v4 =>
  pv (bin .mul v4 (.int .u64 1099511628211)) fun v5 =>
  pv (bin .add x4 (.int .i64 1)) fun v6 =>
  k1 x0 v5 v6
theorem orpimentref35_Digest_j4_ok (R : ER) (k1 : Value → Value → Value → WP) (e : Env) : den Pg R (cd Try.f44 [1,1,0,1,0,0,1]) e (setN (inB 0 (setN (kont Pg R Try.f44) (fun e => orpimentref35_Digest_j1 R (e 3)))) (fun e => k1 (e 0) (e 3) (e 4))) = (orpimentref35_Digest_j4 R k1 (e 0) (e 3) (e 4)) := by kernel_rfl
def orpimentref35_Digest_b1 (R : ER) (k1 : Value → Value → Value → WP) (x0 x3 x4 : Value) : WP :=
  pv (lenS x0) fun v7 =>
  pv (bin .lss x4 v7) fun v8 =>
  cnd v8 (
   orpimentref35_Digest_j4 R k1 x0 x3 x4) (
   orpimentref35_Digest_j1 R x3)
theorem orpimentref35_Digest_b1_ok (R : ER) (k1 : Value → Value → Value → WP) (e : Env) : den Pg R (cd Try.f44 [1,1,0,1,0,0]) e (setN (inB 0 (setN (kont Pg R Try.f44) (fun e => orpimentref35_Digest_j1 R (e 3)))) (fun e => k1 (e 0) (e 3) (e 4))) = (orpimentref35_Digest_b1 R k1 (e 0) (e 3) (e 4)) := (den_join Pg R 0 (cd Try.f44 [1,1,0,1,0,0]) (cd Try.f44 [1,1,0,1,0,0,1]) e (setN (inB 0 (setN (kont Pg R Try.f44) (fun e => orpimentref35_Digest_j1 R (e 3)))) (fun e => k1 (e 0) (e 3) (e 4))) (fun e => orpimentref35_Digest_j4 R k1 (e 0) (e 3) (e 4)) _ (by kernel_rfl) (fun e => orpimentref35_Digest_j4_ok R k1 e) (by kernel_rfl))
noncomputable def orpimentref35_Digest_l1 (R : ER) (n : Nat) : Value → Value → Value → WP := Nat.rec (motive := fun _ => Value → Value → Value → WP) (fun _ _ _ => fun _ => False) (fun _ ih => fun x0 x3 x4 => orpimentref35_Digest_b1 R ih x0 x3 x4) n
theorem orpimentref35_Digest_l1_succ (R : ER) (n : Nat) (x0 x3 x4 : Value) : orpimentref35_Digest_l1 R (n + 1) x0 x3 x4 = orpimentref35_Digest_b1 R (orpimentref35_Digest_l1 R n) x0 x3 x4 := rfl
theorem orpimentref35_Digest_l1_ok (R : ER) : ∀ (n : Nat) (e : Env), iterL (den Pg R (cd Try.f44 [1,1,0,1,0,0])) n e (inB 0 (setN (kont Pg R Try.f44) (fun e => orpimentref35_Digest_j1 R (e 3)))) = orpimentref35_Digest_l1 R n (e 0) (e 3) (e 4) :=
  iterL_join (den Pg R (cd Try.f44 [1,1,0,1,0,0])) (inB 0 (setN (kont Pg R Try.f44) (fun e => orpimentref35_Digest_j1 R (e 3)))) (fun n e => orpimentref35_Digest_l1 R n (e 0) (e 3) (e 4)) (fun _ => rfl) (fun n e => (orpimentref35_Digest_b1_ok R (orpimentref35_Digest_l1 R n) e).trans (orpimentref35_Digest_l1_succ R n (e 0) (e 3) (e 4)).symm)
def orpimentref35_Digest_j3 (R : ER) (x0 x3 x4 : Value) : WP :=
  exN fun n => orpimentref35_Digest_l1 R n x0 x3 x4
theorem orpimentref35_Digest_j3_ok (R : ER) (e : Env) : den Pg R (cd Try.f44 [1,1,0,1]) e (setN (kont Pg R Try.f44) (fun e => orpimentref35_Digest_j1 R (e 3))) = (orpimentref35_Digest_j3 R (e 0) (e 3) (e 4)) := (den_block Pg R (cd Try.f44 [1,1,0,1]) 0 (cd Try.f44 [1,1,0,1,0]) e (setN (kont Pg R Try.f44) (fun e => orpimentref35_Digest_j1 R (e 3))) _ (by kernel_rfl) (den_loop Pg R (cd Try.f44 [1,1,0,1,0]) (cd Try.f44 [1,1,0,1,0,0]) e (inB 0 (setN (kont Pg R Try.f44) (fun e => orpimentref35_Digest_j1 R (e 3)))) (fun n e => orpimentref35_Digest_l1 R n (e 0) (e 3) (e 4)) _ (by kernel_rfl) (orpimentref35_Digest_l1_ok R) (by kernel_rfl)))
def orpimentref35_Digest_j2 (R : ER) (x0 x3 : Value) : WP :=
  orpimentref35_Digest_j3 R x0 x3 (.int .i64 0)
theorem orpimentref35_Digest_j2_ok (R : ER) (e : Env) : den Pg R (cd Try.f44 [1,1,0]) e (setN (kont Pg R Try.f44) (fun e => orpimentref35_Digest_j1 R (e 3))) = (orpimentref35_Digest_j2 R (e 0) (e 3)) := (den_join Pg R 0 (cd Try.f44 [1,1,0]) (cd Try.f44 [1,1,0,1]) e (setN (kont Pg R Try.f44) (fun e => orpimentref35_Digest_j1 R (e 3))) (fun e => orpimentref35_Digest_j3 R (e 0) (e 3) (e 4)) _ (by kernel_rfl) (fun e => orpimentref35_Digest_j3_ok R e) (by kernel_rfl))
def orpimentref35_Digest (R : ER) (x0 : Value) : WP :=
  orpimentref35_Digest_j2 R x0 (.int .u64 14695981039346656037)
theorem orpimentref35_Digest_den (R : ER) (x0 : Value) : den Pg R (cd Try.f44 []) (argsEnv [x0]) (kont Pg R Try.f44) = orpimentref35_Digest R x0 :=
  have h : ∀ e, den Pg R (cd Try.f44 []) e (kont Pg R Try.f44) = orpimentref35_Digest R (e 0) := fun e => (den_join Pg R 2 (cd Try.f44 []) (cd Try.f44 [1,1,1]) e (kont Pg R Try.f44) (fun e => orpimentref35_Digest_j1 R (e 3)) _ (by kernel_rfl) (fun e => orpimentref35_Digest_j1_ok R e) (den_join Pg R 1 (pre 2 (cd Try.f44 [])) (cd Try.f44 [1,1,0]) e (setN (kont Pg R Try.f44) (fun e => orpimentref35_Digest_j1 R (e 3))) (fun e => orpimentref35_Digest_j2 R (e 0) (e 3)) _ (by kernel_rfl) (fun e => orpimentref35_Digest_j2_ok R e) (by kernel_rfl)))
  h _
theorem orpimentref35_Digest_calls {R : ER} {x0 : Value} {w : World} (h : orpimentref35_Digest R x0 w) : Calls Pg 44 ⟨[x0]⟩ w R :=
  calls_of_den Try.func44 (by kernel_rfl) (by kernel_rfl) (orpimentref35_Digest_den R x0) h
/-! ### 45: links_field_get -/
def links_field_get_j1 (R : ER) (x5 : Value) : WP :=
  R (.returned x5)
theorem links_field_get_j1_ok (R : ER) (e : Env) : den Pg R (cd Try.f45 [1,1,1]) e (kont Pg R Try.f45) = (links_field_get_j1 R (e 5)) := by kernel_rfl
def links_field_get_b1 (R : ER) (k1 : Value → Value → Value → Value → WP) (x5 x15 x16 x17 : Value) : WP :=
  pv (bin .lss x17 x16) fun v1 =>
  cnd v1 (
   pv (ixS 1 x15 x17) fun v2 =>
  ld1 v2 fun v3 =>
  pv (bin .shl x5 (.int .u64 8)) fun v4 =>
  pv (cvI .u64 v3) fun v5 =>
  pv (bin .or v4 v5) fun v6 =>
  pv (bin .add x17 (.int .i64 1)) fun v7 =>
  k1 v6 x15 x16 v7) (
   links_field_get_j1 R x5)
theorem links_field_get_b1_ok (R : ER) (k1 : Value → Value → Value → Value → WP) (e : Env) : den Pg R (cd Try.f45 [1,1,0,1,0,0]) e (setN (inB 0 (setN (kont Pg R Try.f45) (fun e => links_field_get_j1 R (e 5)))) (fun e => k1 (e 5) (e 15) (e 16) (e 17))) = (links_field_get_b1 R k1 (e 5) (e 15) (e 16) (e 17)) := by kernel_rfl
noncomputable def links_field_get_l1 (R : ER) (n : Nat) : Value → Value → Value → Value → WP := Nat.rec (motive := fun _ => Value → Value → Value → Value → WP) (fun _ _ _ _ => fun _ => False) (fun _ ih => fun x5 x15 x16 x17 => links_field_get_b1 R ih x5 x15 x16 x17) n
theorem links_field_get_l1_succ (R : ER) (n : Nat) (x5 x15 x16 x17 : Value) : links_field_get_l1 R (n + 1) x5 x15 x16 x17 = links_field_get_b1 R (links_field_get_l1 R n) x5 x15 x16 x17 := rfl
theorem links_field_get_l1_ok (R : ER) : ∀ (n : Nat) (e : Env), iterL (den Pg R (cd Try.f45 [1,1,0,1,0,0])) n e (inB 0 (setN (kont Pg R Try.f45) (fun e => links_field_get_j1 R (e 5)))) = links_field_get_l1 R n (e 5) (e 15) (e 16) (e 17) :=
  iterL_join (den Pg R (cd Try.f45 [1,1,0,1,0,0])) (inB 0 (setN (kont Pg R Try.f45) (fun e => links_field_get_j1 R (e 5)))) (fun n e => links_field_get_l1 R n (e 5) (e 15) (e 16) (e 17)) (fun _ => rfl) (fun n e => (links_field_get_b1_ok R (links_field_get_l1 R n) e).trans (links_field_get_l1_succ R n (e 5) (e 15) (e 16) (e 17)).symm)
def links_field_get_j3 (R : ER) (x5 x15 x16 x17 : Value) : WP :=
  exN fun n => links_field_get_l1 R n x5 x15 x16 x17
theorem links_field_get_j3_ok (R : ER) (e : Env) : den Pg R (cd Try.f45 [1,1,0,1]) e (setN (kont Pg R Try.f45) (fun e => links_field_get_j1 R (e 5))) = (links_field_get_j3 R (e 5) (e 15) (e 16) (e 17)) := (den_block Pg R (cd Try.f45 [1,1,0,1]) 0 (cd Try.f45 [1,1,0,1,0]) e (setN (kont Pg R Try.f45) (fun e => links_field_get_j1 R (e 5))) _ (by kernel_rfl) (den_loop Pg R (cd Try.f45 [1,1,0,1,0]) (cd Try.f45 [1,1,0,1,0,0]) e (inB 0 (setN (kont Pg R Try.f45) (fun e => links_field_get_j1 R (e 5)))) (fun n e => links_field_get_l1 R n (e 5) (e 15) (e 16) (e 17)) _ (by kernel_rfl) (links_field_get_l1_ok R) (by kernel_rfl)))
def links_field_get_j2 (R : ER) (x2 x3 x5 : Value) : WP :=
  pv (faO 0 x2) fun v8 =>
  ld1 v8 fun v9 =>
  pv (faO 0 x2) fun v10 =>
  ld1 v10 fun v11 =>
  pv (faO 1 x2) fun v12 =>
  ld1 v12 fun v13 =>
  pv (bin .add v11 v13) fun v14 =>
  pv (slA 24 1 x3 (some v9) (some v14)) fun v15 =>
  pv (lenS v15) fun v16 =>
  links_field_get_j3 R x5 v15 v16 (.int .i64 0)
theorem links_field_get_j2_ok (R : ER) (e : Env) : den Pg R (cd Try.f45 [1,1,0]) e (setN (kont Pg R Try.f45) (fun e => links_field_get_j1 R (e 5))) = (links_field_get_j2 R (e 2) (e 3) (e 5)) := (den_join Pg R 0 (cd Try.f45 [1,1,0]) (cd Try.f45 [1,1,0,1]) e (setN (kont Pg R Try.f45) (fun e => links_field_get_j1 R (e 5))) (fun e => links_field_get_j3 R (e 5) (e 15) (e 16) (e 17)) _ (by kernel_rfl) (fun e => links_field_get_j3_ok R e) (by kernel_rfl))
def links_field_get (R : ER) (x0 x1 : Value) : WP :=
  bx 111 x0 fun v17 =>
  bx 117 x1 fun v18 =>
  links_field_get_j2 R v17 v18 (.int .u64 0)
theorem links_field_get_den (R : ER) (x0 x1 : Value) : den Pg R (cd Try.f45 []) (argsEnv [x0, x1]) (kont Pg R Try.f45) = links_field_get R x0 x1 :=
  have h : ∀ e, den Pg R (cd Try.f45 []) e (kont Pg R Try.f45) = links_field_get R (e 0) (e 1) := fun e => (den_join Pg R 2 (cd Try.f45 []) (cd Try.f45 [1,1,1]) e (kont Pg R Try.f45) (fun e => links_field_get_j1 R (e 5)) _ (by kernel_rfl) (fun e => links_field_get_j1_ok R e) (den_join Pg R 1 (pre 2 (cd Try.f45 [])) (cd Try.f45 [1,1,0]) e (setN (kont Pg R Try.f45) (fun e => links_field_get_j1 R (e 5))) (fun e => links_field_get_j2 R (e 2) (e 3) (e 5)) _ (by kernel_rfl) (fun e => links_field_get_j2_ok R e) (by kernel_rfl)))
  h _
theorem links_field_get_calls {R : ER} {x0 x1 : Value} {w : World} (h : links_field_get R x0 x1 w) : Calls Pg 45 ⟨[x0, x1]⟩ w R :=
  calls_of_den Try.func45 (by kernel_rfl) (by kernel_rfl) (links_field_get_den R x0 x1) h
/-! ### 46: orpimentref35_get -/
def orpimentref35_get_j1 (R : ER) (x3 : Value) : WP :=
  R (.returned x3)
theorem orpimentref35_get_j1_ok (R : ER) (e : Env) : den Pg R (cd Try.f46 [1,1,1]) e (kont Pg R Try.f46) = (orpimentref35_get_j1 R (e 3)) := by kernel_rfl
def orpimentref35_get_j4 (R : ER) (k1 : Value → Value → Value → WP) (x0 x3 x4 : Value) : WP :=
  pv (bin .shl x3 (.int .u64 8)) fun v1 =>
  pv (ixS 1 x0 x4) fun v2 =>
  ld1 v2 fun v3 =>
  pv (cvI .u64 v3) fun v4 =>
  pv (bin .or v1 v4) fun v5 =>
  pv (bin .add x4 (.int .i64 1)) fun v6 =>
  k1 x0 v5 v6
theorem orpimentref35_get_j4_ok (R : ER) (k1 : Value → Value → Value → WP) (e : Env) : den Pg R (cd Try.f46 [1,1,0,1,0,0,1]) e (setN (inB 0 (setN (kont Pg R Try.f46) (fun e => orpimentref35_get_j1 R (e 3)))) (fun e => k1 (e 0) (e 3) (e 4))) = (orpimentref35_get_j4 R k1 (e 0) (e 3) (e 4)) := by kernel_rfl
def orpimentref35_get_b1 (R : ER) (k1 : Value → Value → Value → WP) (x0 x3 x4 : Value) : WP :=
  pv (lenS x0) fun v7 =>
  pv (bin .lss x4 v7) fun v8 =>
  cnd v8 (
   orpimentref35_get_j4 R k1 x0 x3 x4) (
   orpimentref35_get_j1 R x3)
theorem orpimentref35_get_b1_ok (R : ER) (k1 : Value → Value → Value → WP) (e : Env) : den Pg R (cd Try.f46 [1,1,0,1,0,0]) e (setN (inB 0 (setN (kont Pg R Try.f46) (fun e => orpimentref35_get_j1 R (e 3)))) (fun e => k1 (e 0) (e 3) (e 4))) = (orpimentref35_get_b1 R k1 (e 0) (e 3) (e 4)) := (den_join Pg R 0 (cd Try.f46 [1,1,0,1,0,0]) (cd Try.f46 [1,1,0,1,0,0,1]) e (setN (inB 0 (setN (kont Pg R Try.f46) (fun e => orpimentref35_get_j1 R (e 3)))) (fun e => k1 (e 0) (e 3) (e 4))) (fun e => orpimentref35_get_j4 R k1 (e 0) (e 3) (e 4)) _ (by kernel_rfl) (fun e => orpimentref35_get_j4_ok R k1 e) (by kernel_rfl))
noncomputable def orpimentref35_get_l1 (R : ER) (n : Nat) : Value → Value → Value → WP := Nat.rec (motive := fun _ => Value → Value → Value → WP) (fun _ _ _ => fun _ => False) (fun _ ih => fun x0 x3 x4 => orpimentref35_get_b1 R ih x0 x3 x4) n
theorem orpimentref35_get_l1_succ (R : ER) (n : Nat) (x0 x3 x4 : Value) : orpimentref35_get_l1 R (n + 1) x0 x3 x4 = orpimentref35_get_b1 R (orpimentref35_get_l1 R n) x0 x3 x4 := rfl
theorem orpimentref35_get_l1_ok (R : ER) : ∀ (n : Nat) (e : Env), iterL (den Pg R (cd Try.f46 [1,1,0,1,0,0])) n e (inB 0 (setN (kont Pg R Try.f46) (fun e => orpimentref35_get_j1 R (e 3)))) = orpimentref35_get_l1 R n (e 0) (e 3) (e 4) :=
  iterL_join (den Pg R (cd Try.f46 [1,1,0,1,0,0])) (inB 0 (setN (kont Pg R Try.f46) (fun e => orpimentref35_get_j1 R (e 3)))) (fun n e => orpimentref35_get_l1 R n (e 0) (e 3) (e 4)) (fun _ => rfl) (fun n e => (orpimentref35_get_b1_ok R (orpimentref35_get_l1 R n) e).trans (orpimentref35_get_l1_succ R n (e 0) (e 3) (e 4)).symm)
def orpimentref35_get_j3 (R : ER) (x0 x3 x4 : Value) : WP :=
  exN fun n => orpimentref35_get_l1 R n x0 x3 x4
theorem orpimentref35_get_j3_ok (R : ER) (e : Env) : den Pg R (cd Try.f46 [1,1,0,1]) e (setN (kont Pg R Try.f46) (fun e => orpimentref35_get_j1 R (e 3))) = (orpimentref35_get_j3 R (e 0) (e 3) (e 4)) := (den_block Pg R (cd Try.f46 [1,1,0,1]) 0 (cd Try.f46 [1,1,0,1,0]) e (setN (kont Pg R Try.f46) (fun e => orpimentref35_get_j1 R (e 3))) _ (by kernel_rfl) (den_loop Pg R (cd Try.f46 [1,1,0,1,0]) (cd Try.f46 [1,1,0,1,0,0]) e (inB 0 (setN (kont Pg R Try.f46) (fun e => orpimentref35_get_j1 R (e 3)))) (fun n e => orpimentref35_get_l1 R n (e 0) (e 3) (e 4)) _ (by kernel_rfl) (orpimentref35_get_l1_ok R) (by kernel_rfl)))
def orpimentref35_get_j2 (R : ER) (x0 x3 : Value) : WP :=
  orpimentref35_get_j3 R x0 x3 (.int .i64 0)
theorem orpimentref35_get_j2_ok (R : ER) (e : Env) : den Pg R (cd Try.f46 [1,1,0]) e (setN (kont Pg R Try.f46) (fun e => orpimentref35_get_j1 R (e 3))) = (orpimentref35_get_j2 R (e 0) (e 3)) := (den_join Pg R 0 (cd Try.f46 [1,1,0]) (cd Try.f46 [1,1,0,1]) e (setN (kont Pg R Try.f46) (fun e => orpimentref35_get_j1 R (e 3))) (fun e => orpimentref35_get_j3 R (e 0) (e 3) (e 4)) _ (by kernel_rfl) (fun e => orpimentref35_get_j3_ok R e) (by kernel_rfl))
def orpimentref35_get (R : ER) (x0 : Value) : WP :=
  orpimentref35_get_j2 R x0 (.int .u64 0)
theorem orpimentref35_get_den (R : ER) (x0 : Value) : den Pg R (cd Try.f46 []) (argsEnv [x0]) (kont Pg R Try.f46) = orpimentref35_get R x0 :=
  have h : ∀ e, den Pg R (cd Try.f46 []) e (kont Pg R Try.f46) = orpimentref35_get R (e 0) := fun e => (den_join Pg R 2 (cd Try.f46 []) (cd Try.f46 [1,1,1]) e (kont Pg R Try.f46) (fun e => orpimentref35_get_j1 R (e 3)) _ (by kernel_rfl) (fun e => orpimentref35_get_j1_ok R e) (den_join Pg R 1 (pre 2 (cd Try.f46 [])) (cd Try.f46 [1,1,0]) e (setN (kont Pg R Try.f46) (fun e => orpimentref35_get_j1 R (e 3))) (fun e => orpimentref35_get_j2 R (e 0) (e 3)) _ (by kernel_rfl) (fun e => orpimentref35_get_j2_ok R e) (by kernel_rfl)))
  h _
theorem orpimentref35_get_calls {R : ER} {x0 : Value} {w : World} (h : orpimentref35_get R x0 w) : Calls Pg 46 ⟨[x0]⟩ w R :=
  calls_of_den Try.func46 (by kernel_rfl) (by kernel_rfl) (orpimentref35_get_den R x0) h
/-! ### 47: links_Link_acknowledge -/
def links_Link_acknowledge_j2 (R : ER) (x0 x4 : Value) : WP :=
  pv (nilO x0) fun v1 =>
  pv (faO 5 v1) fun v2 =>
  ld1 v2 fun v3 =>
  pv (bin .add x4 (.int .i64 1)) fun v4 =>
  cal Pg R 64 ⟨[v3, (.int .i64 0), v4]⟩ fun v5 =>
  pv (nilO x0) fun v6 =>
  pv (faO 5 v6) fun v7 =>
  st1 v7 v5 fun _ =>
  pv (nilO x0) fun v8 =>
  pv (faO 8 v8) fun v9 =>
  st1 v9 (.int .i64 0) fun _ =>
  R (.returned (.tuple ⟨[]⟩))
theorem links_Link_acknowledge_j2_ok (R : ER) (e : Env) : den Pg R (cd Try.f47 [1,1,1,1]) e (kont Pg R Try.f47) = (links_Link_acknowledge_j2 R (e 0) (e 4)) := by kernel_rfl
def links_Link_acknowledge_j6 (R : ER) (k1 : Value → Value → Value → Value → Value → WP) (x0 x4 x32 x33 x34 : Value) : WP :=
  pv (bin .add x34 (.int .i64 1)) fun v10 =>
  k1 x0 x4 x32 x33 v10
theorem links_Link_acknowledge_j6_ok (R : ER) (k1 : Value → Value → Value → Value → Value → WP) (e : Env) : den Pg R (cd Try.f47 [1,1,1,0,1,0,0,1,1,1]) e (setN (inB 0 (setN (kont Pg R Try.f47) (fun e => links_Link_acknowledge_j2 R (e 0) (e 4)))) (fun e => k1 (e 0) (e 4) (e 32) (e 33) (e 34))) = (links_Link_acknowledge_j6 R k1 (e 0) (e 4) (e 32) (e 33) (e 34)) := by kernel_rfl
def links_Link_acknowledge_j7 (R : ER) (k1 : Value → Value → Value → Value → Value → WP) (x0 x4 x32 x33 x34 : Value) : WP :=
  pv (ixS 6 x32 x34) fun v11 =>
  ldN 6 v11 fun v12 =>
  al Pg 101 fun v13 =>
  stN 6 v13 v12 fun _ =>
  pv (faO 0 v13) fun v14 =>
  pv (faO 1 v14) fun v15 =>
  ld1 v15 fun v16 =>
  cnd v16 (
   pv (faO 0 v13) fun v17 =>
   pv (faO 2 v17) fun v18 =>
   ld1 v18 fun v19 =>
   pv (nilO x0) fun v20 =>
   pv (faO 7 v20) fun v21 =>
   st1 v21 v19 fun _ =>
   links_Link_acknowledge_j6 R k1 x0 x4 x32 x33 x34) (
   links_Link_acknowledge_j6 R k1 x0 x4 x32 x33 x34)
theorem links_Link_acknowledge_j7_ok (R : ER) (k1 : Value → Value → Value → Value → Value → WP) (e : Env) : den Pg R (cd Try.f47 [1,1,1,0,1,0,0,1,1,0]) e (setN (setN (inB 0 (setN (kont Pg R Try.f47) (fun e => links_Link_acknowledge_j2 R (e 0) (e 4)))) (fun e => k1 (e 0) (e 4) (e 32) (e 33) (e 34))) (fun e => links_Link_acknowledge_j6 R k1 (e 0) (e 4) (e 32) (e 33) (e 34))) = (links_Link_acknowledge_j7 R k1 (e 0) (e 4) (e 32) (e 33) (e 34)) := (den_block Pg R (cd Try.f47 [1,1,1,0,1,0,0,1,1,0]) 1 (cd Try.f47 [1,1,1,0,1,0,0,1,1,0,0]) e (setN (setN (inB 0 (setN (kont Pg R Try.f47) (fun e => links_Link_acknowledge_j2 R (e 0) (e 4)))) (fun e => k1 (e 0) (e 4) (e 32) (e 33) (e 34))) (fun e => links_Link_acknowledge_j6 R k1 (e 0) (e 4) (e 32) (e 33) (e 34))) _ (by kernel_rfl) (by kernel_rfl))
def links_Link_acknowledge_j5 (R : ER) (k1 : Value → Value → Value → Value → Value → WP) (x0 x4 x32 x33 x34 : Value) : WP :=
  links_Link_acknowledge_j7 R k1 x0 x4 x32 x33 x34
theorem links_Link_acknowledge_j5_ok (R : ER) (k1 : Value → Value → Value → Value → Value → WP) (e : Env) : den Pg R (cd Try.f47 [1,1,1,0,1,0,0,1,1]) e (setN (inB 0 (setN (kont Pg R Try.f47) (fun e => links_Link_acknowledge_j2 R (e 0) (e 4)))) (fun e => k1 (e 0) (e 4) (e 32) (e 33) (e 34))) = (links_Link_acknowledge_j5 R k1 (e 0) (e 4) (e 32) (e 33) (e 34)) := (den_join Pg R 0 (cd Try.f47 [1,1,1,0,1,0,0,1,1]) (cd Try.f47 [1,1,1,0,1,0,0,1,1,1]) e (setN (inB 0 (setN (kont Pg R Try.f47) (fun e => links_Link_acknowledge_j2 R (e 0) (e 4)))) (fun e => k1 (e 0) (e 4) (e 32) (e 33) (e 34))) (fun e => links_Link_acknowledge_j6 R k1 (e 0) (e 4) (e 32) (e 33) (e 34)) _ (by kernel_rfl) (fun e => links_Link_acknowledge_j6_ok R k1 e) (den_conv Pg R (pre 0 (cd Try.f47 [1,1,1,0,1,0,0,1,1])) (cd Try.f47 [1,1,1,0,1,0,0,1,1,0]) e (setN (setN (inB 0 (setN (kont Pg R Try.f47) (fun e => links_Link_acknowledge_j2 R (e 0) (e 4)))) (fun e => k1 (e 0) (e 4) (e 32) (e 33) (e 34))) (fun e => links_Link_acknowledge_j6 R k1 (e 0) (e 4) (e 32) (e 33) (e 34))) _ (by kernel_rfl) (links_Link_acknowledge_j7_ok R k1 e)))
def links_Link_acknowledge_b1 (R : ER) (k1 : Value → Value → Value → Value → Value → WP) (x0 x4 x32 x33 x34 : Value) : WP :=
  pv (bin .lss x34 x33) fun v22 =>
  cnd v22 (
   links_Link_acknowledge_j5 R k1 x0 x4 x32 x33 x34) (
   links_Link_acknowledge_j2 R x0 x4)
theorem links_Link_acknowledge_b1_ok (R : ER) (k1 : Value → Value → Value → Value → Value → WP) (e : Env) : den Pg R (cd Try.f47 [1,1,1,0,1,0,0]) e (setN (inB 0 (setN (kont Pg R Try.f47) (fun e => links_Link_acknowledge_j2 R (e 0) (e 4)))) (fun e => k1 (e 0) (e 4) (e 32) (e 33) (e 34))) = (links_Link_acknowledge_b1 R k1 (e 0) (e 4) (e 32) (e 33) (e 34)) := (den_join Pg R 1 (cd Try.f47 [1,1,1,0,1,0,0]) (cd Try.f47 [1,1,1,0,1,0,0,1,1]) e (setN (inB 0 (setN (kont Pg R Try.f47) (fun e => links_Link_acknowledge_j2 R (e 0) (e 4)))) (fun e => k1 (e 0) (e 4) (e 32) (e 33) (e 34))) (fun e => links_Link_acknowledge_j5 R k1 (e 0) (e 4) (e 32) (e 33) (e 34)) _ (by kernel_rfl) (fun e => links_Link_acknowledge_j5_ok R k1 e) (by kernel_rfl))
noncomputable def links_Link_acknowledge_l1 (R : ER) (n : Nat) : Value → Value → Value → Value → Value → WP := Nat.rec (motive := fun _ => Value → Value → Value → Value → Value → WP) (fun _ _ _ _ _ => fun _ => False) (fun _ ih => fun x0 x4 x32 x33 x34 => links_Link_acknowledge_b1 R ih x0 x4 x32 x33 x34) n
theorem links_Link_acknowledge_l1_succ (R : ER) (n : Nat) (x0 x4 x32 x33 x34 : Value) : links_Link_acknowledge_l1 R (n + 1) x0 x4 x32 x33 x34 = links_Link_acknowledge_b1 R (links_Link_acknowledge_l1 R n) x0 x4 x32 x33 x34 := rfl
theorem links_Link_acknowledge_l1_ok (R : ER) : ∀ (n : Nat) (e : Env), iterL (den Pg R (cd Try.f47 [1,1,1,0,1,0,0])) n e (inB 0 (setN (kont Pg R Try.f47) (fun e => links_Link_acknowledge_j2 R (e 0) (e 4)))) = links_Link_acknowledge_l1 R n (e 0) (e 4) (e 32) (e 33) (e 34) :=
  iterL_join (den Pg R (cd Try.f47 [1,1,1,0,1,0,0])) (inB 0 (setN (kont Pg R Try.f47) (fun e => links_Link_acknowledge_j2 R (e 0) (e 4)))) (fun n e => links_Link_acknowledge_l1 R n (e 0) (e 4) (e 32) (e 33) (e 34)) (fun _ => rfl) (fun n e => (links_Link_acknowledge_b1_ok R (links_Link_acknowledge_l1 R n) e).trans (links_Link_acknowledge_l1_succ R n (e 0) (e 4) (e 32) (e 33) (e 34)).symm)
def links_Link_acknowledge_j4 (R : ER) (x0 x4 x32 x33 x34 : Value) : WP :=
  exN fun n => links_Link_acknowledge_l1 R n x0 x4 x32 x33 x34
theorem links_Link_acknowledge_j4_ok (R : ER) (e : Env) : den Pg R (cd Try.f47 [1,1,1,0,1]) e (setN (kont Pg R Try.f47) (fun e => links_Link_acknowledge_j2 R (e 0) (e 4))) = (links_Link_acknowledge_j4 R (e 0) (e 4) (e 32) (e 33) (e 34)) := (den_block Pg R (cd Try.f47 [1,1,1,0,1]) 0 (cd Try.f47 [1,1,1,0,1,0]) e (setN (kont Pg R Try.f47) (fun e => links_Link_acknowledge_j2 R (e 0) (e 4))) _ (by kernel_rfl) (den_loop Pg R (cd Try.f47 [1,1,1,0,1,0]) (cd Try.f47 [1,1,1,0,1,0,0]) e (inB 0 (setN (kont Pg R Try.f47) (fun e => links_Link_acknowledge_j2 R (e 0) (e 4)))) (fun n e => links_Link_acknowledge_l1 R n (e 0) (e 4) (e 32) (e 33) (e 34)) _ (by kernel_rfl) (links_Link_acknowledge_l1_ok R) (by kernel_rfl)))
def links_Link_acknowledge_j3 (R : ER) (x0 x4 : Value) : WP :=
  pv (nilO x0) fun v23 =>
  pv (faO 5 v23) fun v24 =>
  ld1 v24 fun v25 =>
  pv (bin .add x4 (.int .i64 1)) fun v26 =>
  pv (slS 6 v25 none (some v26)) fun v27 =>
  pv (lenS v27) fun v28 =>
  links_Link_acknowledge_j4 R x0 x4 v27 v28 (.int .i64 0)
theorem links_Link_acknowledge_j3_ok (R : ER) (e : Env) : den Pg R (cd Try.f47 [1,1,1,0]) e (setN (kont Pg R Try.f47) (fun e => links_Link_acknowledge_j2 R (e 0) (e 4))) = (links_Link_acknowledge_j3 R (e 0) (e 4)) := (den_join Pg R 0 (cd Try.f47 [1,1,1,0]) (cd Try.f47 [1,1,1,0,1]) e (setN (kont Pg R Try.f47) (fun e => links_Link_acknowledge_j2 R (e 0) (e 4))) (fun e => links_Link_acknowledge_j4 R (e 0) (e 4) (e 32) (e 33) (e 34)) _ (by kernel_rfl) (fun e => links_Link_acknowledge_j4_ok R e) (by kernel_rfl))
def links_Link_acknowledge_j1 (R : ER) (x0 x4 : Value) : WP :=
  links_Link_acknowledge_j3 R x0 x4
theorem links_Link_acknowledge_j1_ok (R : ER) (e : Env) : den Pg R (cd Try.f47 [1,1,1]) e (kont Pg R Try.f47) = (links_Link_acknowledge_j1 R (e 0) (e 4)) := (den_join Pg R 0 (cd Try.f47 [1,1,1]) (cd Try.f47 [1,1,1,1]) e (kont Pg R Try.f47) (fun e => links_Link_acknowledge_j2 R (e 0) (e 4)) _ (by kernel_rfl) (fun e => links_Link_acknowledge_j2_ok R e) (den_conv Pg R (pre 0 (cd Try.f47 [1,1,1])) (cd Try.f47 [1,1,1,0]) e (setN (kont Pg R Try.f47) (fun e => links_Link_acknowledge_j2 R (e 0) (e 4))) _ (by kernel_rfl) (links_Link_acknowledge_j3_ok R e)))
def links_Link_acknowledge_j8 (R : ER) (x0 x4 : Value) : WP :=
  pv (bin .lss x4 (.int .i64 0)) fun v29 =>
  gd v29 false (pv (some x0)) fun v30 =>
  gd v29 false (pv (nilO v30)) fun v31 =>
  gd v29 false (pv (faO 5 v31)) fun v32 =>
  gd v29 false (ld1 v32) fun v33 =>
  gd v29 false (pv (some x4)) fun v34 =>
  gd v29 false (pv (ixS 6 v33 v34)) fun v35 =>
  gd v29 false (pv (faO 5 v35)) fun v36 =>
  gd v29 false (ld1 v36) fun v37 =>
  gd v29 false (pv (bin .lss v37 (.int .i64 0))) fun v38 =>
  pv (pickO v29 (.bool true) v38) fun v39 =>
  cnd v39 (
   R (.returned (.tuple ⟨[]⟩))) (
   links_Link_acknowledge_j1 R x0 x4)
theorem links_Link_acknowledge_j8_ok (R : ER) (e : Env) : den Pg R (cd Try.f47 [1,1,0]) e (setN (kont Pg R Try.f47) (fun e => links_Link_acknowledge_j1 R (e 0) (e 4))) = (links_Link_acknowledge_j8 R (e 0) (e 4)) := (by kernel_rfl)
def links_Link_acknowledge (R : ER) (x0 x1 : Value) : WP :=
  bx 48 x1 fun v40 =>
  pv (nilO x0) fun v41 =>
  pv (faO 5 v41) fun v42 =>
  ld1 v42 fun v43 =>
  cal Pg R 62 ⟨[v43, (.func (.func 63) ⟨[]⟩ ⟨[v40]⟩)]⟩ fun v44 =>
  links_Link_acknowledge_j8 R x0 v44
theorem links_Link_acknowledge_den (R : ER) (x0 x1 : Value) : den Pg R (cd Try.f47 []) (argsEnv [x0, x1]) (kont Pg R Try.f47) = links_Link_acknowledge R x0 x1 :=
  have h : ∀ e, den Pg R (cd Try.f47 []) e (kont Pg R Try.f47) = links_Link_acknowledge R (e 0) (e 1) := fun e => (den_join Pg R 2 (cd Try.f47 []) (cd Try.f47 [1,1,1]) e (kont Pg R Try.f47) (fun e => links_Link_acknowledge_j1 R (e 0) (e 4)) _ (by kernel_rfl) (fun e => links_Link_acknowledge_j1_ok R e) (den_join Pg R 1 (pre 2 (cd Try.f47 [])) (cd Try.f47 [1,1,0]) e (setN (kont Pg R Try.f47) (fun e => links_Link_acknowledge_j1 R (e 0) (e 4))) (fun e => links_Link_acknowledge_j8 R (e 0) (e 4)) _ (by kernel_rfl) (fun e => links_Link_acknowledge_j8_ok R e) (by kernel_rfl)))
  h _
theorem links_Link_acknowledge_calls {R : ER} {x0 x1 : Value} {w : World} (h : links_Link_acknowledge R x0 x1 w) : Calls Pg 47 ⟨[x0, x1]⟩ w R :=
  calls_of_den Try.func47 (by kernel_rfl) (by kernel_rfl) (links_Link_acknowledge_den R x0 x1) h
/-! ### 48: slices_Repeat -/
def slices_Repeat_j3 (R : ER) (x7 : Value) : WP :=
  R (.returned x7)
theorem slices_Repeat_j3_ok (R : ER) (e : Env) : den Pg R (cd Try.f48 [1,1,1,1,1,1,1]) e (kont Pg R Try.f48) = (slices_Repeat_j3 R (e 7)) := by kernel_rfl
def slices_Repeat_j5 (R : ER) (k1 : Value → Value → WP) (x7 x8 : Value) : WP :=
  drewV (
  pv (slS 1 x7 (some x8) none) fun v1 =>
  pv (slS 1 x7 none (some x8)) fun v2 =>
  mem fun w4 => blt Pg noR .copy ⟨[92,92]⟩ 3 ⟨[false, false]⟩ ⟨[v1, v2]⟩ fun v3 =>
  pv (bin .add x8 v3) fun v5 =>
  k1 x7 v5)
theorem slices_Repeat_j5_ok (R : ER) (k1 : Value → Value → WP) (e : Env) : den Pg R (cd Try.f48 [1,1,1,1,1,1,0,0,0,1]) e (setN (inB 0 (setN (kont Pg R Try.f48) (fun e => slices_Repeat_j3 R (e 7)))) (fun e => k1 (e 7) (e 8))) = (slices_Repeat_j5 R k1 (e 7) (e 8)) := by kernel_rfl
def slices_Repeat_b1 (R : ER) (k1 : Value → Value → WP) (x7 x8 : Value) : WP :=
  pv (lenS x7) fun v6 =>
  pv (bin .lss x8 v6) fun v7 =>
  cnd v7 (
   slices_Repeat_j5 R k1 x7 x8) (
   slices_Repeat_j3 R x7)
theorem slices_Repeat_b1_ok (R : ER) (k1 : Value → Value → WP) (e : Env) : den Pg R (cd Try.f48 [1,1,1,1,1,1,0,0,0]) e (setN (inB 0 (setN (kont Pg R Try.f48) (fun e => slices_Repeat_j3 R (e 7)))) (fun e => k1 (e 7) (e 8))) = (slices_Repeat_b1 R k1 (e 7) (e 8)) := (den_join Pg R 0 (cd Try.f48 [1,1,1,1,1,1,0,0,0]) (cd Try.f48 [1,1,1,1,1,1,0,0,0,1]) e (setN (inB 0 (setN (kont Pg R Try.f48) (fun e => slices_Repeat_j3 R (e 7)))) (fun e => k1 (e 7) (e 8))) (fun e => slices_Repeat_j5 R k1 (e 7) (e 8)) _ (by kernel_rfl) (fun e => slices_Repeat_j5_ok R k1 e) (by kernel_rfl))
noncomputable def slices_Repeat_l1 (R : ER) (n : Nat) : Value → Value → WP := Nat.rec (motive := fun _ => Value → Value → WP) (fun _ _ => fun _ => False) (fun _ ih => fun x7 x8 => slices_Repeat_b1 R ih x7 x8) n
theorem slices_Repeat_l1_succ (R : ER) (n : Nat) (x7 x8 : Value) : slices_Repeat_l1 R (n + 1) x7 x8 = slices_Repeat_b1 R (slices_Repeat_l1 R n) x7 x8 := rfl
theorem slices_Repeat_l1_ok (R : ER) : ∀ (n : Nat) (e : Env), iterL (den Pg R (cd Try.f48 [1,1,1,1,1,1,0,0,0])) n e (inB 0 (setN (kont Pg R Try.f48) (fun e => slices_Repeat_j3 R (e 7)))) = slices_Repeat_l1 R n (e 7) (e 8) :=
  iterL_join (den Pg R (cd Try.f48 [1,1,1,1,1,1,0,0,0])) (inB 0 (setN (kont Pg R Try.f48) (fun e => slices_Repeat_j3 R (e 7)))) (fun n e => slices_Repeat_l1 R n (e 7) (e 8)) (fun _ => rfl) (fun n e => (slices_Repeat_b1_ok R (slices_Repeat_l1 R n) e).trans (slices_Repeat_l1_succ R n (e 7) (e 8)).symm)
def slices_Repeat_j4 (R : ER) (x7 x8 : Value) : WP :=
  exN fun n => slices_Repeat_l1 R n x7 x8
theorem slices_Repeat_j4_ok (R : ER) (e : Env) : den Pg R (cd Try.f48 [1,1,1,1,1,1,0]) e (setN (kont Pg R Try.f48) (fun e => slices_Repeat_j3 R (e 7))) = (slices_Repeat_j4 R (e 7) (e 8)) := (den_block Pg R (cd Try.f48 [1,1,1,1,1,1,0]) 0 (cd Try.f48 [1,1,1,1,1,1,0,0]) e (setN (kont Pg R Try.f48) (fun e => slices_Repeat_j3 R (e 7))) _ (by kernel_rfl) (den_loop Pg R (cd Try.f48 [1,1,1,1,1,1,0,0]) (cd Try.f48 [1,1,1,1,1,1,0,0,0]) e (inB 0 (setN (kont Pg R Try.f48) (fun e => slices_Repeat_j3 R (e 7)))) (fun n e => slices_Repeat_l1 R n (e 7) (e 8)) _ (by kernel_rfl) (slices_Repeat_l1_ok R) (by kernel_rfl)))
def slices_Repeat_j2 (R : ER) (x0 x6 : Value) : WP :=
  pv (cvI .i64 x6) fun v8 =>
  valV Pg R (Instr.makeSlice 92 v8 v8) fun v9 =>
  blt Pg R .copy ⟨[92,92]⟩ 3 ⟨[false, false]⟩ ⟨[v9, x0]⟩ fun v10 =>
  slices_Repeat_j4 R v9 v10
theorem slices_Repeat_j2_ok (R : ER) (e : Env) : den Pg R (cd Try.f48 [1,1,1,1]) e (kont Pg R Try.f48) = (slices_Repeat_j2 R (e 0) (e 6)) := (den_join Pg R 2 (cd Try.f48 [1,1,1,1]) (cd Try.f48 [1,1,1,1,1,1,1]) e (kont Pg R Try.f48) (fun e => slices_Repeat_j3 R (e 7)) _ (by kernel_rfl) (fun e => slices_Repeat_j3_ok R e) (den_join Pg R 1 (pre 2 (cd Try.f48 [1,1,1,1])) (cd Try.f48 [1,1,1,1,1,1,0]) e (setN (kont Pg R Try.f48) (fun e => slices_Repeat_j3 R (e 7))) (fun e => slices_Repeat_j4 R (e 7) (e 8)) _ (by kernel_rfl) (fun e => slices_Repeat_j4_ok R e) (by kernel_rfl)))
def slices_Repeat_j1 (R : ER) (x0 x1 : Value) : WP :=
  pv (lenS x0) fun v11 =>
  pv (cvI .u64 v11) fun v12 =>
  pv (cvI .u64 x1) fun v13 =>
  cal Pg R 65 ⟨[v12, v13]⟩ fun v14 =>
  pv (extO 0 v14) fun v15 =>
  pv (extO 1 v14) fun v16 =>
  pv (bin .gtr v15 (.int .u64 0)) fun v17 =>
  gd v17 false (pv (some v16)) fun v18 =>
  gd v17 false (pv (bin .gtr v18 (.int .u64 9223372036854775807))) fun v19 =>
  pv (pickO v17 (.bool true) v19) fun v20 =>
  cnd v20 (
   valV Pg R (Instr.panic (.iface 9 (.string ⟨⟨[116,104,101,32,114,101,115,117,108,116,32,111,102,32,40,108,101,110,40,120,41,32,42,32,99,111,117,110,116,41,32,111,118,101,114,102,108,111,119,115]⟩⟩))) fun _ =>
   slices_Repeat_j2 R x0 v16) (
   slices_Repeat_j2 R x0 v16)
theorem slices_Repeat_j1_ok (R : ER) (e : Env) : den Pg R (cd Try.f48 [1,1]) e (kont Pg R Try.f48) = (slices_Repeat_j1 R (e 0) (e 1)) := (den_join Pg R 1 (cd Try.f48 [1,1]) (cd Try.f48 [1,1,1,1]) e (kont Pg R Try.f48) (fun e => slices_Repeat_j2 R (e 0) (e 6)) _ (by kernel_rfl) (fun e => slices_Repeat_j2_ok R e) (by kernel_rfl))
def slices_Repeat (R : ER) (x0 x1 : Value) : WP :=
  pv (bin .lss x1 (.int .i64 0)) fun v21 =>
  cnd v21 (
   valV Pg R (Instr.panic (.iface 9 (.string ⟨⟨[99,97,110,110,111,116,32,98,101,32,110,101,103,97,116,105,118,101]⟩⟩))) fun _ =>
   slices_Repeat_j1 R x0 x1) (
   slices_Repeat_j1 R x0 x1)
theorem slices_Repeat_den (R : ER) (x0 x1 : Value) : den Pg R (cd Try.f48 []) (argsEnv [x0, x1]) (kont Pg R Try.f48) = slices_Repeat R x0 x1 :=
  have h : ∀ e, den Pg R (cd Try.f48 []) e (kont Pg R Try.f48) = slices_Repeat R (e 0) (e 1) := fun e => (den_join Pg R 1 (cd Try.f48 []) (cd Try.f48 [1,1]) e (kont Pg R Try.f48) (fun e => slices_Repeat_j1 R (e 0) (e 1)) _ (by kernel_rfl) (fun e => slices_Repeat_j1_ok R e) (by kernel_rfl))
  h _
theorem slices_Repeat_calls {R : ER} {x0 x1 : Value} {w : World} (h : slices_Repeat R x0 x1 w) : Calls Pg 48 ⟨[x0, x1]⟩ w R :=
  calls_of_den Try.func48 (by kernel_rfl) (by kernel_rfl) (slices_Repeat_den R x0 x1) h
/-! ### 49: orpimentref35_Link_Set -/
def orpimentref35_Link_Set (R : ER) (x0 x1 x2 : Value) : WP :=
  pv (bin .lss x1 (.int .i64 0)) fun v1 =>
  gd v1 false (pv (some x1)) fun v2 =>
  gd v1 false (pv (some x0)) fun v3 =>
  gd v1 false (pv (nilO v3)) fun v4 =>
  gd v1 false (pv (faO 0 v4)) fun v5 =>
  gd v1 false (ld1 v5) fun v6 =>
  gd v1 false (pv (lenS v6)) fun v7 =>
  gd v1 false (pv (bin .geq v2 v7)) fun v8 =>
  pv (pickO v1 (.bool true) v8) fun v9 =>
  cnd v9 (
   R (.returned (.int .i64 3))) (
   pv (nilO x0) fun v10 =>
  pv (faO 0 v10) fun v11 =>
  ld1 v11 fun v12 =>
  pv (ixS 1 v12 x1) fun v13 =>
  st1 v13 x2 fun _ =>
  R (.returned (.int .i64 0)))
theorem orpimentref35_Link_Set_den (R : ER) (x0 x1 x2 : Value) : den Pg R (cd Try.f49 []) (argsEnv [x0, x1, x2]) (kont Pg R Try.f49) = orpimentref35_Link_Set R x0 x1 x2 :=
  have h : ∀ e, den Pg R (cd Try.f49 []) e (kont Pg R Try.f49) = orpimentref35_Link_Set R (e 0) (e 1) (e 2) := fun e => (by kernel_rfl)
  h _
theorem orpimentref35_Link_Set_calls {R : ER} {x0 x1 x2 : Value} {w : World} (h : orpimentref35_Link_Set R x0 x1 x2 w) : Calls Pg 49 ⟨[x0, x1, x2]⟩ w R :=
  calls_of_den Try.func49 (by kernel_rfl) (by kernel_rfl) (orpimentref35_Link_Set_den R x0 x1 x2) h
/-! ### 50: orpimentref35_Link_Send -/
def orpimentref35_Link_Send_j5 (R : ER) (x0 : Value) : WP :=
  pv (nilO x0) fun v1 =>
  pv (faO 6 v1) fun v2 =>
  ld1 v2 fun v3 =>
  R (.returned (.tuple ⟨[v3, (.int .i64 0)]⟩))
theorem orpimentref35_Link_Send_j5_ok (R : ER) (e : Env) : den Pg R (cd Try.f50 [1,1,1,1,1,1,1,1,1]) e (kont Pg R Try.f50) = (orpimentref35_Link_Send_j5 R (e 0)) := by kernel_rfl
def orpimentref35_Link_Send_j8 (R : ER) (k1 : Value → Value → Value → Value → WP) (x0 x1 x9 x10 : Value) : WP :=
  pv (bin .add x10 (.int .i64 1)) fun v4 =>
  pv (bin .mul v4 x9) fun v5 =>
  pv (lenS x1) fun v6 =>
  pv (min2I v5 v6) fun v7 =>
  drewV (
  pv (nilO x0) fun v8 =>
  pv (faO 5 v8) fun v9 =>
  ld1 v9 fun v10 =>
  pv (lenS x1) fun v11 =>
  pv (bin .eql v7 v11) fun v12 =>
  pv (nilO x0) fun v13 =>
  pv (faO 6 v13) fun v14 =>
  ld1 v14 fun v15 =>
  mem fun w17 => valV Pg noR (Instr.buildSlice 24 0 ⟨[]⟩) fun v16 =>
  rd1 v14 v15 <|
  rd1 v9 v10 <|
  pv (bin .mul x10 x9) fun v18 =>
  pv (slS 1 x1 (some v18) (some v7)) fun v19 =>
  mem fun w21 => blt Pg noR .append ⟨[24,24]⟩ 24 ⟨[false, false]⟩ ⟨[v16, v19]⟩ fun v20 =>
  rd1 v14 v15 <|
  rd1 v9 v10 <|
  pv (bldO [.int .i64 0, .bool false, .int .i64 0, .int .i64 0, .slice none 0 0] [(0,1, (.int .i64 1)), (1,1, v12), (2,1, v15), (3,1, x10), (4,1, v20)]) fun v22 =>
  pv (bldO [.int .i64 0, .bool false, .int .i64 0, .int .i64 0, .slice none 0 0, .int .i64 0] [(0,5, v22), (5,1, (.int .i64 (-1)))]) fun v23 =>
  mem fun w25 => valV Pg noR (Instr.buildSlice 122 1 ⟨[(0, v23)]⟩) fun v24 =>
  rd1 v9 v10 <|
  mem fun w27 => blt Pg noR .append ⟨[122,122]⟩ 122 ⟨[false, false]⟩ ⟨[v10, v24]⟩ fun v26 =>
  pv (nilO x0) fun v28 =>
  pv (faO 5 v28) fun v29 =>
  mem fun w31 => st1 v29 v26 fun v30 =>
  pv (bin .add x10 (.int .i64 1)) fun v32 =>
  k1 x0 x1 x9 v32)
theorem orpimentref35_Link_Send_j8_ok (R : ER) (k1 : Value → Value → Value → Value → WP) (e : Env) : den Pg R (cd Try.f50 [1,1,1,1,1,1,1,1,0,1,0,0,1]) e (setN (inB 0 (setN (kont Pg R Try.f50) (fun e => orpimentref35_Link_Send_j5 R (e 0)))) (fun e => k1 (e 0) (e 1) (e 9) (e 10))) = (orpimentref35_Link_Send_j8 R k1 (e 0) (e 1) (e 9) (e 10)) := by kernel_rfl
def orpimentref35_Link_Send_b1 (R : ER) (k1 : Value → Value → Value → Value → WP) (x0 x1 x9 x10 : Value) : WP :=
  pv (bin .eql x10 (.int .i64 0)) fun v33 =>
  gd v33 false (pv (some x10)) fun v34 =>
  gd v33 false (pv (some x9)) fun v35 =>
  gd v33 false (pv (bin .mul v34 v35)) fun v36 =>
  gd v33 false (pv (some x1)) fun v37 =>
  gd v33 false (pv (lenS v37)) fun v38 =>
  gd v33 false (pv (bin .lss v36 v38)) fun v39 =>
  pv (pickO v33 (.bool true) v39) fun v40 =>
  cnd v40 (
   orpimentref35_Link_Send_j8 R k1 x0 x1 x9 x10) (
   orpimentref35_Link_Send_j5 R x0)
theorem orpimentref35_Link_Send_b1_ok (R : ER) (k1 : Value → Value → Value → Value → WP) (e : Env) : den Pg R (cd Try.f50 [1,1,1,1,1,1,1,1,0,1,0,0]) e (setN (inB 0 (setN (kont Pg R Try.f50) (fun e => orpimentref35_Link_Send_j5 R (e 0)))) (fun e => k1 (e 0) (e 1) (e 9) (e 10))) = (orpimentref35_Link_Send_b1 R k1 (e 0) (e 1) (e 9) (e 10)) := (den_join Pg R 0 (cd Try.f50 [1,1,1,1,1,1,1,1,0,1,0,0]) (cd Try.f50 [1,1,1,1,1,1,1,1,0,1,0,0,1]) e (setN (inB 0 (setN (kont Pg R Try.f50) (fun e => orpimentref35_Link_Send_j5 R (e 0)))) (fun e => k1 (e 0) (e 1) (e 9) (e 10))) (fun e => orpimentref35_Link_Send_j8 R k1 (e 0) (e 1) (e 9) (e 10)) _ (by kernel_rfl) (fun e => orpimentref35_Link_Send_j8_ok R k1 e) (by kernel_rfl))
noncomputable def orpimentref35_Link_Send_l1 (R : ER) (n : Nat) : Value → Value → Value → Value → WP := Nat.rec (motive := fun _ => Value → Value → Value → Value → WP) (fun _ _ _ _ => fun _ => False) (fun _ ih => fun x0 x1 x9 x10 => orpimentref35_Link_Send_b1 R ih x0 x1 x9 x10) n
theorem orpimentref35_Link_Send_l1_succ (R : ER) (n : Nat) (x0 x1 x9 x10 : Value) : orpimentref35_Link_Send_l1 R (n + 1) x0 x1 x9 x10 = orpimentref35_Link_Send_b1 R (orpimentref35_Link_Send_l1 R n) x0 x1 x9 x10 := rfl
theorem orpimentref35_Link_Send_l1_ok (R : ER) : ∀ (n : Nat) (e : Env), iterL (den Pg R (cd Try.f50 [1,1,1,1,1,1,1,1,0,1,0,0])) n e (inB 0 (setN (kont Pg R Try.f50) (fun e => orpimentref35_Link_Send_j5 R (e 0)))) = orpimentref35_Link_Send_l1 R n (e 0) (e 1) (e 9) (e 10) :=
  iterL_join (den Pg R (cd Try.f50 [1,1,1,1,1,1,1,1,0,1,0,0])) (inB 0 (setN (kont Pg R Try.f50) (fun e => orpimentref35_Link_Send_j5 R (e 0)))) (fun n e => orpimentref35_Link_Send_l1 R n (e 0) (e 1) (e 9) (e 10)) (fun _ => rfl) (fun n e => (orpimentref35_Link_Send_b1_ok R (orpimentref35_Link_Send_l1 R n) e).trans (orpimentref35_Link_Send_l1_succ R n (e 0) (e 1) (e 9) (e 10)).symm)
def orpimentref35_Link_Send_j7 (R : ER) (x0 x1 x9 x10 : Value) : WP :=
  exN fun n => orpimentref35_Link_Send_l1 R n x0 x1 x9 x10
theorem orpimentref35_Link_Send_j7_ok (R : ER) (e : Env) : den Pg R (cd Try.f50 [1,1,1,1,1,1,1,1,0,1]) e (setN (kont Pg R Try.f50) (fun e => orpimentref35_Link_Send_j5 R (e 0))) = (orpimentref35_Link_Send_j7 R (e 0) (e 1) (e 9) (e 10)) := (den_block Pg R (cd Try.f50 [1,1,1,1,1,1,1,1,0,1]) 0 (cd Try.f50 [1,1,1,1,1,1,1,1,0,1,0]) e (setN (kont Pg R Try.f50) (fun e => orpimentref35_Link_Send_j5 R (e 0))) _ (by kernel_rfl) (den_loop Pg R (cd Try.f50 [1,1,1,1,1,1,1,1,0,1,0]) (cd Try.f50 [1,1,1,1,1,1,1,1,0,1,0,0]) e (inB 0 (setN (kont Pg R Try.f50) (fun e => orpimentref35_Link_Send_j5 R (e 0)))) (fun n e => orpimentref35_Link_Send_l1 R n (e 0) (e 1) (e 9) (e 10)) _ (by kernel_rfl) (orpimentref35_Link_Send_l1_ok R) (by kernel_rfl)))
def orpimentref35_Link_Send_j6 (R : ER) (x0 x1 x9 : Value) : WP :=
  orpimentref35_Link_Send_j7 R x0 x1 x9 (.int .i64 0)
theorem orpimentref35_Link_Send_j6_ok (R : ER) (e : Env) : den Pg R (cd Try.f50 [1,1,1,1,1,1,1,1,0]) e (setN (kont Pg R Try.f50) (fun e => orpimentref35_Link_Send_j5 R (e 0))) = (orpimentref35_Link_Send_j6 R (e 0) (e 1) (e 9)) := (den_join Pg R 0 (cd Try.f50 [1,1,1,1,1,1,1,1,0]) (cd Try.f50 [1,1,1,1,1,1,1,1,0,1]) e (setN (kont Pg R Try.f50) (fun e => orpimentref35_Link_Send_j5 R (e 0))) (fun e => orpimentref35_Link_Send_j7 R (e 0) (e 1) (e 9) (e 10)) _ (by kernel_rfl) (fun e => orpimentref35_Link_Send_j7_ok R e) (by kernel_rfl))
def orpimentref35_Link_Send_j4 (R : ER) (x0 x1 x2 : Value) : WP :=
  pv (nilO x0) fun v41 =>
  pv (faO 4 v41) fun v42 =>
  st1 v42 x2 fun _ =>
  pv (nilO x0) fun v43 =>
  pv (faO 6 v43) fun v44 =>
  ld1 v44 fun v45 =>
  pv (bin .add v45 (.int .i64 1)) fun v46 =>
  pv (nilO x0) fun v47 =>
  pv (faO 6 v47) fun v48 =>
  st1 v48 v46 fun _ =>
  pv (nilO x0) fun v49 =>
  pv (faO 1 v49) fun v50 =>
  ld1 v50 fun v51 =>
  pv (bin .sub v51 (.int .i64 24)) fun v52 =>
  orpimentref35_Link_Send_j6 R x0 x1 v52
theorem orpimentref35_Link_Send_j4_ok (R : ER) (e : Env) : den Pg R (cd Try.f50 [1,1,1,1,1]) e (kont Pg R Try.f50) = (orpimentref35_Link_Send_j4 R (e 0) (e 1) (e 2)) := (den_join Pg R 3 (cd Try.f50 [1,1,1,1,1]) (cd Try.f50 [1,1,1,1,1,1,1,1,1]) e (kont Pg R Try.f50) (fun e => orpimentref35_Link_Send_j5 R (e 0)) _ (by kernel_rfl) (fun e => orpimentref35_Link_Send_j5_ok R e) (den_join Pg R 2 (pre 3 (cd Try.f50 [1,1,1,1,1])) (cd Try.f50 [1,1,1,1,1,1,1,1,0]) e (setN (kont Pg R Try.f50) (fun e => orpimentref35_Link_Send_j5 R (e 0))) (fun e => orpimentref35_Link_Send_j6 R (e 0) (e 1) (e 9)) _ (by kernel_rfl) (fun e => orpimentref35_Link_Send_j6_ok R e) (by kernel_rfl)))
def orpimentref35_Link_Send_j3 (R : ER) (x0 x1 x2 : Value) : WP :=
  pv (nilO x0) fun v53 =>
  pv (faO 6 v53) fun v54 =>
  ld1 v54 fun v55 =>
  pv (bin .geq v55 (.int .i64 1099511627776)) fun v56 =>
  cnd v56 (
   R (.returned (.tuple ⟨[(.int .i64 0), (.int .i64 18)]⟩))) (
   orpimentref35_Link_Send_j4 R x0 x1 x2)
theorem orpimentref35_Link_Send_j3_ok (R : ER) (e : Env) : den Pg R (cd Try.f50 [1,1,1,1]) e (kont Pg R Try.f50) = (orpimentref35_Link_Send_j3 R (e 0) (e 1) (e 2)) := (den_join Pg R 0 (cd Try.f50 [1,1,1,1]) (cd Try.f50 [1,1,1,1,1]) e (kont Pg R Try.f50) (fun e => orpimentref35_Link_Send_j4 R (e 0) (e 1) (e 2)) _ (by kernel_rfl) (fun e => orpimentref35_Link_Send_j4_ok R e) (by kernel_rfl))
def orpimentref35_Link_Send_j2 (R : ER) (x0 x1 x2 : Value) : WP :=
  drewV (
  pv (nilO x0) fun v57 =>
  pv (faO 6 v57) fun v58 =>
  ld1 v58 fun v59 =>
  pv (nilO x0) fun v60 =>
  pv (faO 7 v60) fun v61 =>
  ld1 v61 fun v62 =>
  pv (bin .sub v59 v62) fun v63 =>
  pv (bin .geq v63 (.int .i64 64)) fun v64 =>
  cnd v64 (
   R (.returned (.tuple ⟨[(.int .i64 0), (.int .i64 2)]⟩))) (
   orpimentref35_Link_Send_j3 R x0 x1 x2))
theorem orpimentref35_Link_Send_j2_ok (R : ER) (e : Env) : den Pg R (cd Try.f50 [1,1,1]) e (kont Pg R Try.f50) = (orpimentref35_Link_Send_j2 R (e 0) (e 1) (e 2)) := (den_join Pg R 0 (cd Try.f50 [1,1,1]) (cd Try.f50 [1,1,1,1]) e (kont Pg R Try.f50) (fun e => orpimentref35_Link_Send_j3 R (e 0) (e 1) (e 2)) _ (by kernel_rfl) (fun e => orpimentref35_Link_Send_j3_ok R e) (by kernel_rfl))
def orpimentref35_Link_Send_j1 (R : ER) (x0 x1 x2 : Value) : WP :=
  cal Pg R 66 ⟨[x0, x2]⟩ fun v65 =>
  pv (bin .neq v65 (.int .i64 0)) fun v66 =>
  cnd v66 (
   R (.returned (.tuple ⟨[(.int .i64 0), v65]⟩))) (
   orpimentref35_Link_Send_j2 R x0 x1 x2)
theorem orpimentref35_Link_Send_j1_ok (R : ER) (e : Env) : den Pg R (cd Try.f50 [1,1]) e (kont Pg R Try.f50) = (orpimentref35_Link_Send_j1 R (e 0) (e 1) (e 2)) := (den_join Pg R 0 (cd Try.f50 [1,1]) (cd Try.f50 [1,1,1]) e (kont Pg R Try.f50) (fun e => orpimentref35_Link_Send_j2 R (e 0) (e 1) (e 2)) _ (by kernel_rfl) (fun e => orpimentref35_Link_Send_j2_ok R e) (by kernel_rfl))
def orpimentref35_Link_Send (R : ER) (x0 x1 x2 : Value) : WP :=
  pv (lenS x1) fun v67 =>
  pv (bin .gtr v67 (.int .i64 4096)) fun v68 =>
  cnd v68 (
   R (.returned (.tuple ⟨[(.int .i64 0), (.int .i64 20)]⟩))) (
   orpimentref35_Link_Send_j1 R x0 x1 x2)
theorem orpimentref35_Link_Send_den (R : ER) (x0 x1 x2 : Value) : den Pg R (cd Try.f50 []) (argsEnv [x0, x1, x2]) (kont Pg R Try.f50) = orpimentref35_Link_Send R x0 x1 x2 :=
  have h : ∀ e, den Pg R (cd Try.f50 []) e (kont Pg R Try.f50) = orpimentref35_Link_Send R (e 0) (e 1) (e 2) := fun e => (den_join Pg R 1 (cd Try.f50 []) (cd Try.f50 [1,1]) e (kont Pg R Try.f50) (fun e => orpimentref35_Link_Send_j1 R (e 0) (e 1) (e 2)) _ (by kernel_rfl) (fun e => orpimentref35_Link_Send_j1_ok R e) (by kernel_rfl))
  h _
theorem orpimentref35_Link_Send_calls {R : ER} {x0 x1 x2 : Value} {w : World} (h : orpimentref35_Link_Send R x0 x1 x2 w) : Calls Pg 50 ⟨[x0, x1, x2]⟩ w R :=
  calls_of_den Try.func50 (by kernel_rfl) (by kernel_rfl) (orpimentref35_Link_Send_den R x0 x1 x2) h
/-! ### 51: orpimentref35_Link_Input -/
def orpimentref35_Link_Input_j5 (R : ER) (x0 x1 x13 : Value) : WP :=
  drewV (
  pv (nilO x0) fun v1 =>
  pv (faO 14 v1) fun v2 =>
  ld1 v2 fun v3 =>
  pv (nilO x0) fun v4 =>
  pv (faO 11 v4) fun v5 =>
  ld1 v5 fun v6 =>
  pv (nilO x0) fun v7 =>
  pv (faO 12 v7) fun v8 =>
  ld1 v8 fun v9 =>
  pv (bldO [.int .i64 0, .bool false, .int .i64 0, .int .i64 0, .slice none 0 0] [(0,1, (.int .i64 2)), (2,1, v6), (3,1, v9)]) fun v10 =>
  pv (bldO [.int .i64 0, .int .i64 0, .bool false, .int .i64 0, .int .i64 0, .slice none 0 0] [(0,1, x1), (1,5, v10)]) fun v11 =>
  mem fun w13 => valV Pg noR (Instr.buildSlice 123 1 ⟨[(0, v11)]⟩) fun v12 =>
  rd1 v2 v3 <|
  mem fun w15 => blt Pg noR .append ⟨[123,123]⟩ 123 ⟨[false, false]⟩ ⟨[v3, v12]⟩ fun v14 =>
  pv (nilO x0) fun v16 =>
  pv (faO 14 v16) fun v17 =>
  mem fun w19 => st1 v17 v14 fun v18 =>
  R (.returned (.tuple ⟨[x13, (.int .i64 0)]⟩)))
theorem orpimentref35_Link_Input_j5_ok (R : ER) (e : Env) : den Pg R (cd Try.f51 [1,1,1,1,1,1,1,1,1]) e (kont Pg R Try.f51) = (orpimentref35_Link_Input_j5 R (e 0) (e 1) (e 13)) := by kernel_rfl
def orpimentref35_Link_Input_j10 (R : ER) (x0 x1 x13 : Value) : WP :=
  pv (nilO x0) fun v20 =>
  pv (faO 13 v20) fun v21 =>
  ld1 v21 fun v22 =>
  valV Pg R (Instr.buildSlice 36 1 ⟨[(0, v22)]⟩) fun v23 =>
  blt Pg R .append ⟨[36,36]⟩ 36 ⟨[false, false]⟩ ⟨[x13, v23]⟩ fun v24 =>
  pv (nilO x0) fun v25 =>
  pv (faO 11 v25) fun v26 =>
  ld1 v26 fun v27 =>
  pv (bin .add v27 (.int .i64 1)) fun v28 =>
  pv (nilO x0) fun v29 =>
  pv (faO 11 v29) fun v30 =>
  st1 v30 v28 fun _ =>
  pv (nilO x0) fun v31 =>
  pv (faO 12 v31) fun v32 =>
  st1 v32 (.int .i64 0) fun _ =>
  pv (nilO x0) fun v33 =>
  pv (faO 13 v33) fun v34 =>
  st1 v34 (.slice none 0 0) fun _ =>
  orpimentref35_Link_Input_j5 R x0 x1 v24
theorem orpimentref35_Link_Input_j10_ok (R : ER) (e : Env) : den Pg R (cd Try.f51 [1,1,1,1,1,1,1,1,0,1,0,1,1,1,0]) e (setN (kont Pg R Try.f51) (fun e => orpimentref35_Link_Input_j5 R (e 0) (e 1) (e 13))) = (orpimentref35_Link_Input_j10 R (e 0) (e 1) (e 13)) := by kernel_rfl
def orpimentref35_Link_Input_j9 (R : ER) (x0 x1 x13 x99 : Value) : WP :=
  cnd x99 (orpimentref35_Link_Input_j10 R x0 x1 x13) (orpimentref35_Link_Input_j5 R x0 x1 x13)
theorem orpimentref35_Link_Input_j9_ok (R : ER) (e : Env) : den Pg R (cd Try.f51 [1,1,1,1,1,1,1,1,0,1,0,1,1,1]) e (setN (kont Pg R Try.f51) (fun e => orpimentref35_Link_Input_j5 R (e 0) (e 1) (e 13))) = (orpimentref35_Link_Input_j9 R (e 0) (e 1) (e 13) (e 99)) := (den_if Pg R (cd Try.f51 [1,1,1,1,1,1,1,1,0,1,0,1,1,1]) (cd Try.f51 [1,1,1,1,1,1,1,1,0,1,0,1,1,1,0]) (cd Try.f51 [1,1,1,1,1,1,1,1,0,1,0,1,1,1,1]) e (setN (kont Pg R Try.f51) (fun e => orpimentref35_Link_Input_j5 R (e 0) (e 1) (e 13))) (orpimentref35_Link_Input_j10 R (e 0) (e 1) (e 13)) _ _ (by kernel_rfl) (orpimentref35_Link_Input_j10_ok R e) rfl (by kernel_rfl))
def orpimentref35_Link_Input_j8 (R : ER) (x0 x1 x11 x13 : Value) : WP :=
  drewV (
  mem fun w36 => valV Pg noR (Instr.buildSlice 24 0 ⟨[]⟩) fun v35 =>
  pv (nilO x0) fun v37 =>
  pv (faO 13 v37) fun v38 =>
  ld1S [w36] v38 fun v39 =>
  mem fun w41 => blt Pg noR .append ⟨[24,24]⟩ 24 ⟨[false, false]⟩ ⟨[v35, v39]⟩ fun v40 =>
  pv (faO 4 x11) fun v42 =>
  ld1S [w41, w36] v42 fun v43 =>
  mem fun w45 => blt Pg noR .append ⟨[24,24]⟩ 24 ⟨[false, false]⟩ ⟨[v40, v43]⟩ fun v44 =>
  pv (nilO x0) fun v46 =>
  pv (faO 13 v46) fun v47 =>
  mem fun w49 => st1 v47 v44 fun v48 =>
  pv (nilO x0) fun v50 =>
  pv (faO 12 v50) fun v51 =>
  ld1 v51 fun v52 =>
  pv (bin .add v52 (.int .i64 1)) fun v53 =>
  pv (nilO x0) fun v54 =>
  pv (faO 12 v54) fun v55 =>
  st1 v55 v53 fun _ =>
  pv (faO 1 x11) fun v56 =>
  ld1 v56 fun v57 =>
  orpimentref35_Link_Input_j9 R x0 x1 x13 v57)
theorem orpimentref35_Link_Input_j8_ok (R : ER) (e : Env) : den Pg R (cd Try.f51 [1,1,1,1,1,1,1,1,0,1,0]) e (setN (kont Pg R Try.f51) (fun e => orpimentref35_Link_Input_j5 R (e 0) (e 1) (e 13))) = (orpimentref35_Link_Input_j8 R (e 0) (e 1) (e 11) (e 13)) := (den_join Pg R 2 (cd Try.f51 [1,1,1,1,1,1,1,1,0,1,0]) (cd Try.f51 [1,1,1,1,1,1,1,1,0,1,0,1,1,1]) e (setN (kont Pg R Try.f51) (fun e => orpimentref35_Link_Input_j5 R (e 0) (e 1) (e 13))) (fun e => orpimentref35_Link_Input_j9 R (e 0) (e 1) (e 13) (e 99)) _ (by kernel_rfl) (fun e => orpimentref35_Link_Input_j9_ok R e) (by kernel_rfl))
def orpimentref35_Link_Input_j7 (R : ER) (x0 x1 x11 x13 x78 : Value) : WP :=
  cnd x78 (orpimentref35_Link_Input_j8 R x0 x1 x11 x13) (orpimentref35_Link_Input_j5 R x0 x1 x13)
theorem orpimentref35_Link_Input_j7_ok (R : ER) (e : Env) : den Pg R (cd Try.f51 [1,1,1,1,1,1,1,1,0,1]) e (setN (kont Pg R Try.f51) (fun e => orpimentref35_Link_Input_j5 R (e 0) (e 1) (e 13))) = (orpimentref35_Link_Input_j7 R (e 0) (e 1) (e 11) (e 13) (e 78)) := (den_if Pg R (cd Try.f51 [1,1,1,1,1,1,1,1,0,1]) (cd Try.f51 [1,1,1,1,1,1,1,1,0,1,0]) (cd Try.f51 [1,1,1,1,1,1,1,1,0,1,1]) e (setN (kont Pg R Try.f51) (fun e => orpimentref35_Link_Input_j5 R (e 0) (e 1) (e 13))) (orpimentref35_Link_Input_j8 R (e 0) (e 1) (e 11) (e 13)) _ _ (by kernel_rfl) (orpimentref35_Link_Input_j8_ok R e) rfl (by kernel_rfl))
def orpimentref35_Link_Input_j6 (R : ER) (x0 x1 x11 x13 : Value) : WP :=
  drewV (
  pv (faO 2 x11) fun v58 =>
  ld1 v58 fun v59 =>
  pv (nilO x0) fun v60 =>
  pv (faO 11 v60) fun v61 =>
  ld1 v61 fun v62 =>
  pv (bin .eql v59 v62) fun v63 =>
  gd v63 true (pv (faO 3 x11)) fun v64 =>
  gd v63 true (ld1 v64) fun v65 =>
  gd v63 true (pv (some x0)) fun v66 =>
  gd v63 true (pv (nilO v66)) fun v67 =>
  gd v63 true (pv (faO 12 v67)) fun v68 =>
  gd v63 true (ld1 v68) fun v69 =>
  gd v63 true (pv (bin .eql v65 v69)) fun v70 =>
  pv (pickO v63 v70 (.bool false)) fun v71 =>
  gd v71 true (pv (some x0)) fun v72 =>
  gd v71 true (pv (nilO v72)) fun v73 =>
  gd v71 true (pv (faO 13 v73)) fun v74 =>
  gd v71 true (ld1 v74) fun v75 =>
  gd v71 true (pv (lenS v75)) fun v76 =>
  gd v71 true (pv (faO 4 x11)) fun v77 =>
  gd v71 true (ld1 v77) fun v78 =>
  gd v71 true (pv (lenS v78)) fun v79 =>
  gd v71 true (pv (bin .add v76 v79)) fun v80 =>
  gd v71 true (pv (bin .leq v80 (.int .i64 4096))) fun v81 =>
  pv (pickO v71 v81 (.bool false)) fun v82 =>
  orpimentref35_Link_Input_j7 R x0 x1 x11 x13 v82)
theorem orpimentref35_Link_Input_j6_ok (R : ER) (e : Env) : den Pg R (cd Try.f51 [1,1,1,1,1,1,1,1,0]) e (setN (kont Pg R Try.f51) (fun e => orpimentref35_Link_Input_j5 R (e 0) (e 1) (e 13))) = (orpimentref35_Link_Input_j6 R (e 0) (e 1) (e 11) (e 13)) := (den_join Pg R 0 (cd Try.f51 [1,1,1,1,1,1,1,1,0]) (cd Try.f51 [1,1,1,1,1,1,1,1,0,1]) e (setN (kont Pg R Try.f51) (fun e => orpimentref35_Link_Input_j5 R (e 0) (e 1) (e 13))) (fun e => orpimentref35_Link_Input_j7 R (e 0) (e 1) (e 11) (e 13) (e 78)) _ (by kernel_rfl) (fun e => orpimentref35_Link_Input_j7_ok R e) (by kernel_rfl))
def orpimentref35_Link_Input_j4 (R : ER) (x0 x1 x11 : Value) : WP :=
  valV Pg R (Instr.buildSlice 36 0 ⟨[]⟩) fun v83 =>
  orpimentref35_Link_Input_j6 R x0 x1 x11 v83
theorem orpimentref35_Link_Input_j4_ok (R : ER) (e : Env) : den Pg R (cd Try.f51 [1,1,1,1,1,1,1]) e (kont Pg R Try.f51) = (orpimentref35_Link_Input_j4 R (e 0) (e 1) (e 11)) := (den_join Pg R 1 (cd Try.f51 [1,1,1,1,1,1,1]) (cd Try.f51 [1,1,1,1,1,1,1,1,1]) e (kont Pg R Try.f51) (fun e => orpimentref35_Link_Input_j5 R (e 0) (e 1) (e 13)) _ (by kernel_rfl) (fun e => orpimentref35_Link_Input_j5_ok R e) (den_join Pg R 0 (pre 1 (cd Try.f51 [1,1,1,1,1,1,1])) (cd Try.f51 [1,1,1,1,1,1,1,1,0]) e (setN (kont Pg R Try.f51) (fun e => orpimentref35_Link_Input_j5 R (e 0) (e 1) (e 13))) (fun e => orpimentref35_Link_Input_j6 R (e 0) (e 1) (e 11) (e 13)) _ (by kernel_rfl) (fun e => orpimentref35_Link_Input_j6_ok R e) (by kernel_rfl)))
def orpimentref35_Link_Input_j3 (R : ER) (x0 x1 x3 x11 : Value) : WP :=
  pv (nilO x0) fun v84 =>
  pv (faO 4 v84) fun v85 =>
  st1 v85 x3 fun _ =>
  pv (faO 0 x11) fun v86 =>
  ld1 v86 fun v87 =>
  pv (bin .eql v87 (.int .i64 2)) fun v88 =>
  cnd v88 (
   ldN 5 x11 fun v89 =>
   cal Pg R 67 ⟨[x0, v89]⟩ fun v90 =>
   valV Pg R (Instr.buildSlice 36 0 ⟨[]⟩) fun v91 =>
   R (.returned (.tuple ⟨[v91, (.int .i64 0)]⟩))) (
   orpimentref35_Link_Input_j4 R x0 x1 x11)
theorem orpimentref35_Link_Input_j3_ok (R : ER) (e : Env) : den Pg R (cd Try.f51 [1,1,1,1,1]) e (kont Pg R Try.f51) = (orpimentref35_Link_Input_j3 R (e 0) (e 1) (e 3) (e 11)) := (den_join Pg R 1 (cd Try.f51 [1,1,1,1,1]) (cd Try.f51 [1,1,1,1,1,1,1]) e (kont Pg R Try.f51) (fun e => orpimentref35_Link_Input_j4 R (e 0) (e 1) (e 11)) _ (by kernel_rfl) (fun e => orpimentref35_Link_Input_j4_ok R e) (by kernel_rfl))
def orpimentref35_Link_Input_j2 (R : ER) (x0 x1 x2 x3 : Value) : WP :=
  cal Pg R 22 ⟨[x2]⟩ fun v92 =>
  pv (extO 0 v92) fun v93 =>
  pv (extO 1 v92) fun v94 =>
  al Pg 52 fun v95 =>
  stN 5 v95 v93 fun _ =>
  pv (bin .neq v94 (.int .i64 0)) fun v96 =>
  cnd v96 (
   R (.returned (.tuple ⟨[(.slice none 0 0), v94]⟩))) (
   orpimentref35_Link_Input_j3 R x0 x1 x3 v95)
theorem orpimentref35_Link_Input_j2_ok (R : ER) (e : Env) : den Pg R (cd Try.f51 [1,1,1]) e (kont Pg R Try.f51) = (orpimentref35_Link_Input_j2 R (e 0) (e 1) (e 2) (e 3)) := (den_join Pg R 1 (cd Try.f51 [1,1,1]) (cd Try.f51 [1,1,1,1,1]) e (kont Pg R Try.f51) (fun e => orpimentref35_Link_Input_j3 R (e 0) (e 1) (e 3) (e 11)) _ (by kernel_rfl) (fun e => orpimentref35_Link_Input_j3_ok R e) (by kernel_rfl))
def orpimentref35_Link_Input_j1 (R : ER) (x0 x1 x2 x3 : Value) : WP :=
  cal Pg R 66 ⟨[x0, x3]⟩ fun v97 =>
  pv (bin .neq v97 (.int .i64 0)) fun v98 =>
  cnd v98 (
   R (.returned (.tuple ⟨[(.slice none 0 0), v97]⟩))) (
   orpimentref35_Link_Input_j2 R x0 x1 x2 x3)
theorem orpimentref35_Link_Input_j1_ok (R : ER) (e : Env) : den Pg R (cd Try.f51 [1,1]) e (kont Pg R Try.f51) = (orpimentref35_Link_Input_j1 R (e 0) (e 1) (e 2) (e 3)) := (den_join Pg R 0 (cd Try.f51 [1,1]) (cd Try.f51 [1,1,1]) e (kont Pg R Try.f51) (fun e => orpimentref35_Link_Input_j2 R (e 0) (e 1) (e 2) (e 3)) _ (by kernel_rfl) (fun e => orpimentref35_Link_Input_j2_ok R e) (by kernel_rfl))
def orpimentref35_Link_Input_j11 (R : ER) (x0 x1 x2 x3 : Value) : WP :=
  pv (bin .lss x1 (.int .i64 0)) fun v99 =>
  gd v99 false (pv (some x1)) fun v100 =>
  gd v99 false (pv (some x0)) fun v101 =>
  gd v99 false (pv (nilO v101)) fun v102 =>
  gd v99 false (pv (faO 0 v102)) fun v103 =>
  gd v99 false (ld1 v103) fun v104 =>
  gd v99 false (pv (lenS v104)) fun v105 =>
  gd v99 false (pv (bin .geq v100 v105)) fun v106 =>
  pv (pickO v99 (.bool true) v106) fun v107 =>
  cnd v107 (
   R (.returned (.tuple ⟨[(.slice none 0 0), (.int .i64 3)]⟩))) (
   orpimentref35_Link_Input_j1 R x0 x1 x2 x3)
theorem orpimentref35_Link_Input_j11_ok (R : ER) (e : Env) : den Pg R (cd Try.f51 [1,0]) e (setN (kont Pg R Try.f51) (fun e => orpimentref35_Link_Input_j1 R (e 0) (e 1) (e 2) (e 3))) = (orpimentref35_Link_Input_j11 R (e 0) (e 1) (e 2) (e 3)) := (by kernel_rfl)
def orpimentref35_Link_Input (R : ER) (x0 x1 x2 x3 : Value) : WP :=
  orpimentref35_Link_Input_j11 R x0 x1 x2 x3
theorem orpimentref35_Link_Input_den (R : ER) (x0 x1 x2 x3 : Value) : den Pg R (cd Try.f51 []) (argsEnv [x0, x1, x2, x3]) (kont Pg R Try.f51) = orpimentref35_Link_Input R x0 x1 x2 x3 :=
  have h : ∀ e, den Pg R (cd Try.f51 []) e (kont Pg R Try.f51) = orpimentref35_Link_Input R (e 0) (e 1) (e 2) (e 3) := fun e => (den_join Pg R 1 (cd Try.f51 []) (cd Try.f51 [1,1]) e (kont Pg R Try.f51) (fun e => orpimentref35_Link_Input_j1 R (e 0) (e 1) (e 2) (e 3)) _ (by kernel_rfl) (fun e => orpimentref35_Link_Input_j1_ok R e) (den_join Pg R 0 (pre 1 (cd Try.f51 [])) (cd Try.f51 [1,0]) e (setN (kont Pg R Try.f51) (fun e => orpimentref35_Link_Input_j1 R (e 0) (e 1) (e 2) (e 3))) (fun e => orpimentref35_Link_Input_j11 R (e 0) (e 1) (e 2) (e 3)) _ (by kernel_rfl) (fun e => orpimentref35_Link_Input_j11_ok R e) (by kernel_rfl)))
  h _
theorem orpimentref35_Link_Input_calls {R : ER} {x0 x1 x2 x3 : Value} {w : World} (h : orpimentref35_Link_Input R x0 x1 x2 x3 w) : Calls Pg 51 ⟨[x0, x1, x2, x3]⟩ w R :=
  calls_of_den Try.func51 (by kernel_rfl) (by kernel_rfl) (orpimentref35_Link_Input_den R x0 x1 x2 x3) h
/-! ### 52: slices_EqualFunc -/
def slices_EqualFunc_j2 (R : ER) : WP :=
  R (.returned (.bool true))
theorem slices_EqualFunc_j2_ok (R : ER) (e : Env) : den Pg R (cd Try.f52 [1,1,1]) e (kont Pg R Try.f52) = (slices_EqualFunc_j2 R) := by kernel_rfl
def slices_EqualFunc_j5 (R : ER) (k1 : Value → Value → Value → Value → Value → WP) (x1 x2 x15 x16 x17 : Value) : WP :=
  pv (ixS 1 x15 x17) fun v1 =>
  ld1 v1 fun v2 =>
  pv (ixS 1 x1 x17) fun v3 =>
  ld1 v3 fun v4 =>
  calD Pg R x2 ⟨[v2, v4]⟩ fun v5 =>
  pv (unO .not v5) fun v6 =>
  cnd v6 (
   R (.returned (.bool false))) (
   pv (bin .add x17 (.int .i64 1)) fun v7 =>
  k1 x1 x2 x15 x16 v7)
theorem slices_EqualFunc_j5_ok (R : ER) (k1 : Value → Value → Value → Value → Value → WP) (e : Env) : den Pg R (cd Try.f52 [1,1,0,1,0,0,1,1]) e (setN (inB 0 (setN (kont Pg R Try.f52) (fun e => slices_EqualFunc_j2 R))) (fun e => k1 (e 1) (e 2) (e 15) (e 16) (e 17))) = (slices_EqualFunc_j5 R k1 (e 1) (e 2) (e 15) (e 16) (e 17)) := (by kernel_rfl)
def slices_EqualFunc_b1 (R : ER) (k1 : Value → Value → Value → Value → Value → WP) (x1 x2 x15 x16 x17 : Value) : WP :=
  pv (bin .lss x17 x16) fun v8 =>
  cnd v8 (
   slices_EqualFunc_j5 R k1 x1 x2 x15 x16 x17) (
   slices_EqualFunc_j2 R)
theorem slices_EqualFunc_b1_ok (R : ER) (k1 : Value → Value → Value → Value → Value → WP) (e : Env) : den Pg R (cd Try.f52 [1,1,0,1,0,0]) e (setN (inB 0 (setN (kont Pg R Try.f52) (fun e => slices_EqualFunc_j2 R))) (fun e => k1 (e 1) (e 2) (e 15) (e 16) (e 17))) = (slices_EqualFunc_b1 R k1 (e 1) (e 2) (e 15) (e 16) (e 17)) := (den_join Pg R 1 (cd Try.f52 [1,1,0,1,0,0]) (cd Try.f52 [1,1,0,1,0,0,1,1]) e (setN (inB 0 (setN (kont Pg R Try.f52) (fun e => slices_EqualFunc_j2 R))) (fun e => k1 (e 1) (e 2) (e 15) (e 16) (e 17))) (fun e => slices_EqualFunc_j5 R k1 (e 1) (e 2) (e 15) (e 16) (e 17)) _ (by kernel_rfl) (fun e => slices_EqualFunc_j5_ok R k1 e) (by kernel_rfl))
noncomputable def slices_EqualFunc_l1 (R : ER) (n : Nat) : Value → Value → Value → Value → Value → WP := Nat.rec (motive := fun _ => Value → Value → Value → Value → Value → WP) (fun _ _ _ _ _ => fun _ => False) (fun _ ih => fun x1 x2 x15 x16 x17 => slices_EqualFunc_b1 R ih x1 x2 x15 x16 x17) n
theorem slices_EqualFunc_l1_succ (R : ER) (n : Nat) (x1 x2 x15 x16 x17 : Value) : slices_EqualFunc_l1 R (n + 1) x1 x2 x15 x16 x17 = slices_EqualFunc_b1 R (slices_EqualFunc_l1 R n) x1 x2 x15 x16 x17 := rfl
theorem slices_EqualFunc_l1_ok (R : ER) : ∀ (n : Nat) (e : Env), iterL (den Pg R (cd Try.f52 [1,1,0,1,0,0])) n e (inB 0 (setN (kont Pg R Try.f52) (fun e => slices_EqualFunc_j2 R))) = slices_EqualFunc_l1 R n (e 1) (e 2) (e 15) (e 16) (e 17) :=
  iterL_join (den Pg R (cd Try.f52 [1,1,0,1,0,0])) (inB 0 (setN (kont Pg R Try.f52) (fun e => slices_EqualFunc_j2 R))) (fun n e => slices_EqualFunc_l1 R n (e 1) (e 2) (e 15) (e 16) (e 17)) (fun _ => rfl) (fun n e => (slices_EqualFunc_b1_ok R (slices_EqualFunc_l1 R n) e).trans (slices_EqualFunc_l1_succ R n (e 1) (e 2) (e 15) (e 16) (e 17)).symm)
def slices_EqualFunc_j4 (R : ER) (x1 x2 x15 x16 x17 : Value) : WP :=
  exN fun n => slices_EqualFunc_l1 R n x1 x2 x15 x16 x17
theorem slices_EqualFunc_j4_ok (R : ER) (e : Env) : den Pg R (cd Try.f52 [1,1,0,1]) e (setN (kont Pg R Try.f52) (fun e => slices_EqualFunc_j2 R)) = (slices_EqualFunc_j4 R (e 1) (e 2) (e 15) (e 16) (e 17)) := (den_block Pg R (cd Try.f52 [1,1,0,1]) 0 (cd Try.f52 [1,1,0,1,0]) e (setN (kont Pg R Try.f52) (fun e => slices_EqualFunc_j2 R)) _ (by kernel_rfl) (den_loop Pg R (cd Try.f52 [1,1,0,1,0]) (cd Try.f52 [1,1,0,1,0,0]) e (inB 0 (setN (kont Pg R Try.f52) (fun e => slices_EqualFunc_j2 R))) (fun n e => slices_EqualFunc_l1 R n (e 1) (e 2) (e 15) (e 16) (e 17)) _ (by kernel_rfl) (slices_EqualFunc_l1_ok R) (by kernel_rfl)))
def slices_EqualFunc_j3 (R : ER) (x0 x1 x2 : Value) : WP :=
  pv (lenS x0) fun v9 =>
  slices_EqualFunc_j4 R x1 x2 x0 v9 (.int .i64 0)
theorem slices_EqualFunc_j3_ok (R : ER) (e : Env) : den Pg R (cd Try.f52 [1,1,0]) e (setN (kont Pg R Try.f52) (fun e => slices_EqualFunc_j2 R)) = (slices_EqualFunc_j3 R (e 0) (e 1) (e 2)) := (den_join Pg R 0 (cd Try.f52 [1,1,0]) (cd Try.f52 [1,1,0,1]) e (setN (kont Pg R Try.f52) (fun e => slices_EqualFunc_j2 R)) (fun e => slices_EqualFunc_j4 R (e 1) (e 2) (e 15) (e 16) (e 17)) _ (by kernel_rfl) (fun e => slices_EqualFunc_j4_ok R e) (by kernel_rfl))
def slices_EqualFunc_j1 (R : ER) (x0 x1 x2 : Value) : WP :=
  slices_EqualFunc_j3 R x0 x1 x2
theorem slices_EqualFunc_j1_ok (R : ER) (e : Env) : den Pg R (cd Try.f52 [1,1]) e (kont Pg R Try.f52) = (slices_EqualFunc_j1 R (e 0) (e 1) (e 2)) := (den_join Pg R 0 (cd Try.f52 [1,1]) (cd Try.f52 [1,1,1]) e (kont Pg R Try.f52) (fun e => slices_EqualFunc_j2 R) _ (by kernel_rfl) (fun e => slices_EqualFunc_j2_ok R e) (den_conv Pg R (pre 0 (cd Try.f52 [1,1])) (cd Try.f52 [1,1,0]) e (setN (kont Pg R Try.f52) (fun e => slices_EqualFunc_j2 R)) _ (by kernel_rfl) (slices_EqualFunc_j3_ok R e)))
def slices_EqualFunc (R : ER) (x0 x1 x2 : Value) : WP :=
  pv (lenS x0) fun v10 =>
  pv (lenS x1) fun v11 =>
  pv (bin .neq v10 v11) fun v12 =>
  cnd v12 (
   R (.returned (.bool false))) (
   slices_EqualFunc_j1 R x0 x1 x2)
theorem slices_EqualFunc_den (R : ER) (x0 x1 x2 : Value) : den Pg R (cd Try.f52 []) (argsEnv [x0, x1, x2]) (kont Pg R Try.f52) = slices_EqualFunc R x0 x1 x2 :=
  have h : ∀ e, den Pg R (cd Try.f52 []) e (kont Pg R Try.f52) = slices_EqualFunc R (e 0) (e 1) (e 2) := fun e => (den_join Pg R 1 (cd Try.f52 []) (cd Try.f52 [1,1]) e (kont Pg R Try.f52) (fun e => slices_EqualFunc_j1 R (e 0) (e 1) (e 2)) _ (by kernel_rfl) (fun e => slices_EqualFunc_j1_ok R e) (by kernel_rfl))
  h _
theorem slices_EqualFunc_calls {R : ER} {x0 x1 x2 : Value} {w : World} (h : slices_EqualFunc R x0 x1 x2 w) : Calls Pg 52 ⟨[x0, x1, x2]⟩ w R :=
  calls_of_den Try.func52 (by kernel_rfl) (by kernel_rfl) (slices_EqualFunc_den R x0 x1 x2) h
/-! ### 53: orpimentlaw35_do_1 -/
def orpimentlaw35_do_1 (R : ER) (x0 x1 : Value) : WP :=
  cal Pg R 19 ⟨[x0, x1]⟩ fun v1 =>
  R (.returned v1)
theorem orpimentlaw35_do_1_den (R : ER) (x0 x1 : Value) : den Pg R (cd Try.f53 []) (argsEnv [x0, x1]) (kont Pg R Try.f53) = orpimentlaw35_do_1 R x0 x1 :=
  have h : ∀ e, den Pg R (cd Try.f53 []) e (kont Pg R Try.f53) = orpimentlaw35_do_1 R (e 0) (e 1) := fun e => by kernel_rfl
  h _
theorem orpimentlaw35_do_1_calls {R : ER} {x0 x1 : Value} {w : World} (h : orpimentlaw35_do_1 R x0 x1 w) : Calls Pg 53 ⟨[x0, x1]⟩ w R :=
  calls_of_den Try.func53 (by kernel_rfl) (by kernel_rfl) (orpimentlaw35_do_1_den R x0 x1) h
/-! ### 54: orpimentref35_Link_Output -/
def orpimentref35_Link_Output_j6 (R : ER) (x9 : Value) : WP :=
  R (.returned (.tuple ⟨[x9, (.int .i64 0)]⟩))
theorem orpimentref35_Link_Output_j6_ok (R : ER) (e : Env) : den Pg R (cd Try.f54 [1,1,1,1,1,1,1,1,1,1,1,1]) e (kont Pg R Try.f54) = (orpimentref35_Link_Output_j6 R (e 9)) := by kernel_rfl
def orpimentref35_Link_Output_j10 (R : ER) (k1 : Value → Value → Value → Value → Value → Value → WP) (x0 x1 x7 x8 x9 x14 : Value) : WP :=
  pv (bin .add x14 (.int .i64 1)) fun v1 =>
  k1 x0 x1 x7 x8 x9 v1
theorem orpimentref35_Link_Output_j10_ok (R : ER) (k1 : Value → Value → Value → Value → Value → Value → WP) (e : Env) : den Pg R (cd Try.f54 [1,1,1,1,1,1,1,1,1,1,1,0,1,0,0,1,1]) e (setN (inB 2 (setN (kont Pg R Try.f54) (fun e => orpimentref35_Link_Output_j6 R (e 9)))) (fun e => k1 (e 0) (e 1) (e 7) (e 8) (e 9) (e 14))) = (orpimentref35_Link_Output_j10 R k1 (e 0) (e 1) (e 7) (e 8) (e 9) (e 14)) := by kernel_rfl
def orpimentref35_Link_Output_j17 (R : ER) (k1 : Value → Value → Value → Value → Value → Value → WP) (x0 x1 x7 x8 x9 x14 x15 : Value) : WP :=
  pv (nilO x0) fun v2 =>
  pv (faO 9 v2) fun v3 =>
  ld1 v3 fun v4 =>
  pv (lenS x7) fun v5 =>
  pv (bin .rem v4 v5) fun v6 =>
  pv (ixS 1 x7 v6) fun v7 =>
  ld1 v7 fun v8 =>
  pv (bldO [.int .i64 0, .slice none 0 0] [(0,1, v8), (1,1, x15)]) fun v9 =>
  valV Pg R (Instr.buildSlice 127 1 ⟨[(0, v9)]⟩) fun v10 =>
  blt Pg R .append ⟨[127,127]⟩ 127 ⟨[false, false]⟩ ⟨[x9, v10]⟩ fun v11 =>
  pv (nilO x0) fun v12 =>
  pv (faO 9 v12) fun v13 =>
  ld1 v13 fun v14 =>
  pv (bin .add v14 (.int .i64 1)) fun v15 =>
  pv (nilO x0) fun v16 =>
  pv (faO 9 v16) fun v17 =>
  st1 v17 v15 fun _ =>
  orpimentref35_Link_Output_j10 R k1 x0 x1 x7 x8 v11 x14
theorem orpimentref35_Link_Output_j17_ok (R : ER) (k1 : Value → Value → Value → Value → Value → Value → WP) (e : Env) : den Pg R (cd Try.f54 [1,1,1,1,1,1,1,1,1,1,1,0,1,0,0,1,0,0,1,1,1,1,0,1,1,1,0]) e (inB 4 (inB 3 (setN (setN (inB 2 (setN (kont Pg R Try.f54) (fun e => orpimentref35_Link_Output_j6 R (e 9)))) (fun e => k1 (e 0) (e 1) (e 7) (e 8) (e 9) (e 14))) (fun e => orpimentref35_Link_Output_j10 R k1 (e 0) (e 1) (e 7) (e 8) (e 9) (e 14))))) = (orpimentref35_Link_Output_j17 R k1 (e 0) (e 1) (e 7) (e 8) (e 9) (e 14) (e 15)) := by kernel_rfl
def orpimentref35_Link_Output_j22 (R : ER) (k1 : Value → Value → Value → Value → Value → Value → WP) (k2 : Value → Value → Value → Value → Value → Value → Value → Value → WP) (x0 x1 x7 x8 x9 x14 x15 x17 : Value) : WP :=
  pv (ixS 1 x7 x17) fun v18 =>
  ld1 v18 fun v19 =>
  pv (bldO [.int .i64 0, .slice none 0 0] [(0,1, v19), (1,1, x15)]) fun v20 =>
  valV Pg R (Instr.buildSlice 127 1 ⟨[(0, v20)]⟩) fun v21 =>
  blt Pg R .append ⟨[127,127]⟩ 127 ⟨[false, false]⟩ ⟨[x9, v21]⟩ fun v22 =>
  pv (bin .add x17 (.int .i64 1)) fun v23 =>
  k2 x0 x1 x7 x8 v22 x14 x15 v23
theorem orpimentref35_Link_Output_j22_ok (R : ER) (k1 : Value → Value → Value → Value → Value → Value → WP) (k2 : Value → Value → Value → Value → Value → Value → Value → Value → WP) (e : Env) : den Pg R (cd Try.f54 [1,1,1,1,1,1,1,1,1,1,1,0,1,0,0,1,0,0,1,1,1,1,0,1,1,1,1,1,0,1,0,0,1]) e (setN (inB 5 (inB 4 (inB 3 (setN (setN (inB 2 (setN (kont Pg R Try.f54) (fun e => orpimentref35_Link_Output_j6 R (e 9)))) (fun e => k1 (e 0) (e 1) (e 7) (e 8) (e 9) (e 14))) (fun e => orpimentref35_Link_Output_j10 R k1 (e 0) (e 1) (e 7) (e 8) (e 9) (e 14)))))) (fun e => k2 (e 0) (e 1) (e 7) (e 8) (e 9) (e 14) (e 15) (e 17))) = (orpimentref35_Link_Output_j22 R k1 k2 (e 0) (e 1) (e 7) (e 8) (e 9) (e 14) (e 15) (e 17)) := by kernel_rfl
def orpimentref35_Link_Output_b2 (R : ER) (k1 : Value → Value → Value → Value → Value → Value → WP) (k2 : Value → Value → Value → Value → Value → Value → Value → Value → WP) (x0 x1 x7 x8 x9 x14 x15 x17 : Value) : WP :=
  pv (lenS x7) fun v24 =>
  pv (bin .lss x17 v24) fun v25 =>
  cnd v25 (
   orpimentref35_Link_Output_j22 R k1 k2 x0 x1 x7 x8 x9 x14 x15 x17) (
   orpimentref35_Link_Output_j10 R k1 x0 x1 x7 x8 x9 x14)
theorem orpimentref35_Link_Output_b2_ok (R : ER) (k1 : Value → Value → Value → Value → Value → Value → WP) (k2 : Value → Value → Value → Value → Value → Value → Value → Value → WP) (e : Env) : den Pg R (cd Try.f54 [1,1,1,1,1,1,1,1,1,1,1,0,1,0,0,1,0,0,1,1,1,1,0,1,1,1,1,1,0,1,0,0]) e (setN (inB 5 (inB 4 (inB 3 (setN (setN (inB 2 (setN (kont Pg R Try.f54) (fun e => orpimentref35_Link_Output_j6 R (e 9)))) (fun e => k1 (e 0) (e 1) (e 7) (e 8) (e 9) (e 14))) (fun e => orpimentref35_Link_Output_j10 R k1 (e 0) (e 1) (e 7) (e 8) (e 9) (e 14)))))) (fun e => k2 (e 0) (e 1) (e 7) (e 8) (e 9) (e 14) (e 15) (e 17))) = (orpimentref35_Link_Output_b2 R k1 k2 (e 0) (e 1) (e 7) (e 8) (e 9) (e 14) (e 15) (e 17)) := (den_join Pg R 0 (cd Try.f54 [1,1,1,1,1,1,1,1,1,1,1,0,1,0,0,1,0,0,1,1,1,1,0,1,1,1,1,1,0,1,0,0]) (cd Try.f54 [1,1,1,1,1,1,1,1,1,1,1,0,1,0,0,1,0,0,1,1,1,1,0,1,1,1,1,1,0,1,0,0,1]) e (setN (inB 5 (inB 4 (inB 3 (setN (setN (inB 2 (setN (kont Pg R Try.f54) (fun e => orpimentref35_Link_Output_j6 R (e 9)))) (fun e => k1 (e 0) (e 1) (e 7) (e 8) (e 9) (e 14))) (fun e => orpimentref35_Link_Output_j10 R k1 (e 0) (e 1) (e 7) (e 8) (e 9) (e 14)))))) (fun e => k2 (e 0) (e 1) (e 7) (e 8) (e 9) (e 14) (e 15) (e 17))) (fun e => orpimentref35_Link_Output_j22 R k1 k2 (e 0) (e 1) (e 7) (e 8) (e 9) (e 14) (e 15) (e 17)) _ (by kernel_rfl) (fun e => orpimentref35_Link_Output_j22_ok R k1 k2 e) (by kernel_rfl))
noncomputable def orpimentref35_Link_Output_l1 (R : ER) (k1 : Value → Value → Value → Value → Value → Value → WP) (n : Nat) : Value → Value → Value → Value → Value → Value → Value → Value → WP := Nat.rec (motive := fun _ => Value → Value → Value → Value → Value → Value → Value → Value → WP) (fun _ _ _ _ _ _ _ _ => fun _ => False) (fun _ ih => fun x0 x1 x7 x8 x9 x14 x15 x17 => orpimentref35_Link_Output_b2 R k1 ih x0 x1 x7 x8 x9 x14 x15 x17) n
theorem orpimentref35_Link_Output_l1_succ (R : ER) (k1 : Value → Value → Value → Value → Value → Value → WP) (n : Nat) (x0 x1 x7 x8 x9 x14 x15 x17 : Value) : orpimentref35_Link_Output_l1 R k1 (n + 1) x0 x1 x7 x8 x9 x14 x15 x17 = orpimentref35_Link_Output_b2 R k1 (orpimentref35_Link_Output_l1 R k1 n) x0 x1 x7 x8 x9 x14 x15 x17 := rfl
theorem orpimentref35_Link_Output_l1_ok (R : ER) (k1 : Value → Value → Value → Value → Value → Value → WP) : ∀ (n : Nat) (e : Env), iterL (den Pg R (cd Try.f54 [1,1,1,1,1,1,1,1,1,1,1,0,1,0,0,1,0,0,1,1,1,1,0,1,1,1,1,1,0,1,0,0])) n e (inB 5 (inB 4 (inB 3 (setN (setN (inB 2 (setN (kont Pg R Try.f54) (fun e => orpimentref35_Link_Output_j6 R (e 9)))) (fun e => k1 (e 0) (e 1) (e 7) (e 8) (e 9) (e 14))) (fun e => orpimentref35_Link_Output_j10 R k1 (e 0) (e 1) (e 7) (e 8) (e 9) (e 14)))))) = orpimentref35_Link_Output_l1 R k1 n (e 0) (e 1) (e 7) (e 8) (e 9) (e 14) (e 15) (e 17) :=
  iterL_join (den Pg R (cd Try.f54 [1,1,1,1,1,1,1,1,1,1,1,0,1,0,0,1,0,0,1,1,1,1,0,1,1,1,1,1,0,1,0,0])) (inB 5 (inB 4 (inB 3 (setN (setN (inB 2 (setN (kont Pg R Try.f54) (fun e => orpimentref35_Link_Output_j6 R (e 9)))) (fun e => k1 (e 0) (e 1) (e 7) (e 8) (e 9) (e 14))) (fun e => orpimentref35_Link_Output_j10 R k1 (e 0) (e 1) (e 7) (e 8) (e 9) (e 14)))))) (fun n e => orpimentref35_Link_Output_l1 R k1 n (e 0) (e 1) (e 7) (e 8) (e 9) (e 14) (e 15) (e 17)) (fun _ => rfl) (fun n e => (orpimentref35_Link_Output_b2_ok R k1 (orpimentref35_Link_Output_l1 R k1 n) e).trans (orpimentref35_Link_Output_l1_succ R k1 n (e 0) (e 1) (e 7) (e 8) (e 9) (e 14) (e 15) (e 17)).symm)
def orpimentref35_Link_Output_j21 (R : ER) (k1 : Value → Value → Value → Value → Value → Value → WP) (x0 x1 x7 x8 x9 x14 x15 x17 : Value) : WP :=
  exN fun n => orpimentref35_Link_Output_l1 R k1 n x0 x1 x7 x8 x9 x14 x15 x17
theorem orpimentref35_Link_Output_j21_ok (R : ER) (k1 : Value → Value → Value → Value → Value → Value → WP) (e : Env) : den Pg R (cd Try.f54 [1,1,1,1,1,1,1,1,1,1,1,0,1,0,0,1,0,0,1,1,1,1,0,1,1,1,1,1,0,1]) e (inB 4 (inB 3 (setN (setN (inB 2 (setN (kont Pg R Try.f54) (fun e => orpimentref35_Link_Output_j6 R (e 9)))) (fun e => k1 (e 0) (e 1) (e 7) (e 8) (e 9) (e 14))) (fun e => orpimentref35_Link_Output_j10 R k1 (e 0) (e 1) (e 7) (e 8) (e 9) (e 14))))) = (orpimentref35_Link_Output_j21 R k1 (e 0) (e 1) (e 7) (e 8) (e 9) (e 14) (e 15) (e 17)) := (den_block Pg R (cd Try.f54 [1,1,1,1,1,1,1,1,1,1,1,0,1,0,0,1,0,0,1,1,1,1,0,1,1,1,1,1,0,1]) 5 (cd Try.f54 [1,1,1,1,1,1,1,1,1,1,1,0,1,0,0,1,0,0,1,1,1,1,0,1,1,1,1,1,0,1,0]) e (inB 4 (inB 3 (setN (setN (inB 2 (setN (kont Pg R Try.f54) (fun e => orpimentref35_Link_Output_j6 R (e 9)))) (fun e => k1 (e 0) (e 1) (e 7) (e 8) (e 9) (e 14))) (fun e => orpimentref35_Link_Output_j10 R k1 (e 0) (e 1) (e 7) (e 8) (e 9) (e 14))))) _ (by kernel_rfl) (den_loop Pg R (cd Try.f54 [1,1,1,1,1,1,1,1,1,1,1,0,1,0,0,1,0,0,1,1,1,1,0,1,1,1,1,1,0,1,0]) (cd Try.f54 [1,1,1,1,1,1,1,1,1,1,1,0,1,0,0,1,0,0,1,1,1,1,0,1,1,1,1,1,0,1,0,0]) e (inB 5 (inB 4 (inB 3 (setN (setN (inB 2 (setN (kont Pg R Try.f54) (fun e => orpimentref35_Link_Output_j6 R (e 9)))) (fun e => k1 (e 0) (e 1) (e 7) (e 8) (e 9) (e 14))) (fun e => orpimentref35_Link_Output_j10 R k1 (e 0) (e 1) (e 7) (e 8) (e 9) (e 14)))))) (fun n e => orpimentref35_Link_Output_l1 R k1 n (e 0) (e 1) (e 7) (e 8) (e 9) (e 14) (e 15) (e 17)) _ (by kernel_rfl) (orpimentref35_Link_Output_l1_ok R k1) (by kernel_rfl)))
def orpimentref35_Link_Output_j20 (R : ER) (k1 : Value → Value → Value → Value → Value → Value → WP) (x0 x1 x7 x8 x9 x14 x15 : Value) : WP :=
  orpimentref35_Link_Output_j21 R k1 x0 x1 x7 x8 x9 x14 x15 (.int .i64 0)
theorem orpimentref35_Link_Output_j20_ok (R : ER) (k1 : Value → Value → Value → Value → Value → Value → WP) (e : Env) : den Pg R (cd Try.f54 [1,1,1,1,1,1,1,1,1,1,1,0,1,0,0,1,0,0,1,1,1,1,0,1,1,1,1,1,0]) e (inB 4 (inB 3 (setN (setN (inB 2 (setN (kont Pg R Try.f54) (fun e => orpimentref35_Link_Output_j6 R (e 9)))) (fun e => k1 (e 0) (e 1) (e 7) (e 8) (e 9) (e 14))) (fun e => orpimentref35_Link_Output_j10 R k1 (e 0) (e 1) (e 7) (e 8) (e 9) (e 14))))) = (orpimentref35_Link_Output_j20 R k1 (e 0) (e 1) (e 7) (e 8) (e 9) (e 14) (e 15)) := (den_join Pg R 0 (cd Try.f54 [1,1,1,1,1,1,1,1,1,1,1,0,1,0,0,1,0,0,1,1,1,1,0,1,1,1,1,1,0]) (cd Try.f54 [1,1,1,1,1,1,1,1,1,1,1,0,1,0,0,1,0,0,1,1,1,1,0,1,1,1,1,1,0,1]) e (inB 4 (inB 3 (setN (setN (inB 2 (setN (kont Pg R Try.f54) (fun e => orpimentref35_Link_Output_j6 R (e 9)))) (fun e => k1 (e 0) (e 1) (e 7) (e 8) (e 9) (e 14))) (fun e => orpimentref35_Link_Output_j10 R k1 (e 0) (e 1) (e 7) (e 8) (e 9) (e 14))))) (fun e => orpimentref35_Link_Output_j21 R k1 (e 0) (e 1) (e 7) (e 8) (e 9) (e 14) (e 15) (e 17)) _ (by kernel_rfl) (fun e => orpimentref35_Link_Output_j21_ok R k1 e) (by kernel_rfl))
def orpimentref35_Link_Output_j19 (R : ER) (k1 : Value → Value → Value → Value → Value → Value → WP) (x0 x1 x7 x8 x9 x14 x15 x229 : Value) : WP :=
  cnd x229 (orpimentref35_Link_Output_j20 R k1 x0 x1 x7 x8 x9 x14 x15) (orpimentref35_Link_Output_j10 R k1 x0 x1 x7 x8 x9 x14)
theorem orpimentref35_Link_Output_j19_ok (R : ER) (k1 : Value → Value → Value → Value → Value → Value → WP) (e : Env) : den Pg R (cd Try.f54 [1,1,1,1,1,1,1,1,1,1,1,0,1,0,0,1,0,0,1,1,1,1,0,1,1,1,1,1]) e (inB 4 (inB 3 (setN (setN (inB 2 (setN (kont Pg R Try.f54) (fun e => orpimentref35_Link_Output_j6 R (e 9)))) (fun e => k1 (e 0) (e 1) (e 7) (e 8) (e 9) (e 14))) (fun e => orpimentref35_Link_Output_j10 R k1 (e 0) (e 1) (e 7) (e 8) (e 9) (e 14))))) = (orpimentref35_Link_Output_j19 R k1 (e 0) (e 1) (e 7) (e 8) (e 9) (e 14) (e 15) (e 229)) := (den_if Pg R (cd Try.f54 [1,1,1,1,1,1,1,1,1,1,1,0,1,0,0,1,0,0,1,1,1,1,0,1,1,1,1,1]) (cd Try.f54 [1,1,1,1,1,1,1,1,1,1,1,0,1,0,0,1,0,0,1,1,1,1,0,1,1,1,1,1,0]) (cd Try.f54 [1,1,1,1,1,1,1,1,1,1,1,0,1,0,0,1,0,0,1,1,1,1,0,1,1,1,1,1,1]) e (inB 4 (inB 3 (setN (setN (inB 2 (setN (kont Pg R Try.f54) (fun e => orpimentref35_Link_Output_j6 R (e 9)))) (fun e => k1 (e 0) (e 1) (e 7) (e 8) (e 9) (e 14))) (fun e => orpimentref35_Link_Output_j10 R k1 (e 0) (e 1) (e 7) (e 8) (e 9) (e 14))))) (orpimentref35_Link_Output_j20 R k1 (e 0) (e 1) (e 7) (e 8) (e 9) (e 14) (e 15)) _ _ (by kernel_rfl) (orpimentref35_Link_Output_j20_ok R k1 e) rfl (by kernel_rfl))
def orpimentref35_Link_Output_j18 (R : ER) (k1 : Value → Value → Value → Value → Value → Value → WP) (x0 x1 x7 x8 x9 x14 x15 x194 : Value) : WP :=
  pv (bin .eql x194 (.int .i64 2)) fun v26 =>
  orpimentref35_Link_Output_j19 R k1 x0 x1 x7 x8 x9 x14 x15 v26
theorem orpimentref35_Link_Output_j18_ok (R : ER) (k1 : Value → Value → Value → Value → Value → Value → WP) (e : Env) : den Pg R (cd Try.f54 [1,1,1,1,1,1,1,1,1,1,1,0,1,0,0,1,0,0,1,1,1,1,0,1,1,1,1]) e (inB 4 (inB 3 (setN (setN (inB 2 (setN (kont Pg R Try.f54) (fun e => orpimentref35_Link_Output_j6 R (e 9)))) (fun e => k1 (e 0) (e 1) (e 7) (e 8) (e 9) (e 14))) (fun e => orpimentref35_Link_Output_j10 R k1 (e 0) (e 1) (e 7) (e 8) (e 9) (e 14))))) = (orpimentref35_Link_Output_j18 R k1 (e 0) (e 1) (e 7) (e 8) (e 9) (e 14) (e 15) (e 194)) := (den_join Pg R 0 (cd Try.f54 [1,1,1,1,1,1,1,1,1,1,1,0,1,0,0,1,0,0,1,1,1,1,0,1,1,1,1]) (cd Try.f54 [1,1,1,1,1,1,1,1,1,1,1,0,1,0,0,1,0,0,1,1,1,1,0,1,1,1,1,1]) e (inB 4 (inB 3 (setN (setN (inB 2 (setN (kont Pg R Try.f54) (fun e => orpimentref35_Link_Output_j6 R (e 9)))) (fun e => k1 (e 0) (e 1) (e 7) (e 8) (e 9) (e 14))) (fun e => orpimentref35_Link_Output_j10 R k1 (e 0) (e 1) (e 7) (e 8) (e 9) (e 14))))) (fun e => orpimentref35_Link_Output_j19 R k1 (e 0) (e 1) (e 7) (e 8) (e 9) (e 14) (e 15) (e 229)) _ (by kernel_rfl) (fun e => orpimentref35_Link_Output_j19_ok R k1 e) (by kernel_rfl))
def orpimentref35_Link_Output_j16 (R : ER) (k1 : Value → Value → Value → Value → Value → Value → WP) (x0 x1 x7 x8 x9 x14 x15 x194 x205 : Value) : WP :=
  cnd x205 (orpimentref35_Link_Output_j17 R k1 x0 x1 x7 x8 x9 x14 x15) (orpimentref35_Link_Output_j18 R k1 x0 x1 x7 x8 x9 x14 x15 x194)
theorem orpimentref35_Link_Output_j16_ok (R : ER) (k1 : Value → Value → Value → Value → Value → Value → WP) (e : Env) : den Pg R (cd Try.f54 [1,1,1,1,1,1,1,1,1,1,1,0,1,0,0,1,0,0,1,1,1,1,0,1,1,1]) e (inB 4 (inB 3 (setN (setN (inB 2 (setN (kont Pg R Try.f54) (fun e => orpimentref35_Link_Output_j6 R (e 9)))) (fun e => k1 (e 0) (e 1) (e 7) (e 8) (e 9) (e 14))) (fun e => orpimentref35_Link_Output_j10 R k1 (e 0) (e 1) (e 7) (e 8) (e 9) (e 14))))) = (orpimentref35_Link_Output_j16 R k1 (e 0) (e 1) (e 7) (e 8) (e 9) (e 14) (e 15) (e 194) (e 205)) := (den_if Pg R (cd Try.f54 [1,1,1,1,1,1,1,1,1,1,1,0,1,0,0,1,0,0,1,1,1,1,0,1,1,1]) (cd Try.f54 [1,1,1,1,1,1,1,1,1,1,1,0,1,0,0,1,0,0,1,1,1,1,0,1,1,1,0]) (cd Try.f54 [1,1,1,1,1,1,1,1,1,1,1,0,1,0,0,1,0,0,1,1,1,1,0,1,1,1,1]) e (inB 4 (inB 3 (setN (setN (inB 2 (setN (kont Pg R Try.f54) (fun e => orpimentref35_Link_Output_j6 R (e 9)))) (fun e => k1 (e 0) (e 1) (e 7) (e 8) (e 9) (e 14))) (fun e => orpimentref35_Link_Output_j10 R k1 (e 0) (e 1) (e 7) (e 8) (e 9) (e 14))))) (orpimentref35_Link_Output_j17 R k1 (e 0) (e 1) (e 7) (e 8) (e 9) (e 14) (e 15)) (orpimentref35_Link_Output_j18 R k1 (e 0) (e 1) (e 7) (e 8) (e 9) (e 14) (e 15) (e 194)) _ (by kernel_rfl) (orpimentref35_Link_Output_j17_ok R k1 e) (orpimentref35_Link_Output_j18_ok R k1 e) (by kernel_rfl))
def orpimentref35_Link_Output_j15 (R : ER) (k1 : Value → Value → Value → Value → Value → Value → WP) (x0 x1 x7 x8 x9 x14 x15 x194 : Value) : WP :=
  pv (bin .eql x194 (.int .i64 1)) fun v27 =>
  orpimentref35_Link_Output_j16 R k1 x0 x1 x7 x8 x9 x14 x15 x194 v27
theorem orpimentref35_Link_Output_j15_ok (R : ER) (k1 : Value → Value → Value → Value → Value → Value → WP) (e : Env) : den Pg R (cd Try.f54 [1,1,1,1,1,1,1,1,1,1,1,0,1,0,0,1,0,0,1,1,1,1,0,1,1]) e (inB 4 (inB 3 (setN (setN (inB 2 (setN (kont Pg R Try.f54) (fun e => orpimentref35_Link_Output_j6 R (e 9)))) (fun e => k1 (e 0) (e 1) (e 7) (e 8) (e 9) (e 14))) (fun e => orpimentref35_Link_Output_j10 R k1 (e 0) (e 1) (e 7) (e 8) (e 9) (e 14))))) = (orpimentref35_Link_Output_j15 R k1 (e 0) (e 1) (e 7) (e 8) (e 9) (e 14) (e 15) (e 194)) := (den_join Pg R 0 (cd Try.f54 [1,1,1,1,1,1,1,1,1,1,1,0,1,0,0,1,0,0,1,1,1,1,0,1,1]) (cd Try.f54 [1,1,1,1,1,1,1,1,1,1,1,0,1,0,0,1,0,0,1,1,1,1,0,1,1,1]) e (inB 4 (inB 3 (setN (setN (inB 2 (setN (kont Pg R Try.f54) (fun e => orpimentref35_Link_Output_j6 R (e 9)))) (fun e => k1 (e 0) (e 1) (e 7) (e 8) (e 9) (e 14))) (fun e => orpimentref35_Link_Output_j10 R k1 (e 0) (e 1) (e 7) (e 8) (e 9) (e 14))))) (fun e => orpimentref35_Link_Output_j16 R k1 (e 0) (e 1) (e 7) (e 8) (e 9) (e 14) (e 15) (e 194) (e 205)) _ (by kernel_rfl) (fun e => orpimentref35_Link_Output_j16_ok R k1 e) (by kernel_rfl))
def orpimentref35_Link_Output_j14 (R : ER) (k1 : Value → Value → Value → Value → Value → Value → WP) (x0 x1 x7 x8 x9 x14 x15 x194 x195 : Value) : WP :=
  cnd x195 (pv (ixS 1 x7 (.int .i64 0)) fun v28 =>
  ld1 v28 fun v29 =>
  pv (bldO [.int .i64 0, .slice none 0 0] [(0,1, v29), (1,1, x15)]) fun v30 =>
  valV Pg R (Instr.buildSlice 127 1 ⟨[(0, v30)]⟩) fun v31 =>
  blt Pg R .append ⟨[127,127]⟩ 127 ⟨[false, false]⟩ ⟨[x9, v31]⟩ fun v32 =>
  orpimentref35_Link_Output_j10 R k1 x0 x1 x7 x8 v32 x14) (orpimentref35_Link_Output_j15 R k1 x0 x1 x7 x8 x9 x14 x15 x194)
theorem orpimentref35_Link_Output_j14_ok (R : ER) (k1 : Value → Value → Value → Value → Value → Value → WP) (e : Env) : den Pg R (cd Try.f54 [1,1,1,1,1,1,1,1,1,1,1,0,1,0,0,1,0,0,1,1,1,1,0,1]) e (inB 4 (inB 3 (setN (setN (inB 2 (setN (kont Pg R Try.f54) (fun e => orpimentref35_Link_Output_j6 R (e 9)))) (fun e => k1 (e 0) (e 1) (e 7) (e 8) (e 9) (e 14))) (fun e => orpimentref35_Link_Output_j10 R k1 (e 0) (e 1) (e 7) (e 8) (e 9) (e 14))))) = (orpimentref35_Link_Output_j14 R k1 (e 0) (e 1) (e 7) (e 8) (e 9) (e 14) (e 15) (e 194) (e 195)) := (den_if Pg R (cd Try.f54 [1,1,1,1,1,1,1,1,1,1,1,0,1,0,0,1,0,0,1,1,1,1,0,1]) (cd Try.f54 [1,1,1,1,1,1,1,1,1,1,1,0,1,0,0,1,0,0,1,1,1,1,0,1,0]) (cd Try.f54 [1,1,1,1,1,1,1,1,1,1,1,0,1,0,0,1,0,0,1,1,1,1,0,1,1]) e (inB 4 (inB 3 (setN (setN (inB 2 (setN (kont Pg R Try.f54) (fun e => orpimentref35_Link_Output_j6 R (e 9)))) (fun e => k1 (e 0) (e 1) (e 7) (e 8) (e 9) (e 14))) (fun e => orpimentref35_Link_Output_j10 R k1 (e 0) (e 1) (e 7) (e 8) (e 9) (e 14))))) _ (orpimentref35_Link_Output_j15 R k1 (e 0) (e 1) (e 7) (e 8) (e 9) (e 14) (e 15) (e 194)) _ (by kernel_rfl) rfl (orpimentref35_Link_Output_j15_ok R k1 e) (by kernel_rfl))
def orpimentref35_Link_Output_j13 (R : ER) (k1 : Value → Value → Value → Value → Value → Value → WP) (x0 x1 x7 x8 x9 x14 x15 x194 : Value) : WP :=
  pv (bin .eql x194 (.int .i64 0)) fun v33 =>
  orpimentref35_Link_Output_j14 R k1 x0 x1 x7 x8 x9 x14 x15 x194 v33
theorem orpimentref35_Link_Output_j13_ok (R : ER) (k1 : Value → Value → Value → Value → Value → Value → WP) (e : Env) : den Pg R (cd Try.f54 [1,1,1,1,1,1,1,1,1,1,1,0,1,0,0,1,0,0,1,1,1,1]) e (inB 3 (setN (setN (inB 2 (setN (kont Pg R Try.f54) (fun e => orpimentref35_Link_Output_j6 R (e 9)))) (fun e => k1 (e 0) (e 1) (e 7) (e 8) (e 9) (e 14))) (fun e => orpimentref35_Link_Output_j10 R k1 (e 0) (e 1) (e 7) (e 8) (e 9) (e 14)))) = (orpimentref35_Link_Output_j13 R k1 (e 0) (e 1) (e 7) (e 8) (e 9) (e 14) (e 15) (e 194)) := (den_block Pg R (cd Try.f54 [1,1,1,1,1,1,1,1,1,1,1,0,1,0,0,1,0,0,1,1,1,1]) 4 (cd Try.f54 [1,1,1,1,1,1,1,1,1,1,1,0,1,0,0,1,0,0,1,1,1,1,0]) e (inB 3 (setN (setN (inB 2 (setN (kont Pg R Try.f54) (fun e => orpimentref35_Link_Output_j6 R (e 9)))) (fun e => k1 (e 0) (e 1) (e 7) (e 8) (e 9) (e 14))) (fun e => orpimentref35_Link_Output_j10 R k1 (e 0) (e 1) (e 7) (e 8) (e 9) (e 14)))) _ (by kernel_rfl) (den_join Pg R 0 (cd Try.f54 [1,1,1,1,1,1,1,1,1,1,1,0,1,0,0,1,0,0,1,1,1,1,0]) (cd Try.f54 [1,1,1,1,1,1,1,1,1,1,1,0,1,0,0,1,0,0,1,1,1,1,0,1]) e (inB 4 (inB 3 (setN (setN (inB 2 (setN (kont Pg R Try.f54) (fun e => orpimentref35_Link_Output_j6 R (e 9)))) (fun e => k1 (e 0) (e 1) (e 7) (e 8) (e 9) (e 14))) (fun e => orpimentref35_Link_Output_j10 R k1 (e 0) (e 1) (e 7) (e 8) (e 9) (e 14))))) (fun e => orpimentref35_Link_Output_j14 R k1 (e 0) (e 1) (e 7) (e 8) (e 9) (e 14) (e 15) (e 194) (e 195)) _ (by kernel_rfl) (fun e => orpimentref35_Link_Output_j14_ok R k1 e) (by kernel_rfl)))
def orpimentref35_Link_Output_j12 (R : ER) (k1 : Value → Value → Value → Value → Value → Value → WP) (x0 x1 x7 x8 x9 x14 : Value) : WP :=
  pv (nilO x0) fun v34 =>
  pv (faO 5 v34) fun v35 =>
  ld1 v35 fun v36 =>
  pv (ixS 6 v36 x14) fun v37 =>
  pv (faO 0 v37) fun v38 =>
  ldN 5 v38 fun v39 =>
  cal Pg R 17 ⟨[v39]⟩ fun v40 =>
  pv (extO 0 v40) fun v41 =>
  pv (extO 1 v40) fun v42 =>
  pv (nilO x0) fun v43 =>
  pv (faO 5 v43) fun v44 =>
  ld1 v44 fun v45 =>
  pv (ixS 6 v45 x14) fun v46 =>
  pv (faO 5 v46) fun v47 =>
  st1 v47 x1 fun _ =>
  pv (nilO x0) fun v48 =>
  pv (faO 2 v48) fun v49 =>
  ld1 v49 fun v50 =>
  orpimentref35_Link_Output_j13 R k1 x0 x1 x7 x8 x9 x14 v41 v50
theorem orpimentref35_Link_Output_j12_ok (R : ER) (k1 : Value → Value → Value → Value → Value → Value → WP) (e : Env) : den Pg R (cd Try.f54 [1,1,1,1,1,1,1,1,1,1,1,0,1,0,0,1,0,0,1]) e (inB 3 (setN (setN (inB 2 (setN (kont Pg R Try.f54) (fun e => orpimentref35_Link_Output_j6 R (e 9)))) (fun e => k1 (e 0) (e 1) (e 7) (e 8) (e 9) (e 14))) (fun e => orpimentref35_Link_Output_j10 R k1 (e 0) (e 1) (e 7) (e 8) (e 9) (e 14)))) = (orpimentref35_Link_Output_j12 R k1 (e 0) (e 1) (e 7) (e 8) (e 9) (e 14)) := (den_join Pg R 2 (cd Try.f54 [1,1,1,1,1,1,1,1,1,1,1,0,1,0,0,1,0,0,1]) (cd Try.f54 [1,1,1,1,1,1,1,1,1,1,1,0,1,0,0,1,0,0,1,1,1,1]) e (inB 3 (setN (setN (inB 2 (setN (kont Pg R Try.f54) (fun e => orpimentref35_Link_Output_j6 R (e 9)))) (fun e => k1 (e 0) (e 1) (e 7) (e 8) (e 9) (e 14))) (fun e => orpimentref35_Link_Output_j10 R k1 (e 0) (e 1) (e 7) (e 8) (e 9) (e 14)))) (fun e => orpimentref35_Link_Output_j13 R k1 (e 0) (e 1) (e 7) (e 8) (e 9) (e 14) (e 15) (e 194)) _ (by kernel_rfl) (fun e => orpimentref35_Link_Output_j13_ok R k1 e) (by kernel_rfl))
def orpimentref35_Link_Output_j23 (R : ER) (k1 : Value → Value → Value → Value → Value → Value → WP) (x0 x1 x7 x8 x9 x14 : Value) : WP :=
  pv (unO .not x8) fun v51 =>
  gd v51 true (pv (some x0)) fun v52 =>
  gd v51 true (pv (nilO v52)) fun v53 =>
  gd v51 true (pv (faO 5 v53)) fun v54 =>
  gd v51 true (ld1 v54) fun v55 =>
  gd v51 true (pv (some x14)) fun v56 =>
  gd v51 true (pv (ixS 6 v55 v56)) fun v57 =>
  gd v51 true (pv (faO 5 v57)) fun v58 =>
  gd v51 true (ld1 v58) fun v59 =>
  gd v51 true (pv (bin .geq v59 (.int .i64 0))) fun v60 =>
  pv (pickO v51 v60 (.bool false)) fun v61 =>
  cnd v61 (
   orpimentref35_Link_Output_j10 R k1 x0 x1 x7 x8 x9 x14) (
   orpimentref35_Link_Output_j12 R k1 x0 x1 x7 x8 x9 x14)
theorem orpimentref35_Link_Output_j23_ok (R : ER) (k1 : Value → Value → Value → Value → Value → Value → WP) (e : Env) : den Pg R (cd Try.f54 [1,1,1,1,1,1,1,1,1,1,1,0,1,0,0,1,0,0,0]) e (setN (inB 3 (setN (setN (inB 2 (setN (kont Pg R Try.f54) (fun e => orpimentref35_Link_Output_j6 R (e 9)))) (fun e => k1 (e 0) (e 1) (e 7) (e 8) (e 9) (e 14))) (fun e => orpimentref35_Link_Output_j10 R k1 (e 0) (e 1) (e 7) (e 8) (e 9) (e 14)))) (fun e => orpimentref35_Link_Output_j12 R k1 (e 0) (e 1) (e 7) (e 8) (e 9) (e 14))) = (orpimentref35_Link_Output_j23 R k1 (e 0) (e 1) (e 7) (e 8) (e 9) (e 14)) := (by kernel_rfl)
def orpimentref35_Link_Output_j11 (R : ER) (k1 : Value → Value → Value → Value → Value → Value → WP) (x0 x1 x7 x8 x9 x14 : Value) : WP :=
  orpimentref35_Link_Output_j23 R k1 x0 x1 x7 x8 x9 x14
theorem orpimentref35_Link_Output_j11_ok (R : ER) (k1 : Value → Value → Value → Value → Value → Value → WP) (e : Env) : den Pg R (cd Try.f54 [1,1,1,1,1,1,1,1,1,1,1,0,1,0,0,1,0]) e (setN (setN (inB 2 (setN (kont Pg R Try.f54) (fun e => orpimentref35_Link_Output_j6 R (e 9)))) (fun e => k1 (e 0) (e 1) (e 7) (e 8) (e 9) (e 14))) (fun e => orpimentref35_Link_Output_j10 R k1 (e 0) (e 1) (e 7) (e 8) (e 9) (e 14))) = (orpimentref35_Link_Output_j11 R k1 (e 0) (e 1) (e 7) (e 8) (e 9) (e 14)) := (den_block Pg R (cd Try.f54 [1,1,1,1,1,1,1,1,1,1,1,0,1,0,0,1,0]) 3 (cd Try.f54 [1,1,1,1,1,1,1,1,1,1,1,0,1,0,0,1,0,0]) e (setN (setN (inB 2 (setN (kont Pg R Try.f54) (fun e => orpimentref35_Link_Output_j6 R (e 9)))) (fun e => k1 (e 0) (e 1) (e 7) (e 8) (e 9) (e 14))) (fun e => orpimentref35_Link_Output_j10 R k1 (e 0) (e 1) (e 7) (e 8) (e 9) (e 14))) _ (by kernel_rfl) (den_join Pg R 0 (cd Try.f54 [1,1,1,1,1,1,1,1,1,1,1,0,1,0,0,1,0,0]) (cd Try.f54 [1,1,1,1,1,1,1,1,1,1,1,0,1,0,0,1,0,0,1]) e (inB 3 (setN (setN (inB 2 (setN (kont Pg R Try.f54) (fun e => orpimentref35_Link_Output_j6 R (e 9)))) (fun e => k1 (e 0) (e 1) (e 7) (e 8) (e 9) (e 14))) (fun e => orpimentref35_Link_Output_j10 R k1 (e 0) (e 1) (e 7) (e 8) (e 9) (e 14)))) (fun e => orpimentref35_Link_Output_j12 R k1 (e 0) (e 1) (e 7) (e 8) (e 9) (e 14)) _ (by kernel_rfl) (fun e => orpimentref35_Link_Output_j12_ok R k1 e) (den_conv Pg R (pre 0 (cd Try.f54 [1,1,1,1,1,1,1,1,1,1,1,0,1,0,0,1,0,0])) (cd Try.f54 [1,1,1,1,1,1,1,1,1,1,1,0,1,0,0,1,0,0,0]) e (setN (inB 3 (setN (setN (inB 2 (setN (kont Pg R Try.f54) (fun e => orpimentref35_Link_Output_j6 R (e 9)))) (fun e => k1 (e 0) (e 1) (e 7) (e 8) (e 9) (e 14))) (fun e => orpimentref35_Link_Output_j10 R k1 (e 0) (e 1) (e 7) (e 8) (e 9) (e 14)))) (fun e => orpimentref35_Link_Output_j12 R k1 (e 0) (e 1) (e 7) (e 8) (e 9) (e 14))) _ (by kernel_rfl) (orpimentref35_Link_Output_j23_ok R k1 e))))
def orpimentref35_Link_Output_j9 (R : ER) (k1 : Value → Value → Value → Value → Value → Value → WP) (x0 x1 x7 x8 x9 x14 : Value) : WP :=
  orpimentref35_Link_Output_j11 R k1 x0 x1 x7 x8 x9 x14
theorem orpimentref35_Link_Output_j9_ok (R : ER) (k1 : Value → Value → Value → Value → Value → Value → WP) (e : Env) : den Pg R (cd Try.f54 [1,1,1,1,1,1,1,1,1,1,1,0,1,0,0,1]) e (setN (inB 2 (setN (kont Pg R Try.f54) (fun e => orpimentref35_Link_Output_j6 R (e 9)))) (fun e => k1 (e 0) (e 1) (e 7) (e 8) (e 9) (e 14))) = (orpimentref35_Link_Output_j9 R k1 (e 0) (e 1) (e 7) (e 8) (e 9) (e 14)) := (den_join Pg R 0 (cd Try.f54 [1,1,1,1,1,1,1,1,1,1,1,0,1,0,0,1]) (cd Try.f54 [1,1,1,1,1,1,1,1,1,1,1,0,1,0,0,1,1]) e (setN (inB 2 (setN (kont Pg R Try.f54) (fun e => orpimentref35_Link_Output_j6 R (e 9)))) (fun e => k1 (e 0) (e 1) (e 7) (e 8) (e 9) (e 14))) (fun e => orpimentref35_Link_Output_j10 R k1 (e 0) (e 1) (e 7) (e 8) (e 9) (e 14)) _ (by kernel_rfl) (fun e => orpimentref35_Link_Output_j10_ok R k1 e) (den_conv Pg R (pre 0 (cd Try.f54 [1,1,1,1,1,1,1,1,1,1,1,0,1,0,0,1])) (cd Try.f54 [1,1,1,1,1,1,1,1,1,1,1,0,1,0,0,1,0]) e (setN (setN (inB 2 (setN (kont Pg R Try.f54) (fun e => orpimentref35_Link_Output_j6 R (e 9)))) (fun e => k1 (e 0) (e 1) (e 7) (e 8) (e 9) (e 14))) (fun e => orpimentref35_Link_Output_j10 R k1 (e 0) (e 1) (e 7) (e 8) (e 9) (e 14))) _ (by kernel_rfl) (orpimentref35_Link_Output_j11_ok R k1 e)))
def orpimentref35_Link_Output_b1 (R : ER) (k1 : Value → Value → Value → Value → Value → Value → WP) (x0 x1 x7 x8 x9 x14 : Value) : WP :=
  pv (nilO x0) fun v62 =>
  pv (faO 5 v62) fun v63 =>
  ld1 v63 fun v64 =>
  pv (lenS v64) fun v65 =>
  pv (bin .lss x14 v65) fun v66 =>
  gd v66 true (pv (some x14)) fun v67 =>
  gd v66 true (pv (bin .lss v67 (.int .i64 8))) fun v68 =>
  pv (pickO v66 v68 (.bool false)) fun v69 =>
  cnd v69 (
   orpimentref35_Link_Output_j9 R k1 x0 x1 x7 x8 x9 x14) (
   orpimentref35_Link_Output_j6 R x9)
theorem orpimentref35_Link_Output_b1_ok (R : ER) (k1 : Value → Value → Value → Value → Value → Value → WP) (e : Env) : den Pg R (cd Try.f54 [1,1,1,1,1,1,1,1,1,1,1,0,1,0,0]) e (setN (inB 2 (setN (kont Pg R Try.f54) (fun e => orpimentref35_Link_Output_j6 R (e 9)))) (fun e => k1 (e 0) (e 1) (e 7) (e 8) (e 9) (e 14))) = (orpimentref35_Link_Output_b1 R k1 (e 0) (e 1) (e 7) (e 8) (e 9) (e 14)) := (den_join Pg R 0 (cd Try.f54 [1,1,1,1,1,1,1,1,1,1,1,0,1,0,0]) (cd Try.f54 [1,1,1,1,1,1,1,1,1,1,1,0,1,0,0,1]) e (setN (inB 2 (setN (kont Pg R Try.f54) (fun e => orpimentref35_Link_Output_j6 R (e 9)))) (fun e => k1 (e 0) (e 1) (e 7) (e 8) (e 9) (e 14))) (fun e => orpimentref35_Link_Output_j9 R k1 (e 0) (e 1) (e 7) (e 8) (e 9) (e 14)) _ (by kernel_rfl) (fun e => orpimentref35_Link_Output_j9_ok R k1 e) (by kernel_rfl))
noncomputable def orpimentref35_Link_Output_l2 (R : ER) (n : Nat) : Value → Value → Value → Value → Value → Value → WP := Nat.rec (motive := fun _ => Value → Value → Value → Value → Value → Value → WP) (fun _ _ _ _ _ _ => fun _ => False) (fun _ ih => fun x0 x1 x7 x8 x9 x14 => orpimentref35_Link_Output_b1 R ih x0 x1 x7 x8 x9 x14) n
theorem orpimentref35_Link_Output_l2_succ (R : ER) (n : Nat) (x0 x1 x7 x8 x9 x14 : Value) : orpimentref35_Link_Output_l2 R (n + 1) x0 x1 x7 x8 x9 x14 = orpimentref35_Link_Output_b1 R (orpimentref35_Link_Output_l2 R n) x0 x1 x7 x8 x9 x14 := rfl
theorem orpimentref35_Link_Output_l2_ok (R : ER) : ∀ (n : Nat) (e : Env), iterL (den Pg R (cd Try.f54 [1,1,1,1,1,1,1,1,1,1,1,0,1,0,0])) n e (inB 2 (setN (kont Pg R Try.f54) (fun e => orpimentref35_Link_Output_j6 R (e 9)))) = orpimentref35_Link_Output_l2 R n (e 0) (e 1) (e 7) (e 8) (e 9) (e 14) :=
  iterL_join (den Pg R (cd Try.f54 [1,1,1,1,1,1,1,1,1,1,1,0,1,0,0])) (inB 2 (setN (kont Pg R Try.f54) (fun e => orpimentref35_Link_Output_j6 R (e 9)))) (fun n e => orpimentref35_Link_Output_l2 R n (e 0) (e 1) (e 7) (e 8) (e 9) (e 14)) (fun _ => rfl) (fun n e => (orpimentref35_Link_Output_b1_ok R (orpimentref35_Link_Output_l2 R n) e).trans (orpimentref35_Link_Output_l2_succ R n (e 0) (e 1) (e 7) (e 8) (e 9) (e 14)).symm)
def orpimentref35_Link_Output_j8 (R : ER) (x0 x1 x7 x8 x9 x14 : Value) : WP :=
  exN fun n => orpimentref35_Link_Output_l2 R n x0 x1 x7 x8 x9 x14
theorem orpimentref35_Link_Output_j8_ok (R : ER) (e : Env) : den Pg R (cd Try.f54 [1,1,1,1,1,1,1,1,1,1,1,0,1]) e (setN (kont Pg R Try.f54) (fun e => orpimentref35_Link_Output_j6 R (e 9))) = (orpimentref35_Link_Output_j8 R (e 0) (e 1) (e 7) (e 8) (e 9) (e 14)) := (den_block Pg R (cd Try.f54 [1,1,1,1,1,1,1,1,1,1,1,0,1]) 2 (cd Try.f54 [1,1,1,1,1,1,1,1,1,1,1,0,1,0]) e (setN (kont Pg R Try.f54) (fun e => orpimentref35_Link_Output_j6 R (e 9))) _ (by kernel_rfl) (den_loop Pg R (cd Try.f54 [1,1,1,1,1,1,1,1,1,1,1,0,1,0]) (cd Try.f54 [1,1,1,1,1,1,1,1,1,1,1,0,1,0,0]) e (inB 2 (setN (kont Pg R Try.f54) (fun e => orpimentref35_Link_Output_j6 R (e 9)))) (fun n e => orpimentref35_Link_Output_l2 R n (e 0) (e 1) (e 7) (e 8) (e 9) (e 14)) _ (by kernel_rfl) (orpimentref35_Link_Output_l2_ok R) (by kernel_rfl)))
def orpimentref35_Link_Output_j7 (R : ER) (x0 x1 x7 x8 x9 : Value) : WP :=
  orpimentref35_Link_Output_j8 R x0 x1 x7 x8 x9 (.int .i64 0)
theorem orpimentref35_Link_Output_j7_ok (R : ER) (e : Env) : den Pg R (cd Try.f54 [1,1,1,1,1,1,1,1,1,1,1,0]) e (setN (kont Pg R Try.f54) (fun e => orpimentref35_Link_Output_j6 R (e 9))) = (orpimentref35_Link_Output_j7 R (e 0) (e 1) (e 7) (e 8) (e 9)) := (den_join Pg R 0 (cd Try.f54 [1,1,1,1,1,1,1,1,1,1,1,0]) (cd Try.f54 [1,1,1,1,1,1,1,1,1,1,1,0,1]) e (setN (kont Pg R Try.f54) (fun e => orpimentref35_Link_Output_j6 R (e 9))) (fun e => orpimentref35_Link_Output_j8 R (e 0) (e 1) (e 7) (e 8) (e 9) (e 14)) _ (by kernel_rfl) (fun e => orpimentref35_Link_Output_j8_ok R e) (by kernel_rfl))
def orpimentref35_Link_Output_j5 (R : ER) (x0 x1 x7 x8 x9 : Value) : WP :=
  orpimentref35_Link_Output_j7 R x0 x1 x7 x8 x9
theorem orpimentref35_Link_Output_j5_ok (R : ER) (e : Env) : den Pg R (cd Try.f54 [1,1,1,1,1,1,1,1,1,1,1]) e (kont Pg R Try.f54) = (orpimentref35_Link_Output_j5 R (e 0) (e 1) (e 7) (e 8) (e 9)) := (den_join Pg R 0 (cd Try.f54 [1,1,1,1,1,1,1,1,1,1,1]) (cd Try.f54 [1,1,1,1,1,1,1,1,1,1,1,1]) e (kont Pg R Try.f54) (fun e => orpimentref35_Link_Output_j6 R (e 9)) _ (by kernel_rfl) (fun e => orpimentref35_Link_Output_j6_ok R e) (den_conv Pg R (pre 0 (cd Try.f54 [1,1,1,1,1,1,1,1,1,1,1])) (cd Try.f54 [1,1,1,1,1,1,1,1,1,1,1,0]) e (setN (kont Pg R Try.f54) (fun e => orpimentref35_Link_Output_j6 R (e 9))) _ (by kernel_rfl) (orpimentref35_Link_Output_j7_ok R e)))
def orpimentref35_Link_Output_j4 (R : ER) (x0 x1 x7 x8 x9 : Value) : WP :=
  cnd x8 (
   pv (nilO x0) fun v70 =>
   pv (faO 8 v70) fun v71 =>
   ld1 v71 fun v72 =>
   pv (bin .add v72 (.int .i64 1)) fun v73 =>
   pv (nilO x0) fun v74 =>
   pv (faO 8 v74) fun v75 =>
   st1 v75 v73 fun _ =>
   orpimentref35_Link_Output_j5 R x0 x1 x7 x8 x9) (
   orpimentref35_Link_Output_j5 R x0 x1 x7 x8 x9)
theorem orpimentref35_Link_Output_j4_ok (R : ER) (e : Env) : den Pg R (cd Try.f54 [1,1,1,1,1,1,1,1,1,1]) e (kont Pg R Try.f54) = (orpimentref35_Link_Output_j4 R (e 0) (e 1) (e 7) (e 8) (e 9)) := (den_join Pg R 0 (cd Try.f54 [1,1,1,1,1,1,1,1,1,1]) (cd Try.f54 [1,1,1,1,1,1,1,1,1,1,1]) e (kont Pg R Try.f54) (fun e => orpimentref35_Link_Output_j5 R (e 0) (e 1) (e 7) (e 8) (e 9)) _ (by kernel_rfl) (fun e => orpimentref35_Link_Output_j5_ok R e) (by kernel_rfl))
def orpimentref35_Link_Output_j3 (R : ER) (x0 x1 x7 x8 x9 : Value) : WP :=
  pv (nilO x0) fun v76 =>
  pv (faO 14 v76) fun v77 =>
  st1 v77 (.slice none 0 0) fun _ =>
  pv (lenS x7) fun v78 =>
  pv (bin .eql v78 (.int .i64 0)) fun v79 =>
  cnd v79 (
   R (.returned (.tuple ⟨[x9, (.int .i64 0)]⟩))) (
   orpimentref35_Link_Output_j4 R x0 x1 x7 x8 x9)
theorem orpimentref35_Link_Output_j3_ok (R : ER) (e : Env) : den Pg R (cd Try.f54 [1,1,1,1,1,1,1,1]) e (kont Pg R Try.f54) = (orpimentref35_Link_Output_j3 R (e 0) (e 1) (e 7) (e 8) (e 9)) := (den_join Pg R 1 (cd Try.f54 [1,1,1,1,1,1,1,1]) (cd Try.f54 [1,1,1,1,1,1,1,1,1,1]) e (kont Pg R Try.f54) (fun e => orpimentref35_Link_Output_j4 R (e 0) (e 1) (e 7) (e 8) (e 9)) _ (by kernel_rfl) (fun e => orpimentref35_Link_Output_j4_ok R e) (by kernel_rfl))
def orpimentref35_Link_Output_j27 (R : ER) (k1 : Value → Value → Value → Value → Value → Value → WP) (x0 x1 x7 x8 x9 x10 : Value) : WP :=
  pv (bin .add x10 (.int .i64 1)) fun v80 =>
  k1 x0 x1 x7 x8 x9 v80
theorem orpimentref35_Link_Output_j27_ok (R : ER) (k1 : Value → Value → Value → Value → Value → Value → WP) (e : Env) : den Pg R (cd Try.f54 [1,1,1,1,1,1,1,0,1,0,0,1,1]) e (setN (inB 0 (setN (kont Pg R Try.f54) (fun e => orpimentref35_Link_Output_j3 R (e 0) (e 1) (e 7) (e 8) (e 9)))) (fun e => k1 (e 0) (e 1) (e 7) (e 8) (e 9) (e 10))) = (orpimentref35_Link_Output_j27 R k1 (e 0) (e 1) (e 7) (e 8) (e 9) (e 10)) := by kernel_rfl
def orpimentref35_Link_Output_j29 (R : ER) (k1 : Value → Value → Value → Value → Value → Value → WP) (x0 x1 x7 x8 x9 x10 x11 x13 : Value) : WP :=
  pv (bldO [.int .i64 0, .slice none 0 0] [(0,1, x13), (1,1, x11)]) fun v81 =>
  valV Pg R (Instr.buildSlice 127 1 ⟨[(0, v81)]⟩) fun v82 =>
  blt Pg R .append ⟨[127,127]⟩ 127 ⟨[false, false]⟩ ⟨[x9, v82]⟩ fun v83 =>
  orpimentref35_Link_Output_j27 R k1 x0 x1 x7 x8 v83 x10
theorem orpimentref35_Link_Output_j29_ok (R : ER) (k1 : Value → Value → Value → Value → Value → Value → WP) (e : Env) : den Pg R (cd Try.f54 [1,1,1,1,1,1,1,0,1,0,0,1,0,0,1,1,1]) e (inB 1 (setN (setN (inB 0 (setN (kont Pg R Try.f54) (fun e => orpimentref35_Link_Output_j3 R (e 0) (e 1) (e 7) (e 8) (e 9)))) (fun e => k1 (e 0) (e 1) (e 7) (e 8) (e 9) (e 10))) (fun e => orpimentref35_Link_Output_j27 R k1 (e 0) (e 1) (e 7) (e 8) (e 9) (e 10)))) = (orpimentref35_Link_Output_j29 R k1 (e 0) (e 1) (e 7) (e 8) (e 9) (e 10) (e 11) (e 13)) := by kernel_rfl
def orpimentref35_Link_Output_j28 (R : ER) (k1 : Value → Value → Value → Value → Value → Value → WP) (x0 x1 x7 x8 x9 x10 : Value) : WP :=
  pv (nilO x0) fun v84 =>
  pv (faO 14 v84) fun v85 =>
  ld1 v85 fun v86 =>
  pv (ixS 6 v86 x10) fun v87 =>
  pv (faO 1 v87) fun v88 =>
  ldN 5 v88 fun v89 =>
  cal Pg R 17 ⟨[v89]⟩ fun v90 =>
  pv (extO 0 v90) fun v91 =>
  pv (extO 1 v90) fun v92 =>
  pv (nilO x0) fun v93 =>
  pv (faO 14 v93) fun v94 =>
  ld1 v94 fun v95 =>
  pv (ixS 6 v95 x10) fun v96 =>
  pv (faO 0 v96) fun v97 =>
  ld1 v97 fun v98 =>
  pv (nilO x0) fun v99 =>
  pv (faO 0 v99) fun v100 =>
  ld1 v100 fun v101 =>
  pv (ixS 1 v101 v98) fun v102 =>
  ld1 v102 fun v103 =>
  pv (unO .not v103) fun v104 =>
  cnd v104 (
   pv (ixS 1 x7 (.int .i64 0)) fun v105 =>
   ld1 v105 fun v106 =>
   orpimentref35_Link_Output_j29 R k1 x0 x1 x7 x8 x9 x10 v91 v106) (
   orpimentref35_Link_Output_j29 R k1 x0 x1 x7 x8 x9 x10 v91 v98)
theorem orpimentref35_Link_Output_j28_ok (R : ER) (k1 : Value → Value → Value → Value → Value → Value → WP) (e : Env) : den Pg R (cd Try.f54 [1,1,1,1,1,1,1,0,1,0,0,1,0]) e (setN (setN (inB 0 (setN (kont Pg R Try.f54) (fun e => orpimentref35_Link_Output_j3 R (e 0) (e 1) (e 7) (e 8) (e 9)))) (fun e => k1 (e 0) (e 1) (e 7) (e 8) (e 9) (e 10))) (fun e => orpimentref35_Link_Output_j27 R k1 (e 0) (e 1) (e 7) (e 8) (e 9) (e 10))) = (orpimentref35_Link_Output_j28 R k1 (e 0) (e 1) (e 7) (e 8) (e 9) (e 10)) := (den_block Pg R (cd Try.f54 [1,1,1,1,1,1,1,0,1,0,0,1,0]) 1 (cd Try.f54 [1,1,1,1,1,1,1,0,1,0,0,1,0,0]) e (setN (setN (inB 0 (setN (kont Pg R Try.f54) (fun e => orpimentref35_Link_Output_j3 R (e 0) (e 1) (e 7) (e 8) (e 9)))) (fun e => k1 (e 0) (e 1) (e 7) (e 8) (e 9) (e 10))) (fun e => orpimentref35_Link_Output_j27 R k1 (e 0) (e 1) (e 7) (e 8) (e 9) (e 10))) _ (by kernel_rfl) (den_join Pg R 2 (cd Try.f54 [1,1,1,1,1,1,1,0,1,0,0,1,0,0]) (cd Try.f54 [1,1,1,1,1,1,1,0,1,0,0,1,0,0,1,1,1]) e (inB 1 (setN (setN (inB 0 (setN (kont Pg R Try.f54) (fun e => orpimentref35_Link_Output_j3 R (e 0) (e 1) (e 7) (e 8) (e 9)))) (fun e => k1 (e 0) (e 1) (e 7) (e 8) (e 9) (e 10))) (fun e => orpimentref35_Link_Output_j27 R k1 (e 0) (e 1) (e 7) (e 8) (e 9) (e 10)))) (fun e => orpimentref35_Link_Output_j29 R k1 (e 0) (e 1) (e 7) (e 8) (e 9) (e 10) (e 11) (e 13)) _ (by kernel_rfl) (fun e => orpimentref35_Link_Output_j29_ok R k1 e) (by kernel_rfl)))
def orpimentref35_Link_Output_j26 (R : ER) (k1 : Value → Value → Value → Value → Value → Value → WP) (x0 x1 x7 x8 x9 x10 : Value) : WP :=
  orpimentref35_Link_Output_j28 R k1 x0 x1 x7 x8 x9 x10
theorem orpimentref35_Link_Output_j26_ok (R : ER) (k1 : Value → Value → Value → Value → Value → Value → WP) (e : Env) : den Pg R (cd Try.f54 [1,1,1,1,1,1,1,0,1,0,0,1]) e (setN (inB 0 (setN (kont Pg R Try.f54) (fun e => orpimentref35_Link_Output_j3 R (e 0) (e 1) (e 7) (e 8) (e 9)))) (fun e => k1 (e 0) (e 1) (e 7) (e 8) (e 9) (e 10))) = (orpimentref35_Link_Output_j26 R k1 (e 0) (e 1) (e 7) (e 8) (e 9) (e 10)) := (den_join Pg R 0 (cd Try.f54 [1,1,1,1,1,1,1,0,1,0,0,1]) (cd Try.f54 [1,1,1,1,1,1,1,0,1,0,0,1,1]) e (setN (inB 0 (setN (kont Pg R Try.f54) (fun e => orpimentref35_Link_Output_j3 R (e 0) (e 1) (e 7) (e 8) (e 9)))) (fun e => k1 (e 0) (e 1) (e 7) (e 8) (e 9) (e 10))) (fun e => orpimentref35_Link_Output_j27 R k1 (e 0) (e 1) (e 7) (e 8) (e 9) (e 10)) _ (by kernel_rfl) (fun e => orpimentref35_Link_Output_j27_ok R k1 e) (den_conv Pg R (pre 0 (cd Try.f54 [1,1,1,1,1,1,1,0,1,0,0,1])) (cd Try.f54 [1,1,1,1,1,1,1,0,1,0,0,1,0]) e (setN (setN (inB 0 (setN (kont Pg R Try.f54) (fun e => orpimentref35_Link_Output_j3 R (e 0) (e 1) (e 7) (e 8) (e 9)))) (fun e => k1 (e 0) (e 1) (e 7) (e 8) (e 9) (e 10))) (fun e => orpimentref35_Link_Output_j27 R k1 (e 0) (e 1) (e 7) (e 8) (e 9) (e 10))) _ (by kernel_rfl) (orpimentref35_Link_Output_j28_ok R k1 e)))
def orpimentref35_Link_Output_b3 (R : ER) (k1 : Value → Value → Value → Value → Value → Value → WP) (x0 x1 x7 x8 x9 x10 : Value) : WP :=
  pv (nilO x0) fun v107 =>
  pv (faO 14 v107) fun v108 =>
  ld1 v108 fun v109 =>
  pv (lenS v109) fun v110 =>
  pv (bin .lss x10 v110) fun v111 =>
  gd v111 true (pv (some x7)) fun v112 =>
  gd v111 true (pv (lenS v112)) fun v113 =>
  gd v111 true (pv (bin .gtr v113 (.int .i64 0))) fun v114 =>
  pv (pickO v111 v114 (.bool false)) fun v115 =>
  cnd v115 (
   orpimentref35_Link_Output_j26 R k1 x0 x1 x7 x8 x9 x10) (
   orpimentref35_Link_Output_j3 R x0 x1 x7 x8 x9)
theorem orpimentref35_Link_Output_b3_ok (R : ER) (k1 : Value → Value → Value → Value → Value → Value → WP) (e : Env) : den Pg R (cd Try.f54 [1,1,1,1,1,1,1,0,1,0,0]) e (setN (inB 0 (setN (kont Pg R Try.f54) (fun e => orpimentref35_Link_Output_j3 R (e 0) (e 1) (e 7) (e 8) (e 9)))) (fun e => k1 (e 0) (e 1) (e 7) (e 8) (e 9) (e 10))) = (orpimentref35_Link_Output_b3 R k1 (e 0) (e 1) (e 7) (e 8) (e 9) (e 10)) := (den_join Pg R 0 (cd Try.f54 [1,1,1,1,1,1,1,0,1,0,0]) (cd Try.f54 [1,1,1,1,1,1,1,0,1,0,0,1]) e (setN (inB 0 (setN (kont Pg R Try.f54) (fun e => orpimentref35_Link_Output_j3 R (e 0) (e 1) (e 7) (e 8) (e 9)))) (fun e => k1 (e 0) (e 1) (e 7) (e 8) (e 9) (e 10))) (fun e => orpimentref35_Link_Output_j26 R k1 (e 0) (e 1) (e 7) (e 8) (e 9) (e 10)) _ (by kernel_rfl) (fun e => orpimentref35_Link_Output_j26_ok R k1 e) (by kernel_rfl))
noncomputable def orpimentref35_Link_Output_l3 (R : ER) (n : Nat) : Value → Value → Value → Value → Value → Value → WP := Nat.rec (motive := fun _ => Value → Value → Value → Value → Value → Value → WP) (fun _ _ _ _ _ _ => fun _ => False) (fun _ ih => fun x0 x1 x7 x8 x9 x10 => orpimentref35_Link_Output_b3 R ih x0 x1 x7 x8 x9 x10) n
theorem orpimentref35_Link_Output_l3_succ (R : ER) (n : Nat) (x0 x1 x7 x8 x9 x10 : Value) : orpimentref35_Link_Output_l3 R (n + 1) x0 x1 x7 x8 x9 x10 = orpimentref35_Link_Output_b3 R (orpimentref35_Link_Output_l3 R n) x0 x1 x7 x8 x9 x10 := rfl
theorem orpimentref35_Link_Output_l3_ok (R : ER) : ∀ (n : Nat) (e : Env), iterL (den Pg R (cd Try.f54 [1,1,1,1,1,1,1,0,1,0,0])) n e (inB 0 (setN (kont Pg R Try.f54) (fun e => orpimentref35_Link_Output_j3 R (e 0) (e 1) (e 7) (e 8) (e 9)))) = orpimentref35_Link_Output_l3 R n (e 0) (e 1) (e 7) (e 8) (e 9) (e 10) :=
  iterL_join (den Pg R (cd Try.f54 [1,1,1,1,1,1,1,0,1,0,0])) (inB 0 (setN (kont Pg R Try.f54) (fun e => orpimentref35_Link_Output_j3 R (e 0) (e 1) (e 7) (e 8) (e 9)))) (fun n e => orpimentref35_Link_Output_l3 R n (e 0) (e 1) (e 7) (e 8) (e 9) (e 10)) (fun _ => rfl) (fun n e => (orpimentref35_Link_Output_b3_ok R (orpimentref35_Link_Output_l3 R n) e).trans (orpimentref35_Link_Output_l3_succ R n (e 0) (e 1) (e 7) (e 8) (e 9) (e 10)).symm)
def orpimentref35_Link_Output_j25 (R : ER) (x0 x1 x7 x8 x9 x10 : Value) : WP :=
  exN fun n => orpimentref35_Link_Output_l3 R n x0 x1 x7 x8 x9 x10
theorem orpimentref35_Link_Output_j25_ok (R : ER) (e : Env) : den Pg R (cd Try.f54 [1,1,1,1,1,1,1,0,1]) e (setN (kont Pg R Try.f54) (fun e => orpimentref35_Link_Output_j3 R (e 0) (e 1) (e 7) (e 8) (e 9))) = (orpimentref35_Link_Output_j25 R (e 0) (e 1) (e 7) (e 8) (e 9) (e 10)) := (den_block Pg R (cd Try.f54 [1,1,1,1,1,1,1,0,1]) 0 (cd Try.f54 [1,1,1,1,1,1,1,0,1,0]) e (setN (kont Pg R Try.f54) (fun e => orpimentref35_Link_Output_j3 R (e 0) (e 1) (e 7) (e 8) (e 9))) _ (by kernel_rfl) (den_loop Pg R (cd Try.f54 [1,1,1,1,1,1,1,0,1,0]) (cd Try.f54 [1,1,1,1,1,1,1,0,1,0,0]) e (inB 0 (setN (kont Pg R Try.f54) (fun e => orpimentref35_Link_Output_j3 R (e 0) (e 1) (e 7) (e 8) (e 9)))) (fun n e => orpimentref35_Link_Output_l3 R n (e 0) (e 1) (e 7) (e 8) (e 9) (e 10)) _ (by kernel_rfl) (orpimentref35_Link_Output_l3_ok R) (by kernel_rfl)))
def orpimentref35_Link_Output_j24 (R : ER) (x0 x1 x7 x8 x9 : Value) : WP :=
  orpimentref35_Link_Output_j25 R x0 x1 x7 x8 x9 (.int .i64 0)
theorem orpimentref35_Link_Output_j24_ok (R : ER) (e : Env) : den Pg R (cd Try.f54 [1,1,1,1,1,1,1,0]) e (setN (kont Pg R Try.f54) (fun e => orpimentref35_Link_Output_j3 R (e 0) (e 1) (e 7) (e 8) (e 9))) = (orpimentref35_Link_Output_j24 R (e 0) (e 1) (e 7) (e 8) (e 9)) := (den_join Pg R 0 (cd Try.f54 [1,1,1,1,1,1,1,0]) (cd Try.f54 [1,1,1,1,1,1,1,0,1]) e (setN (kont Pg R Try.f54) (fun e => orpimentref35_Link_Output_j3 R (e 0) (e 1) (e 7) (e 8) (e 9))) (fun e => orpimentref35_Link_Output_j25 R (e 0) (e 1) (e 7) (e 8) (e 9) (e 10)) _ (by kernel_rfl) (fun e => orpimentref35_Link_Output_j25_ok R e) (by kernel_rfl))
def orpimentref35_Link_Output_j2 (R : ER) (x0 x1 x7 x8 : Value) : WP :=
  pv (nilO x0) fun v116 =>
  pv (faO 4 v116) fun v117 =>
  st1 v117 x1 fun _ =>
  valV Pg R (Instr.buildSlice 127 0 ⟨[]⟩) fun v118 =>
  orpimentref35_Link_Output_j24 R x0 x1 x7 x8 v118
theorem orpimentref35_Link_Output_j2_ok (R : ER) (e : Env) : den Pg R (cd Try.f54 [1,1,1,1,1]) e (kont Pg R Try.f54) = (orpimentref35_Link_Output_j2 R (e 0) (e 1) (e 7) (e 8)) := (den_join Pg R 2 (cd Try.f54 [1,1,1,1,1]) (cd Try.f54 [1,1,1,1,1,1,1,1]) e (kont Pg R Try.f54) (fun e => orpimentref35_Link_Output_j3 R (e 0) (e 1) (e 7) (e 8) (e 9)) _ (by kernel_rfl) (fun e => orpimentref35_Link_Output_j3_ok R e) (den_join Pg R 1 (pre 2 (cd Try.f54 [1,1,1,1,1])) (cd Try.f54 [1,1,1,1,1,1,1,0]) e (setN (kont Pg R Try.f54) (fun e => orpimentref35_Link_Output_j3 R (e 0) (e 1) (e 7) (e 8) (e 9))) (fun e => orpimentref35_Link_Output_j24 R (e 0) (e 1) (e 7) (e 8) (e 9)) _ (by kernel_rfl) (fun e => orpimentref35_Link_Output_j24_ok R e) (by kernel_rfl)))
def orpimentref35_Link_Output_j30 (R : ER) (x0 x1 x7 x8 : Value) : WP :=
  gd x8 true (pv (some x7)) fun v119 =>
  gd x8 true (pv (lenS v119)) fun v120 =>
  gd x8 true (pv (bin .gtr v120 (.int .i64 0))) fun v121 =>
  pv (pickO x8 v121 (.bool false)) fun v122 =>
  gd v122 true (pv (some x0)) fun v123 =>
  gd v122 true (pv (nilO v123)) fun v124 =>
  gd v122 true (pv (faO 8 v124)) fun v125 =>
  gd v122 true (ld1 v125) fun v126 =>
  gd v122 true (pv (bin .eql v126 (.int .i64 6))) fun v127 =>
  pv (pickO v122 v127 (.bool false)) fun v128 =>
  cnd v128 (
   pv (nilO x0) fun v129 =>
   pv (faO 10 v129) fun v130 =>
   st1 v130 (.bool true) fun _ =>
   R (.returned (.tuple ⟨[(.slice none 0 0), (.int .i64 4)]⟩))) (
   orpimentref35_Link_Output_j2 R x0 x1 x7 x8)
theorem orpimentref35_Link_Output_j30_ok (R : ER) (e : Env) : den Pg R (cd Try.f54 [1,1,1,1,0]) e (setN (kont Pg R Try.f54) (fun e => orpimentref35_Link_Output_j2 R (e 0) (e 1) (e 7) (e 8))) = (orpimentref35_Link_Output_j30 R (e 0) (e 1) (e 7) (e 8)) := (by kernel_rfl)
def orpimentref35_Link_Output_j1 (R : ER) (x0 x1 : Value) : WP :=
  cal Pg R 68 ⟨[x0]⟩ fun v131 =>
  drewV (
  pv (nilO x0) fun v132 =>
  pv (faO 5 v132) fun v133 =>
  ld1 v133 fun v134 =>
  pv (lenS v134) fun v135 =>
  pv (bin .gtr v135 (.int .i64 0)) fun v136 =>
  gd v136 true (pv (some x0)) fun v137 =>
  gd v136 true (pv (nilO v137)) fun v138 =>
  gd v136 true (pv (faO 5 v138)) fun v139 =>
  gd v136 true (ld1 v139) fun v140 =>
  gd v136 true (pv (ixS 6 v140 (.int .i64 0))) fun v141 =>
  gd v136 true (pv (faO 5 v141)) fun v142 =>
  gd v136 true (ld1 v142) fun v143 =>
  gd v136 true (pv (bin .geq v143 (.int .i64 0))) fun v144 =>
  pv (pickO v136 v144 (.bool false)) fun v145 =>
  gd v145 true (pv (some x1)) fun v146 =>
  gd v145 true (pv (some x0)) fun v147 =>
  gd v145 true (pv (nilO v147)) fun v148 =>
  gd v145 true (pv (faO 5 v148)) fun v149 =>
  gd v145 true (ld1 v149) fun v150 =>
  gd v145 true (pv (ixS 6 v150 (.int .i64 0))) fun v151 =>
  gd v145 true (pv (faO 5 v151)) fun v152 =>
  gd v145 true (ld1 v152) fun v153 =>
  gd v145 true (pv (bin .sub v146 v153)) fun v154 =>
  gd v145 true (pv (some x0)) fun v155 =>
  gd v145 true (pv (nilO v155)) fun v156 =>
  gd v145 true (pv (faO 3 v156)) fun v157 =>
  gd v145 true (ld1 v157) fun v158 =>
  gd v145 true (pv (bin .geq v154 v158)) fun v159 =>
  pv (pickO v145 v159 (.bool false)) fun v160 =>
  orpimentref35_Link_Output_j30 R x0 x1 v131 v160)
theorem orpimentref35_Link_Output_j1_ok (R : ER) (e : Env) : den Pg R (cd Try.f54 [1,1]) e (kont Pg R Try.f54) = (orpimentref35_Link_Output_j1 R (e 0) (e 1)) := (den_join Pg R 2 (cd Try.f54 [1,1]) (cd Try.f54 [1,1,1,1,1]) e (kont Pg R Try.f54) (fun e => orpimentref35_Link_Output_j2 R (e 0) (e 1) (e 7) (e 8)) _ (by kernel_rfl) (fun e => orpimentref35_Link_Output_j2_ok R e) (den_join Pg R 1 (pre 2 (cd Try.f54 [1,1])) (cd Try.f54 [1,1,1,1,0]) e (setN (kont Pg R Try.f54) (fun e => orpimentref35_Link_Output_j2 R (e 0) (e 1) (e 7) (e 8))) (fun e => orpimentref35_Link_Output_j30 R (e 0) (e 1) (e 7) (e 8)) _ (by kernel_rfl) (fun e => orpimentref35_Link_Output_j30_ok R e) (by kernel_rfl)))
def orpimentref35_Link_Output (R : ER) (x0 x1 : Value) : WP :=
  cal Pg R 66 ⟨[x0, x1]⟩ fun v161 =>
  pv (bin .neq v161 (.int .i64 0)) fun v162 =>
  cnd v162 (
   R (.returned (.tuple ⟨[(.slice none 0 0), v161]⟩))) (
   orpimentref35_Link_Output_j1 R x0 x1)
theorem orpimentref35_Link_Output_den (R : ER) (x0 x1 : Value) : den Pg R (cd Try.f54 []) (argsEnv [x0, x1]) (kont Pg R Try.f54) = orpimentref35_Link_Output R x0 x1 :=
  have h : ∀ e, den Pg R (cd Try.f54 []) e (kont Pg R Try.f54) = orpimentref35_Link_Output R (e 0) (e 1) := fun e => (den_join Pg R 1 (cd Try.f54 []) (cd Try.f54 [1,1]) e (kont Pg R Try.f54) (fun e => orpimentref35_Link_Output_j1 R (e 0) (e 1)) _ (by kernel_rfl) (fun e => orpimentref35_Link_Output_j1_ok R e) (by kernel_rfl))
  h _
theorem orpimentref35_Link_Output_calls {R : ER} {x0 x1 : Value} {w : World} (h : orpimentref35_Link_Output R x0 x1 w) : Calls Pg 54 ⟨[x0, x1]⟩ w R :=
  calls_of_den Try.func54 (by kernel_rfl) (by kernel_rfl) (orpimentref35_Link_Output_den R x0 x1) h
/-! ### 55: orpimentlaw35_out -/
def orpimentlaw35_out (R : ER) (x0 x1 : Value) : WP :=
  cal Pg R 69 ⟨[x0, x1, (.func (.func 70) ⟨[]⟩ ⟨[]⟩)]⟩ fun v1 =>
  R (.returned v1)
theorem orpimentlaw35_out_den (R : ER) (x0 x1 : Value) : den Pg R (cd Try.f55 []) (argsEnv [x0, x1]) (kont Pg R Try.f55) = orpimentlaw35_out R x0 x1 :=
  have h : ∀ e, den Pg R (cd Try.f55 []) e (kont Pg R Try.f55) = orpimentlaw35_out R (e 0) (e 1) := fun e => by kernel_rfl
  h _
theorem orpimentlaw35_out_calls {R : ER} {x0 x1 : Value} {w : World} (h : orpimentlaw35_out R x0 x1 w) : Calls Pg 55 ⟨[x0, x1]⟩ w R :=
  calls_of_den Try.func55 (by kernel_rfl) (by kernel_rfl) (orpimentlaw35_out_den R x0 x1) h
end Go.Proofs.Ytmnpndgmfmjfhaa.Den
