/- Printed by a program of this session: what the functions mean, and that the model means just that. Conditions: none. -/
import Derived.Test.YtmnpndgmfmjfhaaQ5
section
set_option linter.unusedVariables false
set_option maxRecDepth 100000
namespace Go.Proofs.Ytmnpndgmfmjfhaa.Den
open Go
/-! ### 56: F56 -/
def F56_j3 (R : ER) (x0 : Value) : WP :=
  pv (nilO x0) fun v1 =>
  pv (faO 5 v1) fun v2 =>
  ld1 v2 fun v3 =>
  pv (lenS v3) fun v4 =>
  pv (bin .gtr v4 (.int .i64 0)) fun v5 =>
  cnd v5 (
   drewV (
   pv (nilO x0) fun v6 =>
   pv (faO 4 v6) fun v7 =>
   ld1 v7 fun v8 =>
   pv (nilO x0) fun v9 =>
   pv (faO 5 v9) fun v10 =>
   ld1 v10 fun v11 =>
   pv (ixS 6 v11 (.int .i64 0)) fun v12 =>
   pv (faO 5 v12) fun v13 =>
   ld1 v13 fun v14 =>
   pv (nilO x0) fun v15 =>
   pv (faO 3 v15) fun v16 =>
   ld1 v16 fun v17 =>
   pv (bin .add v14 v17) fun v18 =>
   pv (max2I v8 v18) fun v19 =>
   R (.returned (.tuple ⟨[v19, (.bool true)]⟩)))) (
   R (.returned (.tuple ⟨[(.int .i64 0), (.bool false)]⟩)))
theorem F56_j3_ok (R : ER) (e : Env) : den Pg R (cd Try.f56 [1,1,1,1]) e (kont Pg R Try.f56) = (F56_j3 R (e 0)) := (by kernel_rfl)
def F56_j6 (R : ER) (k1 : V2) (x0 x4 : Value) : WP :=
  pv (nilO x0) fun v20 =>
  pv (faO 5 v20) fun v21 =>
  ld1 v21 fun v22 =>
  pv (ixS 6 v22 x4) fun v23 =>
  pv (faO 5 v23) fun v24 =>
  ld1 v24 fun v25 =>
  pv (bin .lss v25 (.int .i64 0)) fun v26 =>
  cnd v26 (
   pv (nilO x0) fun v27 =>
   pv (faO 4 v27) fun v28 =>
   ld1 v28 fun v29 =>
   R (.returned (.tuple ⟨[v29, (.bool true)]⟩))) (
   pv (bin .add x4 (.int .i64 1)) fun v30 =>
  k1 x0 v30)
theorem F56_j6_ok (R : ER) (k1 : V2) (e : Env) : den Pg R (cd Try.f56 [1,1,1,0,1,0,0,1]) e (setN (inB 0 (setN (kont Pg R Try.f56) (fun e => F56_j3 R (e 0)))) (fun e => k1 (e 0) (e 4))) = (F56_j6 R k1 (e 0) (e 4)) := (by kernel_rfl)
def F56_b1 (R : ER) (k1 : V2) (x0 x4 : Value) : WP :=
  pv (nilO x0) fun v31 =>
  pv (faO 5 v31) fun v32 =>
  ld1 v32 fun v33 =>
  pv (lenS v33) fun v34 =>
  pv (bin .lss x4 v34) fun v35 =>
  gd v35 true (pv (some x4)) fun v36 =>
  gd v35 true (pv (bin .lss v36 (.int .i64 8))) fun v37 =>
  pv (pickO v35 v37 (.bool false)) fun v38 =>
  cnd v38 (
   F56_j6 R k1 x0 x4) (
   F56_j3 R x0)
theorem F56_b1_ok (R : ER) (k1 : V2) (e : Env) : den Pg R (cd Try.f56 [1,1,1,0,1,0,0]) e (setN (inB 0 (setN (kont Pg R Try.f56) (fun e => F56_j3 R (e 0)))) (fun e => k1 (e 0) (e 4))) = (F56_b1 R k1 (e 0) (e 4)) := (den_join Pg R 0 (cd Try.f56 [1,1,1,0,1,0,0]) (cd Try.f56 [1,1,1,0,1,0,0,1]) e (setN (inB 0 (setN (kont Pg R Try.f56) (fun e => F56_j3 R (e 0)))) (fun e => k1 (e 0) (e 4))) (fun e => F56_j6 R k1 (e 0) (e 4)) _ (by kernel_rfl) (fun e => F56_j6_ok R k1 e) (by kernel_rfl))
noncomputable def F56_l1 (R : ER) (n : Nat) : V2 := Nat.rec (motive := fun _ => V2) (fun _ _ => fun _ => False) (fun _ ih => fun x0 x4 => F56_b1 R ih x0 x4) n
theorem F56_l1_succ (R : ER) (n : Nat) (x0 x4 : Value) : F56_l1 R (n + 1) x0 x4 = F56_b1 R (F56_l1 R n) x0 x4 := rfl
theorem F56_l1_ok (R : ER) : ∀ (n : Nat) (e : Env), iterL (den Pg R (cd Try.f56 [1,1,1,0,1,0,0])) n e (inB 0 (setN (kont Pg R Try.f56) (fun e => F56_j3 R (e 0)))) = F56_l1 R n (e 0) (e 4) :=
  iterL_join (den Pg R (cd Try.f56 [1,1,1,0,1,0,0])) (inB 0 (setN (kont Pg R Try.f56) (fun e => F56_j3 R (e 0)))) (fun n e => F56_l1 R n (e 0) (e 4)) (fun _ => rfl) (fun n e => (F56_b1_ok R (F56_l1 R n) e).trans (F56_l1_succ R n (e 0) (e 4)).symm)
def F56_j5 (R : ER) (x0 x4 : Value) : WP :=
  exN fun n => F56_l1 R n x0 x4
theorem F56_j5_ok (R : ER) (e : Env) : den Pg R (cd Try.f56 [1,1,1,0,1]) e (setN (kont Pg R Try.f56) (fun e => F56_j3 R (e 0))) = (F56_j5 R (e 0) (e 4)) := (den_block Pg R (cd Try.f56 [1,1,1,0,1]) 0 (cd Try.f56 [1,1,1,0,1,0]) e (setN (kont Pg R Try.f56) (fun e => F56_j3 R (e 0))) _ (by kernel_rfl) (den_loop Pg R (cd Try.f56 [1,1,1,0,1,0]) (cd Try.f56 [1,1,1,0,1,0,0]) e (inB 0 (setN (kont Pg R Try.f56) (fun e => F56_j3 R (e 0)))) (fun n e => F56_l1 R n (e 0) (e 4)) _ (by kernel_rfl) (F56_l1_ok R) (by kernel_rfl)))
def F56_j4 (R : ER) (x0 : Value) : WP :=
  F56_j5 R x0 (.int .i64 0)
theorem F56_j4_ok (R : ER) (e : Env) : den Pg R (cd Try.f56 [1,1,1,0]) e (setN (kont Pg R Try.f56) (fun e => F56_j3 R (e 0))) = (F56_j4 R (e 0)) := (den_join Pg R 0 (cd Try.f56 [1,1,1,0]) (cd Try.f56 [1,1,1,0,1]) e (setN (kont Pg R Try.f56) (fun e => F56_j3 R (e 0))) (fun e => F56_j5 R (e 0) (e 4)) _ (by kernel_rfl) (fun e => F56_j5_ok R e) (by kernel_rfl))
def F56_j2 (R : ER) (x0 : Value) : WP :=
  F56_j4 R x0
theorem F56_j2_ok (R : ER) (e : Env) : den Pg R (cd Try.f56 [1,1,1]) e (kont Pg R Try.f56) = (F56_j2 R (e 0)) := (den_join Pg R 0 (cd Try.f56 [1,1,1]) (cd Try.f56 [1,1,1,1]) e (kont Pg R Try.f56) (fun e => F56_j3 R (e 0)) _ (by kernel_rfl) (fun e => F56_j3_ok R e) (den_conv Pg R (pre 0 (cd Try.f56 [1,1,1])) (cd Try.f56 [1,1,1,0]) e (setN (kont Pg R Try.f56) (fun e => F56_j3 R (e 0))) _ (by kernel_rfl) (F56_j4_ok R e)))
def F56_j1 (R : ER) (x0 : Value) : WP :=
  pv (nilO x0) fun v39 =>
  pv (faO 14 v39) fun v40 =>
  ld1 v40 fun v41 =>
  pv (lenS v41) fun v42 =>
  pv (bin .gtr v42 (.int .i64 0)) fun v43 =>
  cnd v43 (
   pv (nilO x0) fun v44 =>
   pv (faO 4 v44) fun v45 =>
   ld1 v45 fun v46 =>
   R (.returned (.tuple ⟨[v46, (.bool true)]⟩))) (
   F56_j2 R x0)
theorem F56_j1_ok (R : ER) (e : Env) : den Pg R (cd Try.f56 [1,1]) e (kont Pg R Try.f56) = (F56_j1 R (e 0)) := (den_join Pg R 0 (cd Try.f56 [1,1]) (cd Try.f56 [1,1,1]) e (kont Pg R Try.f56) (fun e => F56_j2 R (e 0)) _ (by kernel_rfl) (fun e => F56_j2_ok R e) (by kernel_rfl))
def F56 (R : ER) (x0 : Value) : WP :=
  pv (nilO x0) fun v47 =>
  pv (faO 10 v47) fun v48 =>
  ld1 v48 fun v49 =>
  cnd v49 (
   R (.returned (.tuple ⟨[(.int .i64 0), (.bool false)]⟩))) (
   F56_j1 R x0)
theorem orpimentref35_Link_Next_den (R : ER) (x0 : Value) : den Pg R (cd Try.f56 []) (argsEnv [x0]) (kont Pg R Try.f56) = F56 R x0 :=
  have h : ∀ e, den Pg R (cd Try.f56 []) e (kont Pg R Try.f56) = F56 R (e 0) := fun e => (den_join Pg R 1 (cd Try.f56 []) (cd Try.f56 [1,1]) e (kont Pg R Try.f56) (fun e => F56_j1 R (e 0)) _ (by kernel_rfl) (fun e => F56_j1_ok R e) (by kernel_rfl))
  h _
theorem F56_calls {R : ER} {x0 : Value} {w : World} (h : F56 R x0 w) : Calls Pg 56 ⟨[x0]⟩ w R :=
  calls_of_den Try.func56 (by kernel_rfl) (by kernel_rfl) (orpimentref35_Link_Next_den R x0) h
/-! ### 57: F57 -/
def F57 (R : ER) (x0 : Value) : WP :=
  pv (nilO x0) fun v1 =>
  pv (faO 7 v1) fun v2 =>
  ld1 v2 fun v3 =>
  R (.returned v3)
theorem orpimentref35_Link_Acknowledged_den (R : ER) (x0 : Value) : den Pg R (cd Try.f57 []) (argsEnv [x0]) (kont Pg R Try.f57) = F57 R x0 :=
  have h : ∀ e, den Pg R (cd Try.f57 []) e (kont Pg R Try.f57) = F57 R (e 0) := fun e => by kernel_rfl
  h _
theorem F57_calls {R : ER} {x0 : Value} {w : World} (h : F57 R x0 w) : Calls Pg 57 ⟨[x0]⟩ w R :=
  calls_of_den Try.func57 (by kernel_rfl) (by kernel_rfl) (orpimentref35_Link_Acknowledged_den R x0) h
/-! ### 58: F58 -/
def F58 (R : ER) (x0 : Value) : WP :=
  pv (nilO x0) fun v1 =>
  pv (faO 10 v1) fun v2 =>
  ld1 v2 fun v3 =>
  R (.returned v3)
theorem orpimentref35_Link_Broken_den (R : ER) (x0 : Value) : den Pg R (cd Try.f58 []) (argsEnv [x0]) (kont Pg R Try.f58) = F58 R x0 :=
  have h : ∀ e, den Pg R (cd Try.f58 []) e (kont Pg R Try.f58) = F58 R (e 0) := fun e => by kernel_rfl
  h _
theorem F58_calls {R : ER} {x0 : Value} {w : World} (h : F58 R x0 w) : Calls Pg 58 ⟨[x0]⟩ w R :=
  calls_of_den Try.func58 (by kernel_rfl) (by kernel_rfl) (orpimentref35_Link_Broken_den R x0) h
/-! ### 59: F59 -/
def F59 (R : ER) (x0 x1 : Value) : WP :=
  bx 132 x1 fun v1 =>
  drewV (
  pv (faO 0 v1) fun v2 =>
  ld1 v2 fun v3 =>
  pv (nilO x0) fun v4 =>
  pv (faO 0 v4) fun v5 =>
  pv (ixA 2 1 v5 v3) fun v6 =>
  ld1 v6 fun v7 =>
  pv (faO 1 v1) fun v8 =>
  ld1 v8 fun v9 =>
  pv (faO 2 v1) fun v10 =>
  ld1 v10 fun v11 =>
  mem fun w13 => cal Pg noR 26 ⟨[v11]⟩ fun v12 =>
  rd1 v8 v9 <|
  rd1 v6 v7 <|
  rd1 v2 v3 <|
  pv (nilO x0) fun v14 =>
  pv (faO 5 v14) fun v15 =>
  ld1S [w13] v15 fun v16 =>
  mem fun w18 => cal Pg noR 23 ⟨[v7, v9, v12, v16]⟩ fun v17 =>
  pv (extO 0 v17) fun v19 =>
  pv (extO 1 v17) fun v20 =>
  drewV (
  pv (faO 0 v1) fun v21 =>
  ld1 v21 fun v22 =>
  pv (nilO x0) fun v23 =>
  pv (faO 2 v23) fun v24 =>
  pv (ixA 2 1 v24 v22) fun v25 =>
  ld1 v25 fun v26 =>
  pv (faO 1 v1) fun v27 =>
  ld1 v27 fun v28 =>
  pv (faO 2 v1) fun v29 =>
  ld1 v29 fun v30 =>
  pv (nilO x0) fun v31 =>
  pv (faO 5 v31) fun v32 =>
  ld1 v32 fun v33 =>
  mem fun w35 => cal Pg noR 51 ⟨[v26, v28, v30, v33]⟩ fun v34 =>
  pv (extO 0 v34) fun v36 =>
  pv (extO 1 v34) fun v37 =>
  drewV (
  pv (faO 0 v1) fun v38 =>
  ld1 v38 fun v39 =>
  pv (faO 0 v1) fun v40 =>
  ld1 v40 fun v41 =>
  pv (nilO x0) fun v42 =>
  pv (faO 8 v42) fun v43 =>
  pv (ixA 2 1 v43 v41) fun v44 =>
  ld1 v44 fun v45 =>
  mem fun w47 => blt Pg noR .append ⟨[36,36]⟩ 36 ⟨[false, false]⟩ ⟨[v45, v19]⟩ fun v46 =>
  rd1 v38 v39 <|
  pv (nilO x0) fun v48 =>
  pv (faO 8 v48) fun v49 =>
  pv (ixA 2 1 v49 v39) fun v50 =>
  mem fun w52 => st1 v50 v46 fun v51 =>
  pv (bin .eql v20 v37) fun v53 =>
  gd v53 true (pv (some v19)) fun v54 =>
  gd v53 true (pv (some v36)) fun v55 =>
  gd v53 true (cal Pg R 52 ⟨[v54, v55, (.func (.func 71) ⟨[]⟩ ⟨[]⟩)]⟩) fun v56 =>
  pv (pickO v53 v56 (.bool false)) fun v57 =>
  R (.returned v57))))
theorem orpimentlaw35_talk_arrive_den (R : ER) (x0 x1 : Value) : den Pg R (cd Try.f59 []) (argsEnv [x0, x1]) (kont Pg R Try.f59) = F59 R x0 x1 :=
  have h : ∀ e, den Pg R (cd Try.f59 []) e (kont Pg R Try.f59) = F59 R (e 0) (e 1) := fun e => by kernel_rfl
  h _
theorem F59_calls {R : ER} {x0 x1 : Value} {w : World} (h : F59 R x0 x1 w) : Calls Pg 59 ⟨[x0, x1]⟩ w R :=
  calls_of_den Try.func59 (by kernel_rfl) (by kernel_rfl) (orpimentlaw35_talk_arrive_den R x0 x1) h
/-! ### 60: F60 -/
def F60_j1 (R : ER) (x0 x1 x2 : Value) : WP :=
  pv (lenS x0) fun v1 =>
  drewV (
  pv (slS 4 x0 none (some x1)) fun v2 =>
  pv (slS 4 x0 (some x2) none) fun v3 =>
  mem fun w5 => blt Pg noR .append ⟨[35,35]⟩ 35 ⟨[false, false]⟩ ⟨[v2, v3]⟩ fun v4 =>
  pv (lenS v4) fun v6 =>
  pv (slS 4 v4 (some v6) (some v1)) fun v7 =>
  blt Pg R .clear ⟨[35]⟩ 0 ⟨[false]⟩ ⟨[v7]⟩ fun _ =>
  R (.returned v4))
theorem F60_j1_ok (R : ER) (e : Env) : den Pg R (cd Try.f60 [1,1,1]) e (kont Pg R Try.f60) = (F60_j1 R (e 0) (e 1) (e 2)) := by kernel_rfl
def F60 (R : ER) (x0 x1 x2 : Value) : WP :=
  pv (lenS x0) fun v8 =>
  valV Pg R (Instr.sliceAt 35 x0 (some x1) (some x2) (some v8)) fun v9 =>
  pv (bin .eql x1 x2) fun v10 =>
  cnd v10 (
   R (.returned x0)) (
   F60_j1 R x0 x1 x2)
theorem slices_Delete_den (R : ER) (x0 x1 x2 : Value) : den Pg R (cd Try.f60 []) (argsEnv [x0, x1, x2]) (kont Pg R Try.f60) = F60 R x0 x1 x2 :=
  have h : ∀ e, den Pg R (cd Try.f60 []) e (kont Pg R Try.f60) = F60 R (e 0) (e 1) (e 2) := fun e => (den_join Pg R 2 (cd Try.f60 []) (cd Try.f60 [1,1,1]) e (kont Pg R Try.f60) (fun e => F60_j1 R (e 0) (e 1) (e 2)) _ (by kernel_rfl) (fun e => F60_j1_ok R e) (by kernel_rfl))
  h _
theorem F60_calls {R : ER} {x0 x1 x2 : Value} {w : World} (h : F60 R x0 x1 x2 w) : Calls Pg 60 ⟨[x0, x1, x2]⟩ w R :=
  calls_of_den Try.func60 (by kernel_rfl) (by kernel_rfl) (slices_Delete_den R x0 x1 x2) h
/-! ### 61: F61 -/
def F61_b1 (R : ER) (k1 : V4) (x0 x1 x2 x4 : Value) : WP :=
  ld1 x1 fun v1 =>
  ld1 x2 fun v2 =>
  pv (lenS v2) fun v3 =>
  pv (min2I v1 v3) fun v4 =>
  ld1 x2 fun v5 =>
  pv (slS 1 v5 none (some v4)) fun v6 =>
  calD Pg R x0 ⟨[x4, v6]⟩ fun v7 =>
  pv (unO .not v7) fun v8 =>
  gd v8 false (pv (some v4)) fun v9 =>
  gd v8 false (ld1 x2) fun v10 =>
  gd v8 false (pv (lenS v10)) fun v11 =>
  gd v8 false (pv (bin .eql v9 v11)) fun v12 =>
  pv (pickO v8 (.bool true) v12) fun v13 =>
  cnd v13 (
   R (.returned (.tuple ⟨[]⟩))) (
   ld1 x2 fun v14 =>
  pv (slS 1 v14 (some v4) none) fun v15 =>
  st1 x2 v15 fun _ =>
  pv (bin .add x4 (.int .i64 1)) fun v16 =>
  k1 x0 x1 x2 v16)
theorem F61_b1_ok (R : ER) (k1 : V4) (e : Env) : den Pg R (cd Try.f61 [1,0,0]) e (setN (inB 0 (kont Pg R Try.f61)) (fun e => k1 (e 0) (e 1) (e 2) (e 4))) = (F61_b1 R k1 (e 0) (e 1) (e 2) (e 4)) := (by kernel_rfl)
noncomputable def F61_l1 (R : ER) (n : Nat) : V4 := Nat.rec (motive := fun _ => V4) (fun _ _ _ _ => fun _ => False) (fun _ ih => fun x0 x1 x2 x4 => F61_b1 R ih x0 x1 x2 x4) n
theorem F61_l1_succ (R : ER) (n : Nat) (x0 x1 x2 x4 : Value) : F61_l1 R (n + 1) x0 x1 x2 x4 = F61_b1 R (F61_l1 R n) x0 x1 x2 x4 := rfl
theorem F61_l1_ok (R : ER) : ∀ (n : Nat) (e : Env), iterL (den Pg R (cd Try.f61 [1,0,0])) n e (inB 0 (kont Pg R Try.f61)) = F61_l1 R n (e 0) (e 1) (e 2) (e 4) :=
  iterL_join (den Pg R (cd Try.f61 [1,0,0])) (inB 0 (kont Pg R Try.f61)) (fun n e => F61_l1 R n (e 0) (e 1) (e 2) (e 4)) (fun _ => rfl) (fun n e => (F61_b1_ok R (F61_l1 R n) e).trans (F61_l1_succ R n (e 0) (e 1) (e 2) (e 4)).symm)
def F61_j1 (R : ER) (x0 x1 x2 x4 : Value) : WP :=
  exN fun n => F61_l1 R n x0 x1 x2 x4
theorem F61_j1_ok (R : ER) (e : Env) : den Pg R (cd Try.f61 [1]) e (kont Pg R Try.f61) = (F61_j1 R (e 0) (e 1) (e 2) (e 4)) := (den_block Pg R (cd Try.f61 [1]) 0 (cd Try.f61 [1,0]) e (kont Pg R Try.f61) _ (by kernel_rfl) (den_loop Pg R (cd Try.f61 [1,0]) (cd Try.f61 [1,0,0]) e (inB 0 (kont Pg R Try.f61)) (fun n e => F61_l1 R n (e 0) (e 1) (e 2) (e 4)) _ (by kernel_rfl) (F61_l1_ok R) (by kernel_rfl)))
def F61 (R : ER) (x0 x1 x2 : Value) : WP :=
  F61_j1 R x0 x1 x2 (.int .i64 0)
theorem links_pieces_1_den (R : ER) (x0 x1 x2 : Value) : den Pg R (cd Try.f61 []) (argsEnv [x0, x1, x2]) (kont Pg R Try.f61) = F61 R x0 x1 x2 :=
  have h : ∀ e, den Pg R (cd Try.f61 []) e (kont Pg R Try.f61) = F61 R (e 0) (e 1) (e 2) := fun e => (den_join Pg R 0 (cd Try.f61 []) (cd Try.f61 [1]) e (kont Pg R Try.f61) (fun e => F61_j1 R (e 0) (e 1) (e 2) (e 4)) _ (by kernel_rfl) (fun e => F61_j1_ok R e) (by kernel_rfl))
  h _
theorem F61_calls {R : ER} {x0 x1 x2 : Value} {w : World} (h : F61 R x0 x1 x2 w) : Calls Pg 61 ⟨[x0, x1, x2]⟩ w R :=
  calls_of_den Try.func61 (by kernel_rfl) (by kernel_rfl) (links_pieces_1_den R x0 x1 x2) h
/-! ### 62: F62 -/
def F62_j1 (R : ER) : WP :=
  R (.returned (.int .i64 (-1)))
theorem F62_j1_ok (R : ER) (e : Env) : den Pg R (cd Try.f62 [1,1]) e (kont Pg R Try.f62) = (F62_j1 R) := by kernel_rfl
def F62_j4 (R : ER) (k1 : V4) (x0 x1 x7 x8 : Value) : WP :=
  pv (ixS 6 x0 x8) fun v1 =>
  ldN 6 v1 fun v2 =>
  calD Pg R x1 ⟨[v2]⟩ fun v3 =>
  cnd v3 (
   R (.returned x8)) (
   pv (bin .add x8 (.int .i64 1)) fun v4 =>
  k1 x0 x1 x7 v4)
theorem F62_j4_ok (R : ER) (k1 : V4) (e : Env) : den Pg R (cd Try.f62 [1,0,1,0,0,1,1]) e (setN (inB 0 (setN (kont Pg R Try.f62) (fun e => F62_j1 R))) (fun e => k1 (e 0) (e 1) (e 7) (e 8))) = (F62_j4 R k1 (e 0) (e 1) (e 7) (e 8)) := by kernel_rfl
def F62_b1 (R : ER) (k1 : V4) (x0 x1 x7 x8 : Value) : WP :=
  pv (bin .lss x8 x7) fun v5 =>
  cnd v5 (
   F62_j4 R k1 x0 x1 x7 x8) (
   F62_j1 R)
theorem F62_b1_ok (R : ER) (k1 : V4) (e : Env) : den Pg R (cd Try.f62 [1,0,1,0,0]) e (setN (inB 0 (setN (kont Pg R Try.f62) (fun e => F62_j1 R))) (fun e => k1 (e 0) (e 1) (e 7) (e 8))) = (F62_b1 R k1 (e 0) (e 1) (e 7) (e 8)) := (den_join Pg R 1 (cd Try.f62 [1,0,1,0,0]) (cd Try.f62 [1,0,1,0,0,1,1]) e (setN (inB 0 (setN (kont Pg R Try.f62) (fun e => F62_j1 R))) (fun e => k1 (e 0) (e 1) (e 7) (e 8))) (fun e => F62_j4 R k1 (e 0) (e 1) (e 7) (e 8)) _ (by kernel_rfl) (fun e => F62_j4_ok R k1 e) (by kernel_rfl))
noncomputable def F62_l1 (R : ER) (n : Nat) : V4 := Nat.rec (motive := fun _ => V4) (fun _ _ _ _ => fun _ => False) (fun _ ih => fun x0 x1 x7 x8 => F62_b1 R ih x0 x1 x7 x8) n
theorem F62_l1_succ (R : ER) (n : Nat) (x0 x1 x7 x8 : Value) : F62_l1 R (n + 1) x0 x1 x7 x8 = F62_b1 R (F62_l1 R n) x0 x1 x7 x8 := rfl
theorem F62_l1_ok (R : ER) : ∀ (n : Nat) (e : Env), iterL (den Pg R (cd Try.f62 [1,0,1,0,0])) n e (inB 0 (setN (kont Pg R Try.f62) (fun e => F62_j1 R))) = F62_l1 R n (e 0) (e 1) (e 7) (e 8) :=
  iterL_join (den Pg R (cd Try.f62 [1,0,1,0,0])) (inB 0 (setN (kont Pg R Try.f62) (fun e => F62_j1 R))) (fun n e => F62_l1 R n (e 0) (e 1) (e 7) (e 8)) (fun _ => rfl) (fun n e => (F62_b1_ok R (F62_l1 R n) e).trans (F62_l1_succ R n (e 0) (e 1) (e 7) (e 8)).symm)
def F62_j3 (R : ER) (x0 x1 x7 x8 : Value) : WP :=
  exN fun n => F62_l1 R n x0 x1 x7 x8
theorem F62_j3_ok (R : ER) (e : Env) : den Pg R (cd Try.f62 [1,0,1]) e (setN (kont Pg R Try.f62) (fun e => F62_j1 R)) = (F62_j3 R (e 0) (e 1) (e 7) (e 8)) := (den_block Pg R (cd Try.f62 [1,0,1]) 0 (cd Try.f62 [1,0,1,0]) e (setN (kont Pg R Try.f62) (fun e => F62_j1 R)) _ (by kernel_rfl) (den_loop Pg R (cd Try.f62 [1,0,1,0]) (cd Try.f62 [1,0,1,0,0]) e (inB 0 (setN (kont Pg R Try.f62) (fun e => F62_j1 R))) (fun n e => F62_l1 R n (e 0) (e 1) (e 7) (e 8)) _ (by kernel_rfl) (F62_l1_ok R) (by kernel_rfl)))
def F62_j2 (R : ER) (x0 x1 : Value) : WP :=
  pv (lenS x0) fun v6 =>
  F62_j3 R x0 x1 v6 (.int .i64 0)
theorem F62_j2_ok (R : ER) (e : Env) : den Pg R (cd Try.f62 [1,0]) e (setN (kont Pg R Try.f62) (fun e => F62_j1 R)) = (F62_j2 R (e 0) (e 1)) := (den_join Pg R 0 (cd Try.f62 [1,0]) (cd Try.f62 [1,0,1]) e (setN (kont Pg R Try.f62) (fun e => F62_j1 R)) (fun e => F62_j3 R (e 0) (e 1) (e 7) (e 8)) _ (by kernel_rfl) (fun e => F62_j3_ok R e) (by kernel_rfl))
def F62 (R : ER) (x0 x1 : Value) : WP :=
  F62_j2 R x0 x1
theorem slices_IndexFunc_den (R : ER) (x0 x1 : Value) : den Pg R (cd Try.f62 []) (argsEnv [x0, x1]) (kont Pg R Try.f62) = F62 R x0 x1 :=
  have h : ∀ e, den Pg R (cd Try.f62 []) e (kont Pg R Try.f62) = F62 R (e 0) (e 1) := fun e => (den_join Pg R 1 (cd Try.f62 []) (cd Try.f62 [1,1]) e (kont Pg R Try.f62) (fun e => F62_j1 R) _ (by kernel_rfl) (fun e => F62_j1_ok R e) (den_join Pg R 0 (pre 1 (cd Try.f62 [])) (cd Try.f62 [1,0]) e (setN (kont Pg R Try.f62) (fun e => F62_j1 R)) (fun e => F62_j2 R (e 0) (e 1)) _ (by kernel_rfl) (fun e => F62_j2_ok R e) (by kernel_rfl)))
  h _
theorem F62_calls {R : ER} {x0 x1 : Value} {w : World} (h : F62 R x0 x1 w) : Calls Pg 62 ⟨[x0, x1]⟩ w R :=
  calls_of_den Try.func62 (by kernel_rfl) (by kernel_rfl) (slices_IndexFunc_den R x0 x1) h
/-! ### 63: F63 -/
def F63_j1 (R : ER) (x1 x2 : Value) : WP :=
  pv (faO 2 x1) fun v1 =>
  ld1 v1 fun v2 =>
  pv (faO 0 x2) fun v3 =>
  pv (faO 2 v3) fun v4 =>
  ld1 v4 fun v5 =>
  pv (bin .eql v2 v5) fun v6 =>
  gd v6 true (pv (faO 3 x1)) fun v7 =>
  gd v6 true (ld1 v7) fun v8 =>
  gd v6 true (pv (faO 0 x2)) fun v9 =>
  gd v6 true (pv (faO 3 v9)) fun v10 =>
  gd v6 true (ld1 v10) fun v11 =>
  gd v6 true (pv (bin .add v11 (.int .i64 1))) fun v12 =>
  gd v6 true (pv (bin .eql v8 v12)) fun v13 =>
  pv (pickO v6 v13 (.bool false)) fun v14 =>
  R (.returned v14)
theorem F63_j1_ok (R : ER) (e : Env) : den Pg R (cd Try.f63 [1,1]) e (kont Pg R Try.f63) = (F63_j1 R (e 1) (e 2)) := by kernel_rfl
def F63_j4 (R : ER) (x1 x2 : Value) : WP :=
  pv (faO 2 x1) fun v15 =>
  ld1 v15 fun v16 =>
  pv (faO 0 x2) fun v17 =>
  pv (faO 2 v17) fun v18 =>
  ld1 v18 fun v19 =>
  pv (bin .add v19 (.int .i64 1)) fun v20 =>
  pv (bin .eql v16 v20) fun v21 =>
  gd v21 true (pv (faO 3 x1)) fun v22 =>
  gd v21 true (ld1 v22) fun v23 =>
  gd v21 true (pv (bin .eql v23 (.int .i64 0))) fun v24 =>
  pv (pickO v21 v24 (.bool false)) fun v25 =>
  R (.returned v25)
theorem F63_j4_ok (R : ER) (e : Env) : den Pg R (cd Try.f63 [1,0,1,0]) e (setN (kont Pg R Try.f63) (fun e => F63_j1 R (e 1) (e 2))) = (F63_j4 R (e 1) (e 2)) := by kernel_rfl
def F63_j3 (R : ER) (x1 x2 x6 : Value) : WP :=
  cnd x6 (F63_j4 R x1 x2) (F63_j1 R x1 x2)
theorem F63_j3_ok (R : ER) (e : Env) : den Pg R (cd Try.f63 [1,0,1]) e (setN (kont Pg R Try.f63) (fun e => F63_j1 R (e 1) (e 2))) = (F63_j3 R (e 1) (e 2) (e 6)) := (den_if Pg R (cd Try.f63 [1,0,1]) (cd Try.f63 [1,0,1,0]) (cd Try.f63 [1,0,1,1]) e (setN (kont Pg R Try.f63) (fun e => F63_j1 R (e 1) (e 2))) (F63_j4 R (e 1) (e 2)) _ _ (by kernel_rfl) (F63_j4_ok R e) rfl (by kernel_rfl))
def F63_j2 (R : ER) (x1 x2 : Value) : WP :=
  pv (faO 0 x2) fun v26 =>
  pv (faO 1 v26) fun v27 =>
  ld1 v27 fun v28 =>
  F63_j3 R x1 x2 v28
theorem F63_j2_ok (R : ER) (e : Env) : den Pg R (cd Try.f63 [1,0]) e (setN (kont Pg R Try.f63) (fun e => F63_j1 R (e 1) (e 2))) = (F63_j2 R (e 1) (e 2)) := (den_join Pg R 0 (cd Try.f63 [1,0]) (cd Try.f63 [1,0,1]) e (setN (kont Pg R Try.f63) (fun e => F63_j1 R (e 1) (e 2))) (fun e => F63_j3 R (e 1) (e 2) (e 6)) _ (by kernel_rfl) (fun e => F63_j3_ok R e) (by kernel_rfl))
def F63 (R : ER) (x0 x1 : Value) : WP :=
  bx 101 x0 fun v29 =>
  F63_j2 R x1 v29
theorem links_Link_acknowledge_1_den (R : ER) (x0 x1 : Value) : den Pg R (cd Try.f63 []) (argsEnv [x0, x1]) (kont Pg R Try.f63) = F63 R x0 x1 :=
  have h : ∀ e, den Pg R (cd Try.f63 []) e (kont Pg R Try.f63) = F63 R (e 0) (e 1) := fun e => (den_join Pg R 1 (cd Try.f63 []) (cd Try.f63 [1,1]) e (kont Pg R Try.f63) (fun e => F63_j1 R (e 1) (e 2)) _ (by kernel_rfl) (fun e => F63_j1_ok R e) (den_join Pg R 0 (pre 1 (cd Try.f63 [])) (cd Try.f63 [1,0]) e (setN (kont Pg R Try.f63) (fun e => F63_j1 R (e 1) (e 2))) (fun e => F63_j2 R (e 1) (e 2)) _ (by kernel_rfl) (fun e => F63_j2_ok R e) (by kernel_rfl)))
  h _
theorem F63_calls {R : ER} {x0 x1 : Value} {w : World} (h : F63 R x0 x1 w) : Calls Pg 63 ⟨[x0, x1]⟩ w R :=
  calls_of_den Try.func63 (by kernel_rfl) (by kernel_rfl) (links_Link_acknowledge_1_den R x0 x1) h
/-! ### 64: F64 -/
def F64_j1 (R : ER) (x0 x1 x2 : Value) : WP :=
  pv (lenS x0) fun v1 =>
  drewV (
  pv (slS 6 x0 none (some x1)) fun v2 =>
  pv (slS 6 x0 (some x2) none) fun v3 =>
  mem fun w5 => blt Pg noR .append ⟨[93,93]⟩ 93 ⟨[false, false]⟩ ⟨[v2, v3]⟩ fun v4 =>
  pv (lenS v4) fun v6 =>
  pv (slS 6 v4 (some v6) (some v1)) fun v7 =>
  blt Pg R .clear ⟨[93]⟩ 0 ⟨[false]⟩ ⟨[v7]⟩ fun _ =>
  R (.returned v4))
theorem F64_j1_ok (R : ER) (e : Env) : den Pg R (cd Try.f64 [1,1,1]) e (kont Pg R Try.f64) = (F64_j1 R (e 0) (e 1) (e 2)) := by kernel_rfl
def F64 (R : ER) (x0 x1 x2 : Value) : WP :=
  pv (lenS x0) fun v8 =>
  valV Pg R (Instr.sliceAt 93 x0 (some x1) (some x2) (some v8)) fun v9 =>
  pv (bin .eql x1 x2) fun v10 =>
  cnd v10 (
   R (.returned x0)) (
   F64_j1 R x0 x1 x2)
theorem slices_Delete_64_den (R : ER) (x0 x1 x2 : Value) : den Pg R (cd Try.f64 []) (argsEnv [x0, x1, x2]) (kont Pg R Try.f64) = F64 R x0 x1 x2 :=
  have h : ∀ e, den Pg R (cd Try.f64 []) e (kont Pg R Try.f64) = F64 R (e 0) (e 1) (e 2) := fun e => (den_join Pg R 2 (cd Try.f64 []) (cd Try.f64 [1,1,1]) e (kont Pg R Try.f64) (fun e => F64_j1 R (e 0) (e 1) (e 2)) _ (by kernel_rfl) (fun e => F64_j1_ok R e) (by kernel_rfl))
  h _
theorem F64_calls {R : ER} {x0 x1 x2 : Value} {w : World} (h : F64 R x0 x1 x2 w) : Calls Pg 64 ⟨[x0, x1, x2]⟩ w R :=
  calls_of_den Try.func64 (by kernel_rfl) (by kernel_rfl) (slices_Delete_64_den R x0 x1 x2) h
/-! ### 65: F65 -/
def F65_j1 (R : ER) (x0 x1 : Value) : WP :=
  cal Pg R 73 ⟨[x0, x1]⟩ fun v1 =>
  pv (extO 0 v1) fun v2 =>
  pv (extO 1 v1) fun v3 =>
  R (.returned (.tuple ⟨[v2, v3]⟩))
theorem F65_j1_ok (R : ER) (e : Env) : den Pg R (cd Try.f65 [1,1]) e (kont Pg R Try.f65) = (F65_j1 R (e 0) (e 1)) := by kernel_rfl
def F65_j3 (R : ER) (x0 x1 : Value) : WP :=
  pv (cvI .u32 x0) fun v4 =>
  pv (cvI .u32 x1) fun v5 =>
  cal Pg R 72 ⟨[v4, v5]⟩ fun v6 =>
  pv (extO 0 v6) fun v7 =>
  pv (extO 1 v6) fun v8 =>
  pv (cvI .u64 v7) fun v9 =>
  pv (cvI .u64 v8) fun v10 =>
  R (.returned (.tuple ⟨[v9, v10]⟩))
theorem F65_j3_ok (R : ER) (e : Env) : den Pg R (cd Try.f65 [1,0,0]) e (setN (kont Pg R Try.f65) (fun e => F65_j1 R (e 0) (e 1))) = (F65_j3 R (e 0) (e 1)) := by kernel_rfl
def F65_j2 (R : ER) (x0 x1 : Value) : WP :=
  cnd (.bool false) (F65_j3 R x0 x1) (F65_j1 R x0 x1)
theorem F65_j2_ok (R : ER) (e : Env) : den Pg R (cd Try.f65 [1,0]) e (setN (kont Pg R Try.f65) (fun e => F65_j1 R (e 0) (e 1))) = (F65_j2 R (e 0) (e 1)) := (den_if Pg R (cd Try.f65 [1,0]) (cd Try.f65 [1,0,0]) (cd Try.f65 [1,0,1]) e (setN (kont Pg R Try.f65) (fun e => F65_j1 R (e 0) (e 1))) (F65_j3 R (e 0) (e 1)) _ _ (by kernel_rfl) (F65_j3_ok R e) rfl (by kernel_rfl))
def F65 (R : ER) (x0 x1 : Value) : WP :=
  F65_j2 R x0 x1
theorem bits_Mul_den (R : ER) (x0 x1 : Value) : den Pg R (cd Try.f65 []) (argsEnv [x0, x1]) (kont Pg R Try.f65) = F65 R x0 x1 :=
  have h : ∀ e, den Pg R (cd Try.f65 []) e (kont Pg R Try.f65) = F65 R (e 0) (e 1) := fun e => (den_join Pg R 1 (cd Try.f65 []) (cd Try.f65 [1,1]) e (kont Pg R Try.f65) (fun e => F65_j1 R (e 0) (e 1)) _ (by kernel_rfl) (fun e => F65_j1_ok R e) (den_join Pg R 0 (pre 1 (cd Try.f65 [])) (cd Try.f65 [1,0]) e (setN (kont Pg R Try.f65) (fun e => F65_j1 R (e 0) (e 1))) (fun e => F65_j2 R (e 0) (e 1)) _ (by kernel_rfl) (fun e => F65_j2_ok R e) (by kernel_rfl)))
  h _
theorem F65_calls {R : ER} {x0 x1 : Value} {w : World} (h : F65 R x0 x1 w) : Calls Pg 65 ⟨[x0, x1]⟩ w R :=
  calls_of_den Try.func65 (by kernel_rfl) (by kernel_rfl) (bits_Mul_den R x0 x1) h
/-! ### 66: F66 -/
def F66_j1 (R : ER) (x0 x1 : Value) : WP :=
  pv (nilO x0) fun v1 =>
  pv (faO 4 v1) fun v2 =>
  ld1 v2 fun v3 =>
  pv (bin .lss x1 v3) fun v4 =>
  cnd v4 (
   R (.returned (.int .i64 30))) (
   pv (nilO x0) fun v5 =>
  pv (faO 10 v5) fun v6 =>
  ld1 v6 fun v7 =>
  cnd v7 (
   R (.returned (.int .i64 4))) (
   R (.returned (.int .i64 0))))
theorem F66_j1_ok (R : ER) (e : Env) : den Pg R (cd Try.f66 [1,1]) e (kont Pg R Try.f66) = (F66_j1 R (e 0) (e 1)) := (by kernel_rfl)
def F66 (R : ER) (x0 x1 : Value) : WP :=
  pv (bin .lss x1 (.int .i64 0)) fun v8 =>
  gd v8 false (pv (some x1)) fun v9 =>
  gd v8 false (pv (bin .gtr v9 (.int .i64 1099511627776))) fun v10 =>
  pv (pickO v8 (.bool true) v10) fun v11 =>
  cnd v11 (
   R (.returned (.int .i64 34))) (
   F66_j1 R x0 x1)
theorem orpimentref35_Link_time_den (R : ER) (x0 x1 : Value) : den Pg R (cd Try.f66 []) (argsEnv [x0, x1]) (kont Pg R Try.f66) = F66 R x0 x1 :=
  have h : ∀ e, den Pg R (cd Try.f66 []) e (kont Pg R Try.f66) = F66 R (e 0) (e 1) := fun e => (den_join Pg R 1 (cd Try.f66 []) (cd Try.f66 [1,1]) e (kont Pg R Try.f66) (fun e => F66_j1 R (e 0) (e 1)) _ (by kernel_rfl) (fun e => F66_j1_ok R e) (by kernel_rfl))
  h _
theorem F66_calls {R : ER} {x0 x1 : Value} {w : World} (h : F66 R x0 x1 w) : Calls Pg 66 ⟨[x0, x1]⟩ w R :=
  calls_of_den Try.func66 (by kernel_rfl) (by kernel_rfl) (orpimentref35_Link_time_den R x0 x1) h
/-! ### 67: F67 -/
def F67_j5 (R : ER) (x0 x4 : Value) : WP :=
  valV Pg R (Instr.buildSlice 122 0 ⟨[]⟩) fun v1 =>
  pv (nilO x0) fun v2 =>
  pv (faO 5 v2) fun v3 =>
  ld1 v3 fun v4 =>
  pv (slS 6 v4 (some x4) none) fun v5 =>
  blt Pg R .append ⟨[122,122]⟩ 122 ⟨[false, false]⟩ ⟨[v1, v5]⟩ fun v6 =>
  pv (nilO x0) fun v7 =>
  pv (faO 5 v7) fun v8 =>
  st1 v8 v6 fun _ =>
  pv (nilO x0) fun v9 =>
  pv (faO 8 v9) fun v10 =>
  st1 v10 (.int .i64 0) fun _ =>
  R (.returned (.tuple ⟨[]⟩))
theorem F67_j5_ok (R : ER) (e : Env) : den Pg R (cd Try.f67 [1,1,1,1,1,1,1,1,1]) e (kont Pg R Try.f67) = (F67_j5 R (e 0) (e 4)) := by kernel_rfl
def F67_j9 (R : ER) (k1 : V3) (x0 x4 x7 : Value) : WP :=
  pv (bin .add x7 (.int .i64 1)) fun v11 =>
  k1 x0 x4 v11
theorem F67_j9_ok (R : ER) (k1 : V3) (e : Env) : den Pg R (cd Try.f67 [1,1,1,1,1,1,1,1,0,1,0,0,1,1]) e (setN (inB 2 (setN (kont Pg R Try.f67) (fun e => F67_j5 R (e 0) (e 4)))) (fun e => k1 (e 0) (e 4) (e 7))) = (F67_j9 R k1 (e 0) (e 4) (e 7)) := by kernel_rfl
def F67_j12 (R : ER) (k1 : V3) (x0 x4 x7 : Value) : WP :=
  pv (nilO x0) fun v12 =>
  pv (faO 5 v12) fun v13 =>
  ld1 v13 fun v14 =>
  pv (ixS 6 v14 x7) fun v15 =>
  pv (faO 0 v15) fun v16 =>
  pv (faO 2 v16) fun v17 =>
  ld1 v17 fun v18 =>
  pv (nilO x0) fun v19 =>
  pv (faO 7 v19) fun v20 =>
  st1 v20 v18 fun _ =>
  F67_j9 R k1 x0 x4 x7
theorem F67_j12_ok (R : ER) (k1 : V3) (e : Env) : den Pg R (cd Try.f67 [1,1,1,1,1,1,1,1,0,1,0,0,1,0,0,1,0]) e (inB 3 (setN (setN (inB 2 (setN (kont Pg R Try.f67) (fun e => F67_j5 R (e 0) (e 4)))) (fun e => k1 (e 0) (e 4) (e 7))) (fun e => F67_j9 R k1 (e 0) (e 4) (e 7)))) = (F67_j12 R k1 (e 0) (e 4) (e 7)) := by kernel_rfl
def F67_j11 (R : ER) (k1 : V3) (x0 x4 x7 x104 : Value) : WP :=
  cnd x104 (F67_j12 R k1 x0 x4 x7) (F67_j9 R k1 x0 x4 x7)
theorem F67_j11_ok (R : ER) (k1 : V3) (e : Env) : den Pg R (cd Try.f67 [1,1,1,1,1,1,1,1,0,1,0,0,1,0,0,1]) e (inB 3 (setN (setN (inB 2 (setN (kont Pg R Try.f67) (fun e => F67_j5 R (e 0) (e 4)))) (fun e => k1 (e 0) (e 4) (e 7))) (fun e => F67_j9 R k1 (e 0) (e 4) (e 7)))) = (F67_j11 R k1 (e 0) (e 4) (e 7) (e 104)) := (den_if Pg R (cd Try.f67 [1,1,1,1,1,1,1,1,0,1,0,0,1,0,0,1]) (cd Try.f67 [1,1,1,1,1,1,1,1,0,1,0,0,1,0,0,1,0]) (cd Try.f67 [1,1,1,1,1,1,1,1,0,1,0,0,1,0,0,1,1]) e (inB 3 (setN (setN (inB 2 (setN (kont Pg R Try.f67) (fun e => F67_j5 R (e 0) (e 4)))) (fun e => k1 (e 0) (e 4) (e 7))) (fun e => F67_j9 R k1 (e 0) (e 4) (e 7)))) (F67_j12 R k1 (e 0) (e 4) (e 7)) _ _ (by kernel_rfl) (F67_j12_ok R k1 e) rfl (by kernel_rfl))
def F67_j10 (R : ER) (k1 : V3) (x0 x4 x7 : Value) : WP :=
  pv (nilO x0) fun v21 =>
  pv (faO 5 v21) fun v22 =>
  ld1 v22 fun v23 =>
  pv (ixS 6 v23 x7) fun v24 =>
  pv (faO 0 v24) fun v25 =>
  pv (faO 1 v25) fun v26 =>
  ld1 v26 fun v27 =>
  F67_j11 R k1 x0 x4 x7 v27
theorem F67_j10_ok (R : ER) (k1 : V3) (e : Env) : den Pg R (cd Try.f67 [1,1,1,1,1,1,1,1,0,1,0,0,1,0]) e (setN (setN (inB 2 (setN (kont Pg R Try.f67) (fun e => F67_j5 R (e 0) (e 4)))) (fun e => k1 (e 0) (e 4) (e 7))) (fun e => F67_j9 R k1 (e 0) (e 4) (e 7))) = (F67_j10 R k1 (e 0) (e 4) (e 7)) := (den_block Pg R (cd Try.f67 [1,1,1,1,1,1,1,1,0,1,0,0,1,0]) 3 (cd Try.f67 [1,1,1,1,1,1,1,1,0,1,0,0,1,0,0]) e (setN (setN (inB 2 (setN (kont Pg R Try.f67) (fun e => F67_j5 R (e 0) (e 4)))) (fun e => k1 (e 0) (e 4) (e 7))) (fun e => F67_j9 R k1 (e 0) (e 4) (e 7))) _ (by kernel_rfl) (den_join Pg R 0 (cd Try.f67 [1,1,1,1,1,1,1,1,0,1,0,0,1,0,0]) (cd Try.f67 [1,1,1,1,1,1,1,1,0,1,0,0,1,0,0,1]) e (inB 3 (setN (setN (inB 2 (setN (kont Pg R Try.f67) (fun e => F67_j5 R (e 0) (e 4)))) (fun e => k1 (e 0) (e 4) (e 7))) (fun e => F67_j9 R k1 (e 0) (e 4) (e 7)))) (fun e => F67_j11 R k1 (e 0) (e 4) (e 7) (e 104)) _ (by kernel_rfl) (fun e => F67_j11_ok R k1 e) (by kernel_rfl)))
def F67_j8 (R : ER) (k1 : V3) (x0 x4 x7 : Value) : WP :=
  F67_j10 R k1 x0 x4 x7
theorem F67_j8_ok (R : ER) (k1 : V3) (e : Env) : den Pg R (cd Try.f67 [1,1,1,1,1,1,1,1,0,1,0,0,1]) e (setN (inB 2 (setN (kont Pg R Try.f67) (fun e => F67_j5 R (e 0) (e 4)))) (fun e => k1 (e 0) (e 4) (e 7))) = (F67_j8 R k1 (e 0) (e 4) (e 7)) := (den_join Pg R 0 (cd Try.f67 [1,1,1,1,1,1,1,1,0,1,0,0,1]) (cd Try.f67 [1,1,1,1,1,1,1,1,0,1,0,0,1,1]) e (setN (inB 2 (setN (kont Pg R Try.f67) (fun e => F67_j5 R (e 0) (e 4)))) (fun e => k1 (e 0) (e 4) (e 7))) (fun e => F67_j9 R k1 (e 0) (e 4) (e 7)) _ (by kernel_rfl) (fun e => F67_j9_ok R k1 e) (den_conv Pg R (pre 0 (cd Try.f67 [1,1,1,1,1,1,1,1,0,1,0,0,1])) (cd Try.f67 [1,1,1,1,1,1,1,1,0,1,0,0,1,0]) e (setN (setN (inB 2 (setN (kont Pg R Try.f67) (fun e => F67_j5 R (e 0) (e 4)))) (fun e => k1 (e 0) (e 4) (e 7))) (fun e => F67_j9 R k1 (e 0) (e 4) (e 7))) _ (by kernel_rfl) (F67_j10_ok R k1 e)))
def F67_b1 (R : ER) (k1 : V3) (x0 x4 x7 : Value) : WP :=
  pv (bin .lss x7 x4) fun v28 =>
  cnd v28 (
   F67_j8 R k1 x0 x4 x7) (
   F67_j5 R x0 x4)
theorem F67_b1_ok (R : ER) (k1 : V3) (e : Env) : den Pg R (cd Try.f67 [1,1,1,1,1,1,1,1,0,1,0,0]) e (setN (inB 2 (setN (kont Pg R Try.f67) (fun e => F67_j5 R (e 0) (e 4)))) (fun e => k1 (e 0) (e 4) (e 7))) = (F67_b1 R k1 (e 0) (e 4) (e 7)) := (den_join Pg R 0 (cd Try.f67 [1,1,1,1,1,1,1,1,0,1,0,0]) (cd Try.f67 [1,1,1,1,1,1,1,1,0,1,0,0,1]) e (setN (inB 2 (setN (kont Pg R Try.f67) (fun e => F67_j5 R (e 0) (e 4)))) (fun e => k1 (e 0) (e 4) (e 7))) (fun e => F67_j8 R k1 (e 0) (e 4) (e 7)) _ (by kernel_rfl) (fun e => F67_j8_ok R k1 e) (by kernel_rfl))
noncomputable def F67_l1 (R : ER) (n : Nat) : V3 := Nat.rec (motive := fun _ => V3) (fun _ _ _ => fun _ => False) (fun _ ih => fun x0 x4 x7 => F67_b1 R ih x0 x4 x7) n
theorem F67_l1_succ (R : ER) (n : Nat) (x0 x4 x7 : Value) : F67_l1 R (n + 1) x0 x4 x7 = F67_b1 R (F67_l1 R n) x0 x4 x7 := rfl
theorem F67_l1_ok (R : ER) : ∀ (n : Nat) (e : Env), iterL (den Pg R (cd Try.f67 [1,1,1,1,1,1,1,1,0,1,0,0])) n e (inB 2 (setN (kont Pg R Try.f67) (fun e => F67_j5 R (e 0) (e 4)))) = F67_l1 R n (e 0) (e 4) (e 7) :=
  iterL_join (den Pg R (cd Try.f67 [1,1,1,1,1,1,1,1,0,1,0,0])) (inB 2 (setN (kont Pg R Try.f67) (fun e => F67_j5 R (e 0) (e 4)))) (fun n e => F67_l1 R n (e 0) (e 4) (e 7)) (fun _ => rfl) (fun n e => (F67_b1_ok R (F67_l1 R n) e).trans (F67_l1_succ R n (e 0) (e 4) (e 7)).symm)
def F67_j7 (R : ER) (x0 x4 x7 : Value) : WP :=
  exN fun n => F67_l1 R n x0 x4 x7
theorem F67_j7_ok (R : ER) (e : Env) : den Pg R (cd Try.f67 [1,1,1,1,1,1,1,1,0,1]) e (setN (kont Pg R Try.f67) (fun e => F67_j5 R (e 0) (e 4))) = (F67_j7 R (e 0) (e 4) (e 7)) := (den_block Pg R (cd Try.f67 [1,1,1,1,1,1,1,1,0,1]) 2 (cd Try.f67 [1,1,1,1,1,1,1,1,0,1,0]) e (setN (kont Pg R Try.f67) (fun e => F67_j5 R (e 0) (e 4))) _ (by kernel_rfl) (den_loop Pg R (cd Try.f67 [1,1,1,1,1,1,1,1,0,1,0]) (cd Try.f67 [1,1,1,1,1,1,1,1,0,1,0,0]) e (inB 2 (setN (kont Pg R Try.f67) (fun e => F67_j5 R (e 0) (e 4)))) (fun n e => F67_l1 R n (e 0) (e 4) (e 7)) _ (by kernel_rfl) (F67_l1_ok R) (by kernel_rfl)))
def F67_j6 (R : ER) (x0 x4 : Value) : WP :=
  F67_j7 R x0 x4 (.int .i64 0)
theorem F67_j6_ok (R : ER) (e : Env) : den Pg R (cd Try.f67 [1,1,1,1,1,1,1,1,0]) e (setN (kont Pg R Try.f67) (fun e => F67_j5 R (e 0) (e 4))) = (F67_j6 R (e 0) (e 4)) := (den_join Pg R 0 (cd Try.f67 [1,1,1,1,1,1,1,1,0]) (cd Try.f67 [1,1,1,1,1,1,1,1,0,1]) e (setN (kont Pg R Try.f67) (fun e => F67_j5 R (e 0) (e 4))) (fun e => F67_j7 R (e 0) (e 4) (e 7)) _ (by kernel_rfl) (fun e => F67_j7_ok R e) (by kernel_rfl))
def F67_j4 (R : ER) (x0 x4 : Value) : WP :=
  F67_j6 R x0 x4
theorem F67_j4_ok (R : ER) (e : Env) : den Pg R (cd Try.f67 [1,1,1,1,1,1,1,1]) e (kont Pg R Try.f67) = (F67_j4 R (e 0) (e 4)) := (den_join Pg R 0 (cd Try.f67 [1,1,1,1,1,1,1,1]) (cd Try.f67 [1,1,1,1,1,1,1,1,1]) e (kont Pg R Try.f67) (fun e => F67_j5 R (e 0) (e 4)) _ (by kernel_rfl) (fun e => F67_j5_ok R e) (den_conv Pg R (pre 0 (cd Try.f67 [1,1,1,1,1,1,1,1])) (cd Try.f67 [1,1,1,1,1,1,1,1,0]) e (setN (kont Pg R Try.f67) (fun e => F67_j5 R (e 0) (e 4))) _ (by kernel_rfl) (F67_j6_ok R e)))
def F67_j3 (R : ER) (x0 x3 x4 x6 : Value) : WP :=
  pv (faO 2 x3) fun v29 =>
  ld1 v29 fun v30 =>
  pv (faO 2 x6) fun v31 =>
  ld1 v31 fun v32 =>
  pv (bin .neq v30 v32) fun v33 =>
  gd v33 false (pv (faO 3 x3)) fun v34 =>
  gd v33 false (ld1 v34) fun v35 =>
  gd v33 false (pv (faO 3 x6)) fun v36 =>
  gd v33 false (ld1 v36) fun v37 =>
  gd v33 false (pv (bin .neq v35 v37)) fun v38 =>
  pv (pickO v33 (.bool true) v38) fun v39 =>
  cnd v39 (
   R (.returned (.tuple ⟨[]⟩))) (
   F67_j4 R x0 x4)
theorem F67_j3_ok (R : ER) (e : Env) : den Pg R (cd Try.f67 [1,1,1,1,1,1,1]) e (kont Pg R Try.f67) = (F67_j3 R (e 0) (e 3) (e 4) (e 6)) := (den_join Pg R 0 (cd Try.f67 [1,1,1,1,1,1,1]) (cd Try.f67 [1,1,1,1,1,1,1,1]) e (kont Pg R Try.f67) (fun e => F67_j4 R (e 0) (e 4)) _ (by kernel_rfl) (fun e => F67_j4_ok R e) (by kernel_rfl))
def F67_j2 (R : ER) (x0 x3 x4 : Value) : WP :=
  pv (nilO x0) fun v40 =>
  pv (faO 5 v40) fun v41 =>
  ld1 v41 fun v42 =>
  pv (bin .sub x4 (.int .i64 1)) fun v43 =>
  pv (ixS 6 v42 v43) fun v44 =>
  ldN 6 v44 fun v45 =>
  al Pg 141 fun v46 =>
  stN 6 v46 v45 fun _ =>
  pv (faO 0 v46) fun v47 =>
  pv (faO 2 v47) fun v48 =>
  ld1 v48 fun v49 =>
  pv (faO 0 v46) fun v50 =>
  pv (faO 3 v50) fun v51 =>
  ld1 v51 fun v52 =>
  pv (bin .add v52 (.int .i64 1)) fun v53 =>
  pv (bldO [.int .i64 0, .bool false, .int .i64 0, .int .i64 0, .slice none 0 0] [(2,1, v49), (3,1, v53)]) fun v54 =>
  al Pg 52 fun v55 =>
  stN 5 v55 v54 fun _ =>
  pv (faO 0 v46) fun v56 =>
  pv (faO 1 v56) fun v57 =>
  ld1 v57 fun v58 =>
  cnd v58 (
   pv (faO 0 v46) fun v59 =>
   pv (faO 2 v59) fun v60 =>
   ld1 v60 fun v61 =>
   pv (bin .add v61 (.int .i64 1)) fun v62 =>
   pv (bldO [.int .i64 0, .bool false, .int .i64 0, .int .i64 0, .slice none 0 0] [(2,1, v62)]) fun v63 =>
   stN 5 v55 v63 fun _ =>
   F67_j3 R x0 x3 x4 v55) (
   F67_j3 R x0 x3 x4 v55)
theorem F67_j2_ok (R : ER) (e : Env) : den Pg R (cd Try.f67 [1,1,1,1]) e (kont Pg R Try.f67) = (F67_j2 R (e 0) (e 3) (e 4)) := (den_join Pg R 2 (cd Try.f67 [1,1,1,1]) (cd Try.f67 [1,1,1,1,1,1,1]) e (kont Pg R Try.f67) (fun e => F67_j3 R (e 0) (e 3) (e 4) (e 6)) _ (by kernel_rfl) (fun e => F67_j3_ok R e) (by kernel_rfl))
def F67_j1 (R : ER) (x0 x3 x4 : Value) : WP :=
  pv (bin .eql x4 (.int .i64 0)) fun v64 =>
  cnd v64 (
   R (.returned (.tuple ⟨[]⟩))) (
   F67_j2 R x0 x3 x4)
theorem F67_j1_ok (R : ER) (e : Env) : den Pg R (cd Try.f67 [1,1,1]) e (kont Pg R Try.f67) = (F67_j1 R (e 0) (e 3) (e 4)) := (den_join Pg R 0 (cd Try.f67 [1,1,1]) (cd Try.f67 [1,1,1,1]) e (kont Pg R Try.f67) (fun e => F67_j2 R (e 0) (e 3) (e 4)) _ (by kernel_rfl) (fun e => F67_j2_ok R e) (by kernel_rfl))
def F67_b2 (R : ER) (k1 : V3) (x0 x3 x4 : Value) : WP :=
  drewV (
  pv (nilO x0) fun v65 =>
  pv (faO 5 v65) fun v66 =>
  ld1 v66 fun v67 =>
  pv (lenS v67) fun v68 =>
  pv (bin .lss x4 v68) fun v69 =>
  gd v69 true (pv (some x0)) fun v70 =>
  gd v69 true (pv (nilO v70)) fun v71 =>
  gd v69 true (pv (faO 5 v71)) fun v72 =>
  gd v69 true (ld1 v72) fun v73 =>
  gd v69 true (pv (some x4)) fun v74 =>
  gd v69 true (pv (ixS 6 v73 v74)) fun v75 =>
  gd v69 true (pv (faO 5 v75)) fun v76 =>
  gd v69 true (ld1 v76) fun v77 =>
  gd v69 true (pv (bin .geq v77 (.int .i64 0))) fun v78 =>
  pv (pickO v69 v78 (.bool false)) fun v79 =>
  gd v79 true (pv (faO 2 x3)) fun v80 =>
  gd v79 true (ld1 v80) fun v81 =>
  gd v79 true (pv (faO 3 x3)) fun v82 =>
  gd v79 true (ld1 v82) fun v83 =>
  gd v79 true (pv (some x0)) fun v84 =>
  gd v79 true (pv (nilO v84)) fun v85 =>
  gd v79 true (pv (faO 5 v85)) fun v86 =>
  gd v79 true (ld1 v86) fun v87 =>
  gd v79 true (pv (some x4)) fun v88 =>
  gd v79 true (pv (ixS 6 v87 v88)) fun v89 =>
  gd v79 true (pv (faO 0 v89)) fun v90 =>
  gd v79 true (pv (faO 2 v90)) fun v91 =>
  gd v79 true (ld1 v91) fun v92 =>
  gd v79 true (pv (some x0)) fun v93 =>
  gd v79 true (pv (nilO v93)) fun v94 =>
  gd v79 true (pv (faO 5 v94)) fun v95 =>
  gd v79 true (ld1 v95) fun v96 =>
  gd v79 true (pv (some x4)) fun v97 =>
  gd v79 true (pv (ixS 6 v96 v97)) fun v98 =>
  gd v79 true (pv (faO 0 v98)) fun v99 =>
  gd v79 true (pv (faO 3 v99)) fun v100 =>
  gd v79 true (ld1 v100) fun v101 =>
  mem fun w103 => gd v79 true (cal Pg noR 74 ⟨[v81, v83, v92, v101]⟩) fun v102 =>
  pv (pickO v79 v102 (.bool false)) fun v104 =>
  cnd v104 (
   pv (bin .add x4 (.int .i64 1)) fun v105 =>
  k1 x0 x3 v105) (
   F67_j1 R x0 x3 x4))
theorem F67_b2_ok (R : ER) (k1 : V3) (e : Env) : den Pg R (cd Try.f67 [1,1,0,0,0]) e (setN (inB 0 (setN (kont Pg R Try.f67) (fun e => F67_j1 R (e 0) (e 3) (e 4)))) (fun e => k1 (e 0) (e 3) (e 4))) = (F67_b2 R k1 (e 0) (e 3) (e 4)) := (by kernel_rfl)
noncomputable def F67_l2 (R : ER) (n : Nat) : V3 := Nat.rec (motive := fun _ => V3) (fun _ _ _ => fun _ => False) (fun _ ih => fun x0 x3 x4 => F67_b2 R ih x0 x3 x4) n
theorem F67_l2_succ (R : ER) (n : Nat) (x0 x3 x4 : Value) : F67_l2 R (n + 1) x0 x3 x4 = F67_b2 R (F67_l2 R n) x0 x3 x4 := rfl
theorem F67_l2_ok (R : ER) : ∀ (n : Nat) (e : Env), iterL (den Pg R (cd Try.f67 [1,1,0,0,0])) n e (inB 0 (setN (kont Pg R Try.f67) (fun e => F67_j1 R (e 0) (e 3) (e 4)))) = F67_l2 R n (e 0) (e 3) (e 4) :=
  iterL_join (den Pg R (cd Try.f67 [1,1,0,0,0])) (inB 0 (setN (kont Pg R Try.f67) (fun e => F67_j1 R (e 0) (e 3) (e 4)))) (fun n e => F67_l2 R n (e 0) (e 3) (e 4)) (fun _ => rfl) (fun n e => (F67_b2_ok R (F67_l2 R n) e).trans (F67_l2_succ R n (e 0) (e 3) (e 4)).symm)
def F67_j13 (R : ER) (x0 x3 x4 : Value) : WP :=
  exN fun n => F67_l2 R n x0 x3 x4
theorem F67_j13_ok (R : ER) (e : Env) : den Pg R (cd Try.f67 [1,1,0]) e (setN (kont Pg R Try.f67) (fun e => F67_j1 R (e 0) (e 3) (e 4))) = (F67_j13 R (e 0) (e 3) (e 4)) := (den_block Pg R (cd Try.f67 [1,1,0]) 0 (cd Try.f67 [1,1,0,0]) e (setN (kont Pg R Try.f67) (fun e => F67_j1 R (e 0) (e 3) (e 4))) _ (by kernel_rfl) (den_loop Pg R (cd Try.f67 [1,1,0,0]) (cd Try.f67 [1,1,0,0,0]) e (inB 0 (setN (kont Pg R Try.f67) (fun e => F67_j1 R (e 0) (e 3) (e 4)))) (fun n e => F67_l2 R n (e 0) (e 3) (e 4)) _ (by kernel_rfl) (F67_l2_ok R) (by kernel_rfl)))
def F67 (R : ER) (x0 x1 : Value) : WP :=
  bx 52 x1 fun v106 =>
  F67_j13 R x0 v106 (.int .i64 0)
theorem orpimentref35_Link_acknowledge_den (R : ER) (x0 x1 : Value) : den Pg R (cd Try.f67 []) (argsEnv [x0, x1]) (kont Pg R Try.f67) = F67 R x0 x1 :=
  have h : ∀ e, den Pg R (cd Try.f67 []) e (kont Pg R Try.f67) = F67 R (e 0) (e 1) := fun e => (den_join Pg R 2 (cd Try.f67 []) (cd Try.f67 [1,1,1]) e (kont Pg R Try.f67) (fun e => F67_j1 R (e 0) (e 3) (e 4)) _ (by kernel_rfl) (fun e => F67_j1_ok R e) (den_join Pg R 1 (pre 2 (cd Try.f67 [])) (cd Try.f67 [1,1,0]) e (setN (kont Pg R Try.f67) (fun e => F67_j1 R (e 0) (e 3) (e 4))) (fun e => F67_j13 R (e 0) (e 3) (e 4)) _ (by kernel_rfl) (fun e => F67_j13_ok R e) (by kernel_rfl)))
  h _
theorem F67_calls {R : ER} {x0 x1 : Value} {w : World} (h : F67 R x0 x1 w) : Calls Pg 67 ⟨[x0, x1]⟩ w R :=
  calls_of_den Try.func67 (by kernel_rfl) (by kernel_rfl) (orpimentref35_Link_acknowledge_den R x0 x1) h
/-! ### 68: F68 -/
def F68_j1 (R : ER) (x3 : Value) : WP :=
  R (.returned x3)
theorem F68_j1_ok (R : ER) (e : Env) : den Pg R (cd Try.f68 [1,1,1]) e (kont Pg R Try.f68) = (F68_j1 R (e 3)) := by kernel_rfl
def F68_j5 (R : ER) (k1 : V3) (x0 x3 x4 : Value) : WP :=
  pv (bin .add x4 (.int .i64 1)) fun v1 =>
  k1 x0 x3 v1
theorem F68_j5_ok (R : ER) (k1 : V3) (e : Env) : den Pg R (cd Try.f68 [1,1,0,1,0,0,1,1]) e (setN (inB 0 (setN (kont Pg R Try.f68) (fun e => F68_j1 R (e 3)))) (fun e => k1 (e 0) (e 3) (e 4))) = (F68_j5 R k1 (e 0) (e 3) (e 4)) := by kernel_rfl
def F68_j4 (R : ER) (k1 : V3) (x0 x3 x4 : Value) : WP :=
  pv (nilO x0) fun v2 =>
  pv (faO 0 v2) fun v3 =>
  ld1 v3 fun v4 =>
  pv (ixS 1 v4 x4) fun v5 =>
  ld1 v5 fun v6 =>
  cnd v6 (
   valV Pg R (Instr.buildSlice 104 1 ⟨[(0, x4)]⟩) fun v7 =>
   blt Pg R .append ⟨[104,104]⟩ 104 ⟨[false, false]⟩ ⟨[x3, v7]⟩ fun v8 =>
   F68_j5 R k1 x0 v8 x4) (
   F68_j5 R k1 x0 x3 x4)
theorem F68_j4_ok (R : ER) (k1 : V3) (e : Env) : den Pg R (cd Try.f68 [1,1,0,1,0,0,1]) e (setN (inB 0 (setN (kont Pg R Try.f68) (fun e => F68_j1 R (e 3)))) (fun e => k1 (e 0) (e 3) (e 4))) = (F68_j4 R k1 (e 0) (e 3) (e 4)) := (den_join Pg R 0 (cd Try.f68 [1,1,0,1,0,0,1]) (cd Try.f68 [1,1,0,1,0,0,1,1]) e (setN (inB 0 (setN (kont Pg R Try.f68) (fun e => F68_j1 R (e 3)))) (fun e => k1 (e 0) (e 3) (e 4))) (fun e => F68_j5 R k1 (e 0) (e 3) (e 4)) _ (by kernel_rfl) (fun e => F68_j5_ok R k1 e) (by kernel_rfl))
def F68_b1 (R : ER) (k1 : V3) (x0 x3 x4 : Value) : WP :=
  pv (nilO x0) fun v9 =>
  pv (faO 0 v9) fun v10 =>
  ld1 v10 fun v11 =>
  pv (lenS v11) fun v12 =>
  pv (bin .lss x4 v12) fun v13 =>
  cnd v13 (
   F68_j4 R k1 x0 x3 x4) (
   F68_j1 R x3)
theorem F68_b1_ok (R : ER) (k1 : V3) (e : Env) : den Pg R (cd Try.f68 [1,1,0,1,0,0]) e (setN (inB 0 (setN (kont Pg R Try.f68) (fun e => F68_j1 R (e 3)))) (fun e => k1 (e 0) (e 3) (e 4))) = (F68_b1 R k1 (e 0) (e 3) (e 4)) := (den_join Pg R 0 (cd Try.f68 [1,1,0,1,0,0]) (cd Try.f68 [1,1,0,1,0,0,1]) e (setN (inB 0 (setN (kont Pg R Try.f68) (fun e => F68_j1 R (e 3)))) (fun e => k1 (e 0) (e 3) (e 4))) (fun e => F68_j4 R k1 (e 0) (e 3) (e 4)) _ (by kernel_rfl) (fun e => F68_j4_ok R k1 e) (by kernel_rfl))
noncomputable def F68_l1 (R : ER) (n : Nat) : V3 := Nat.rec (motive := fun _ => V3) (fun _ _ _ => fun _ => False) (fun _ ih => fun x0 x3 x4 => F68_b1 R ih x0 x3 x4) n
theorem F68_l1_succ (R : ER) (n : Nat) (x0 x3 x4 : Value) : F68_l1 R (n + 1) x0 x3 x4 = F68_b1 R (F68_l1 R n) x0 x3 x4 := rfl
theorem F68_l1_ok (R : ER) : ∀ (n : Nat) (e : Env), iterL (den Pg R (cd Try.f68 [1,1,0,1,0,0])) n e (inB 0 (setN (kont Pg R Try.f68) (fun e => F68_j1 R (e 3)))) = F68_l1 R n (e 0) (e 3) (e 4) :=
  iterL_join (den Pg R (cd Try.f68 [1,1,0,1,0,0])) (inB 0 (setN (kont Pg R Try.f68) (fun e => F68_j1 R (e 3)))) (fun n e => F68_l1 R n (e 0) (e 3) (e 4)) (fun _ => rfl) (fun n e => (F68_b1_ok R (F68_l1 R n) e).trans (F68_l1_succ R n (e 0) (e 3) (e 4)).symm)
def F68_j3 (R : ER) (x0 x3 x4 : Value) : WP :=
  exN fun n => F68_l1 R n x0 x3 x4
theorem F68_j3_ok (R : ER) (e : Env) : den Pg R (cd Try.f68 [1,1,0,1]) e (setN (kont Pg R Try.f68) (fun e => F68_j1 R (e 3))) = (F68_j3 R (e 0) (e 3) (e 4)) := (den_block Pg R (cd Try.f68 [1,1,0,1]) 0 (cd Try.f68 [1,1,0,1,0]) e (setN (kont Pg R Try.f68) (fun e => F68_j1 R (e 3))) _ (by kernel_rfl) (den_loop Pg R (cd Try.f68 [1,1,0,1,0]) (cd Try.f68 [1,1,0,1,0,0]) e (inB 0 (setN (kont Pg R Try.f68) (fun e => F68_j1 R (e 3)))) (fun n e => F68_l1 R n (e 0) (e 3) (e 4)) _ (by kernel_rfl) (F68_l1_ok R) (by kernel_rfl)))
def F68_j2 (R : ER) (x0 x3 : Value) : WP :=
  F68_j3 R x0 x3 (.int .i64 0)
theorem F68_j2_ok (R : ER) (e : Env) : den Pg R (cd Try.f68 [1,1,0]) e (setN (kont Pg R Try.f68) (fun e => F68_j1 R (e 3))) = (F68_j2 R (e 0) (e 3)) := (den_join Pg R 0 (cd Try.f68 [1,1,0]) (cd Try.f68 [1,1,0,1]) e (setN (kont Pg R Try.f68) (fun e => F68_j1 R (e 3))) (fun e => F68_j3 R (e 0) (e 3) (e 4)) _ (by kernel_rfl) (fun e => F68_j3_ok R e) (by kernel_rfl))
def F68 (R : ER) (x0 : Value) : WP :=
  valV Pg R (Instr.buildSlice 104 0 ⟨[]⟩) fun v14 =>
  F68_j2 R x0 v14
theorem orpimentref35_Link_usable_den (R : ER) (x0 : Value) : den Pg R (cd Try.f68 []) (argsEnv [x0]) (kont Pg R Try.f68) = F68 R x0 :=
  have h : ∀ e, den Pg R (cd Try.f68 []) e (kont Pg R Try.f68) = F68 R (e 0) := fun e => (den_join Pg R 2 (cd Try.f68 []) (cd Try.f68 [1,1,1]) e (kont Pg R Try.f68) (fun e => F68_j1 R (e 3)) _ (by kernel_rfl) (fun e => F68_j1_ok R e) (den_join Pg R 1 (pre 2 (cd Try.f68 [])) (cd Try.f68 [1,1,0]) e (setN (kont Pg R Try.f68) (fun e => F68_j1 R (e 3))) (fun e => F68_j2 R (e 0) (e 3)) _ (by kernel_rfl) (fun e => F68_j2_ok R e) (by kernel_rfl)))
  h _
theorem F68_calls {R : ER} {x0 : Value} {w : World} (h : F68 R x0 w) : Calls Pg 68 ⟨[x0]⟩ w R :=
  calls_of_den Try.func68 (by kernel_rfl) (by kernel_rfl) (orpimentref35_Link_usable_den R x0) h
/-! ### 69: F69 -/
def F69_j2 (R : ER) : WP :=
  R (.returned (.bool true))
theorem F69_j2_ok (R : ER) (e : Env) : den Pg R (cd Try.f69 [1,1,1]) e (kont Pg R Try.f69) = (F69_j2 R) := by kernel_rfl
def F69_j5 (R : ER) (k1 : V5) (x1 x2 x15 x16 x17 : Value) : WP :=
  pv (ixS 2 x15 x17) fun v1 =>
  ldN 2 v1 fun v2 =>
  al Pg 90 fun v3 =>
  stN 2 v3 v2 fun _ =>
  pv (ixS 2 x1 x17) fun v4 =>
  ldN 2 v4 fun v5 =>
  al Pg 145 fun v6 =>
  stN 2 v6 v5 fun _ =>
  ldN 2 v3 fun v7 =>
  ldN 2 v6 fun v8 =>
  calD Pg R x2 ⟨[v7, v8]⟩ fun v9 =>
  pv (unO .not v9) fun v10 =>
  cnd v10 (
   R (.returned (.bool false))) (
   pv (bin .add x17 (.int .i64 1)) fun v11 =>
  k1 x1 x2 x15 x16 v11)
theorem F69_j5_ok (R : ER) (k1 : V5) (e : Env) : den Pg R (cd Try.f69 [1,1,0,1,0,0,1,1]) e (setN (inB 0 (setN (kont Pg R Try.f69) (fun e => F69_j2 R))) (fun e => k1 (e 1) (e 2) (e 15) (e 16) (e 17))) = (F69_j5 R k1 (e 1) (e 2) (e 15) (e 16) (e 17)) := (by kernel_rfl)
def F69_b1 (R : ER) (k1 : V5) (x1 x2 x15 x16 x17 : Value) : WP :=
  pv (bin .lss x17 x16) fun v12 =>
  cnd v12 (
   F69_j5 R k1 x1 x2 x15 x16 x17) (
   F69_j2 R)
theorem F69_b1_ok (R : ER) (k1 : V5) (e : Env) : den Pg R (cd Try.f69 [1,1,0,1,0,0]) e (setN (inB 0 (setN (kont Pg R Try.f69) (fun e => F69_j2 R))) (fun e => k1 (e 1) (e 2) (e 15) (e 16) (e 17))) = (F69_b1 R k1 (e 1) (e 2) (e 15) (e 16) (e 17)) := (den_join Pg R 1 (cd Try.f69 [1,1,0,1,0,0]) (cd Try.f69 [1,1,0,1,0,0,1,1]) e (setN (inB 0 (setN (kont Pg R Try.f69) (fun e => F69_j2 R))) (fun e => k1 (e 1) (e 2) (e 15) (e 16) (e 17))) (fun e => F69_j5 R k1 (e 1) (e 2) (e 15) (e 16) (e 17)) _ (by kernel_rfl) (fun e => F69_j5_ok R k1 e) (by kernel_rfl))
noncomputable def F69_l1 (R : ER) (n : Nat) : V5 := Nat.rec (motive := fun _ => V5) (fun _ _ _ _ _ => fun _ => False) (fun _ ih => fun x1 x2 x15 x16 x17 => F69_b1 R ih x1 x2 x15 x16 x17) n
theorem F69_l1_succ (R : ER) (n : Nat) (x1 x2 x15 x16 x17 : Value) : F69_l1 R (n + 1) x1 x2 x15 x16 x17 = F69_b1 R (F69_l1 R n) x1 x2 x15 x16 x17 := rfl
theorem F69_l1_ok (R : ER) : ∀ (n : Nat) (e : Env), iterL (den Pg R (cd Try.f69 [1,1,0,1,0,0])) n e (inB 0 (setN (kont Pg R Try.f69) (fun e => F69_j2 R))) = F69_l1 R n (e 1) (e 2) (e 15) (e 16) (e 17) :=
  iterL_join (den Pg R (cd Try.f69 [1,1,0,1,0,0])) (inB 0 (setN (kont Pg R Try.f69) (fun e => F69_j2 R))) (fun n e => F69_l1 R n (e 1) (e 2) (e 15) (e 16) (e 17)) (fun _ => rfl) (fun n e => (F69_b1_ok R (F69_l1 R n) e).trans (F69_l1_succ R n (e 1) (e 2) (e 15) (e 16) (e 17)).symm)
def F69_j4 (R : ER) (x1 x2 x15 x16 x17 : Value) : WP :=
  exN fun n => F69_l1 R n x1 x2 x15 x16 x17
theorem F69_j4_ok (R : ER) (e : Env) : den Pg R (cd Try.f69 [1,1,0,1]) e (setN (kont Pg R Try.f69) (fun e => F69_j2 R)) = (F69_j4 R (e 1) (e 2) (e 15) (e 16) (e 17)) := (den_block Pg R (cd Try.f69 [1,1,0,1]) 0 (cd Try.f69 [1,1,0,1,0]) e (setN (kont Pg R Try.f69) (fun e => F69_j2 R)) _ (by kernel_rfl) (den_loop Pg R (cd Try.f69 [1,1,0,1,0]) (cd Try.f69 [1,1,0,1,0,0]) e (inB 0 (setN (kont Pg R Try.f69) (fun e => F69_j2 R))) (fun n e => F69_l1 R n (e 1) (e 2) (e 15) (e 16) (e 17)) _ (by kernel_rfl) (F69_l1_ok R) (by kernel_rfl)))
def F69_j3 (R : ER) (x0 x1 x2 : Value) : WP :=
  pv (lenS x0) fun v13 =>
  F69_j4 R x1 x2 x0 v13 (.int .i64 0)
theorem F69_j3_ok (R : ER) (e : Env) : den Pg R (cd Try.f69 [1,1,0]) e (setN (kont Pg R Try.f69) (fun e => F69_j2 R)) = (F69_j3 R (e 0) (e 1) (e 2)) := (den_join Pg R 0 (cd Try.f69 [1,1,0]) (cd Try.f69 [1,1,0,1]) e (setN (kont Pg R Try.f69) (fun e => F69_j2 R)) (fun e => F69_j4 R (e 1) (e 2) (e 15) (e 16) (e 17)) _ (by kernel_rfl) (fun e => F69_j4_ok R e) (by kernel_rfl))
def F69_j1 (R : ER) (x0 x1 x2 : Value) : WP :=
  F69_j3 R x0 x1 x2
theorem F69_j1_ok (R : ER) (e : Env) : den Pg R (cd Try.f69 [1,1]) e (kont Pg R Try.f69) = (F69_j1 R (e 0) (e 1) (e 2)) := (den_join Pg R 0 (cd Try.f69 [1,1]) (cd Try.f69 [1,1,1]) e (kont Pg R Try.f69) (fun e => F69_j2 R) _ (by kernel_rfl) (fun e => F69_j2_ok R e) (den_conv Pg R (pre 0 (cd Try.f69 [1,1])) (cd Try.f69 [1,1,0]) e (setN (kont Pg R Try.f69) (fun e => F69_j2 R)) _ (by kernel_rfl) (F69_j3_ok R e)))
def F69 (R : ER) (x0 x1 x2 : Value) : WP :=
  pv (lenS x0) fun v14 =>
  pv (lenS x1) fun v15 =>
  pv (bin .neq v14 v15) fun v16 =>
  cnd v16 (
   R (.returned (.bool false))) (
   F69_j1 R x0 x1 x2)
theorem slices_EqualFunc_69_den (R : ER) (x0 x1 x2 : Value) : den Pg R (cd Try.f69 []) (argsEnv [x0, x1, x2]) (kont Pg R Try.f69) = F69 R x0 x1 x2 :=
  have h : ∀ e, den Pg R (cd Try.f69 []) e (kont Pg R Try.f69) = F69 R (e 0) (e 1) (e 2) := fun e => (den_join Pg R 1 (cd Try.f69 []) (cd Try.f69 [1,1]) e (kont Pg R Try.f69) (fun e => F69_j1 R (e 0) (e 1) (e 2)) _ (by kernel_rfl) (fun e => F69_j1_ok R e) (by kernel_rfl))
  h _
theorem F69_calls {R : ER} {x0 x1 x2 : Value} {w : World} (h : F69 R x0 x1 x2 w) : Calls Pg 69 ⟨[x0, x1, x2]⟩ w R :=
  calls_of_den Try.func69 (by kernel_rfl) (by kernel_rfl) (slices_EqualFunc_69_den R x0 x1 x2) h
/-! ### 70: F70 -/
def F70 (R : ER) (x0 x1 : Value) : WP :=
  bx 90 x0 fun v1 =>
  bx 145 x1 fun v2 =>
  pv (faO 0 v1) fun v3 =>
  ld1 v3 fun v4 =>
  pv (faO 0 v2) fun v5 =>
  ld1 v5 fun v6 =>
  pv (bin .eql v4 v6) fun v7 =>
  gd v7 true (pv (faO 1 v1)) fun v8 =>
  gd v7 true (ld1 v8) fun v9 =>
  gd v7 true (pv (faO 1 v2)) fun v10 =>
  gd v7 true (ld1 v10) fun v11 =>
  gd v7 true (cal Pg R 19 ⟨[v9, v11]⟩) fun v12 =>
  pv (pickO v7 v12 (.bool false)) fun v13 =>
  R (.returned v13)
theorem orpimentlaw35_out_1_den (R : ER) (x0 x1 : Value) : den Pg R (cd Try.f70 []) (argsEnv [x0, x1]) (kont Pg R Try.f70) = F70 R x0 x1 :=
  have h : ∀ e, den Pg R (cd Try.f70 []) e (kont Pg R Try.f70) = F70 R (e 0) (e 1) := fun e => by kernel_rfl
  h _
theorem F70_calls {R : ER} {x0 x1 : Value} {w : World} (h : F70 R x0 x1 w) : Calls Pg 70 ⟨[x0, x1]⟩ w R :=
  calls_of_den Try.func70 (by kernel_rfl) (by kernel_rfl) (orpimentlaw35_out_1_den R x0 x1) h
/-! ### 71: F71 -/
def F71 (R : ER) (x0 x1 : Value) : WP :=
  cal Pg R 19 ⟨[x0, x1]⟩ fun v1 =>
  R (.returned v1)
theorem orpimentlaw35_talk_arrive_1_den (R : ER) (x0 x1 : Value) : den Pg R (cd Try.f71 []) (argsEnv [x0, x1]) (kont Pg R Try.f71) = F71 R x0 x1 :=
  have h : ∀ e, den Pg R (cd Try.f71 []) e (kont Pg R Try.f71) = F71 R (e 0) (e 1) := fun e => by kernel_rfl
  h _
theorem F71_calls {R : ER} {x0 x1 : Value} {w : World} (h : F71 R x0 x1 w) : Calls Pg 71 ⟨[x0, x1]⟩ w R :=
  calls_of_den Try.func71 (by kernel_rfl) (by kernel_rfl) (orpimentlaw35_talk_arrive_1_den R x0 x1) h
/-! ### 72: F72 -/
def F72 (R : ER) (x0 x1 : Value) : WP :=
  pv (cvI .u64 x0) fun v1 =>
  pv (cvI .u64 x1) fun v2 =>
  pv (bin .mul v1 v2) fun v3 =>
  pv (bin .shr v3 (.int .u64 32)) fun v4 =>
  pv (cvI .u32 v4) fun v5 =>
  pv (cvI .u32 v3) fun v6 =>
  R (.returned (.tuple ⟨[v5, v6]⟩))
theorem bits_Mul32_den (R : ER) (x0 x1 : Value) : den Pg R (cd Try.f72 []) (argsEnv [x0, x1]) (kont Pg R Try.f72) = F72 R x0 x1 :=
  have h : ∀ e, den Pg R (cd Try.f72 []) e (kont Pg R Try.f72) = F72 R (e 0) (e 1) := fun e => by kernel_rfl
  h _
theorem F72_calls {R : ER} {x0 x1 : Value} {w : World} (h : F72 R x0 x1 w) : Calls Pg 72 ⟨[x0, x1]⟩ w R :=
  calls_of_den Try.func72 (by kernel_rfl) (by kernel_rfl) (bits_Mul32_den R x0 x1) h
/-! ### 73: F73 -/
def F73_j3 (R : ER) (x0 x1 x4 : Value) : WP :=
  pv (bin .mul x0 x1) fun v1 =>
  R (.returned (.tuple ⟨[x4, v1]⟩))
theorem F73_j3_ok (R : ER) (e : Env) : den Pg R (cd Try.f73 [1,1,1,1,1,1,1,1,1,1,1]) e (kont Pg R Try.f73) = (F73_j3 R (e 0) (e 1) (e 4)) := by kernel_rfl
def F73_j2 (R : ER) (x0 x1 x6 x7 x9 x11 x12 : Value) : WP :=
  pv (bin .shr x11 (.int .u64 32)) fun v2 =>
  pv (bin .mul x6 x9) fun v3 =>
  pv (bin .add x12 v3) fun v4 =>
  pv (bin .mul x7 x9) fun v5 =>
  pv (bin .add v5 v2) fun v6 =>
  pv (bin .shr v4 (.int .u64 32)) fun v7 =>
  pv (bin .add v6 v7) fun v8 =>
  F73_j3 R x0 x1 v8
theorem F73_j2_ok (R : ER) (e : Env) : den Pg R (cd Try.f73 [1,1,1,1,1,1,1,1]) e (kont Pg R Try.f73) = (F73_j2 R (e 0) (e 1) (e 6) (e 7) (e 9) (e 11) (e 12)) := (den_join Pg R 2 (cd Try.f73 [1,1,1,1,1,1,1,1]) (cd Try.f73 [1,1,1,1,1,1,1,1,1,1,1]) e (kont Pg R Try.f73) (fun e => F73_j3 R (e 0) (e 1) (e 4)) _ (by kernel_rfl) (fun e => F73_j3_ok R e) (by kernel_rfl))
def F73_j1 (R : ER) (x0 x1 x6 x7 x8 x9 : Value) : WP :=
  pv (bin .mul x6 x8) fun v9 =>
  pv (bin .mul x7 x8) fun v10 =>
  pv (bin .shr v9 (.int .u64 32)) fun v11 =>
  pv (bin .add v10 v11) fun v12 =>
  pv (bin .and v12 (.int .u64 4294967295)) fun v13 =>
  F73_j2 R x0 x1 x6 x7 x9 v12 v13
theorem F73_j1_ok (R : ER) (e : Env) : den Pg R (cd Try.f73 [1,1,1,1,1]) e (kont Pg R Try.f73) = (F73_j1 R (e 0) (e 1) (e 6) (e 7) (e 8) (e 9)) := (den_join Pg R 2 (cd Try.f73 [1,1,1,1,1]) (cd Try.f73 [1,1,1,1,1,1,1,1]) e (kont Pg R Try.f73) (fun e => F73_j2 R (e 0) (e 1) (e 6) (e 7) (e 9) (e 11) (e 12)) _ (by kernel_rfl) (fun e => F73_j2_ok R e) (by kernel_rfl))
def F73 (R : ER) (x0 x1 : Value) : WP :=
  pv (bin .and x0 (.int .u64 4294967295)) fun v14 =>
  pv (bin .shr x0 (.int .u64 32)) fun v15 =>
  pv (bin .and x1 (.int .u64 4294967295)) fun v16 =>
  pv (bin .shr x1 (.int .u64 32)) fun v17 =>
  F73_j1 R x0 x1 v14 v15 v16 v17
theorem bits_Mul64_den (R : ER) (x0 x1 : Value) : den Pg R (cd Try.f73 []) (argsEnv [x0, x1]) (kont Pg R Try.f73) = F73 R x0 x1 :=
  have h : ∀ e, den Pg R (cd Try.f73 []) e (kont Pg R Try.f73) = F73 R (e 0) (e 1) := fun e => (den_join Pg R 4 (cd Try.f73 []) (cd Try.f73 [1,1,1,1,1]) e (kont Pg R Try.f73) (fun e => F73_j1 R (e 0) (e 1) (e 6) (e 7) (e 8) (e 9)) _ (by kernel_rfl) (fun e => F73_j1_ok R e) (by kernel_rfl))
  h _
theorem F73_calls {R : ER} {x0 x1 : Value} {w : World} (h : F73 R x0 x1 w) : Calls Pg 73 ⟨[x0, x1]⟩ w R :=
  calls_of_den Try.func73 (by kernel_rfl) (by kernel_rfl) (bits_Mul64_den R x0 x1) h
/-! ### 74: F74 -/
def F74 (R : ER) (x0 x1 x2 x3 : Value) : WP :=
  pv (bin .gtr x0 x2) fun v1 =>
  gd v1 false (pv (some x0)) fun v2 =>
  gd v1 false (pv (some x2)) fun v3 =>
  gd v1 false (pv (bin .eql v2 v3)) fun v4 =>
  gd v1 false (pv (some v4)) fun v5 =>
  gd v5 true (pv (some x1)) fun v6 =>
  gd v5 true (pv (some x3)) fun v7 =>
  gd v5 true (pv (bin .gtr v6 v7)) fun v8 =>
  gd v1 false (pv (pickO v5 v8 (.bool false))) fun v9 =>
  pv (pickO v1 (.bool true) v9) fun v10 =>
  R (.returned v10)
theorem orpimentref35_behind_den (R : ER) (x0 x1 x2 x3 : Value) : den Pg R (cd Try.f74 []) (argsEnv [x0, x1, x2, x3]) (kont Pg R Try.f74) = F74 R x0 x1 x2 x3 :=
  have h : ∀ e, den Pg R (cd Try.f74 []) e (kont Pg R Try.f74) = F74 R (e 0) (e 1) (e 2) (e 3) := fun e => by kernel_rfl
  h _
theorem F74_calls {R : ER} {x0 x1 x2 x3 : Value} {w : World} (h : F74 R x0 x1 x2 x3 w) : Calls Pg 74 ⟨[x0, x1, x2, x3]⟩ w R :=
  calls_of_den Try.func74 (by kernel_rfl) (by kernel_rfl) (orpimentref35_behind_den R x0 x1 x2 x3) h
end Go.Proofs.Ytmnpndgmfmjfhaa.Den
end

section
set_option linter.unusedVariables false
set_option maxRecDepth 100000
namespace Go.Proofs.Ytmnpndgmfmjfhaa.Den
open Go

end Go.Proofs.Ytmnpndgmfmjfhaa.Den
end

section
set_option linter.unusedVariables false
set_option linter.unusedSimpArgs false
set_option maxRecDepth 8000
namespace Go.Proofs.Ytmnpndgmfmjfhaa.Den
open Go Go.RowKit
def bv (xs : List Int) : List Value := xs.map U8
theorem bv_length (xs : List Int) : (bv xs).length = xs.length := by simp [bv]
theorem bv_append (xs ys : List Int) : bv (xs ++ ys) = bv xs ++ bv ys := by simp [bv]
theorem bv_scalar {xs : List Int} : ∀ c ∈ bv xs, scalar c = true := by
  intro c hc; obtain ⟨x, _, rfl⟩ := List.mem_map.1 hc; rfl
theorem bv_get {xs : List Int} {j : Nat} {x : Int} (h : xs[j]? = some x) : (bv xs)[j]? = some (U8 x) := by simp [bv, h]
theorem elT24 : ElT 24 5 1 1 [U8 0] := ⟨by kernel_rfl, by kernel_rfl, rfl⟩
theorem wrap_u {k : IntKind} (hs : k.signed = false) (a : Int) : k.wrap a = a % 2 ^ k.bits := by simp [IntKind.wrap, hs]
theorem wrapU8 (a : Int) : IntKind.u8.wrap a = a % 256 := by rw [wrap_u rfl]; rfl
theorem wrapU64 (a : Int) : IntKind.u64.wrap a = a % 18446744073709551616 := by rw [wrap_u rfl]; rfl
theorem shr8 (a : Int) : bin .shr (U64 a) (U64 8) = some (U64 (a / 256)) := by
  simp only [bin, U64]
  rw [if_neg (by decide)]
  have : (2 : Int) ^ (min (8 : Int).toNat IntKind.u64.bits) = 256 := by decide
  rw [this, Int.fdiv_eq_ediv_of_nonneg _ (by decide)]
/-- The n low bytes of a number, the most significant first. -/
def be : Nat → Int → List Int
  | 0, _ => []
  | n + 1, x => be n (x / 256) ++ [x % 256]
theorem be_length : ∀ (n : Nat) (x : Int), (be n x).length = n
  | 0, _ => rfl
  | n + 1, x => by simp [be, be_length n]
theorem lay_append {l : List Value} {o : Nat} {cs : List Value} {c : Value} (h : o + cs.length < l.length) : lay (l.set (o + cs.length) c) o cs = lay l o (cs ++ [c]) := by
  unfold lay
  rw [List.take_set_of_le (by omega)]
  have : (l.set (o + cs.length) c).drop (o + cs.length) = c :: l.drop (o + (cs ++ [c]).length) := by
    rw [List.drop_eq_getElem_cons (by simp; omega)]
    simp [List.drop_set_of_lt, Nat.add_assoc]
  rw [this]; simp
section
variable {w : World} {w0 : Base} {F L : List Chunk} {R : ER}
/-- The number of a field: one byte more. -/
def gst (x c : Int) : Int := IntKind.u64.wrap ((BitVec.ofInt 64 (IntKind.u64.wrap (x * 256)) ||| BitVec.ofInt 64 (IntKind.u64.wrap c)).toNat)
def getI (xs : List Int) : Int := xs.foldl gst 0
/-- The checksum: one byte more. -/
def dst (h c : Int) : Int := IntKind.u64.wrap (IntKind.u64.wrap ((BitVec.ofInt 64 h ^^^ BitVec.ofInt 64 (IntKind.u64.wrap c)).toNat) * 1099511628211)
def digI (xs : List Int) : Int := xs.foldl dst 14695981039346656037
theorem gst_eq (x c : Int) (K : VK) : pv (bin .shl (U64 x) (U64 8)) (fun v4 => pv (cvI .u64 (U8 c)) fun v5 => pv (bin .or v4 v5) K) = K (U64 (gst x c)) := by
  have h1 : bin .shl (U64 x) (U64 8) = some (U64 (IntKind.u64.wrap (x * 256))) := by
    simp only [bin, U64]; rw [if_neg (by decide)]; rfl
  rw [h1]; rfl
theorem dst_eq (h c : Int) (K : VK) : pv (cvI .u64 (U8 c)) (fun v9 => pv (bin .xor (U64 h) v9) fun v10 => pv (bin .mul v10 (U64 1099511628211)) K) = K (U64 (dst h c)) := rfl
theorem put_l {x1 : Value} {b fb tb ft : Nat} {len cap at_ : Nat} {k : Int} (hl : x1 = .slice (some ⟨b, 0, none⟩) len cap) (hq : ∀ w' l', Hp w0 w' (⟨b, tb, l'⟩ :: ⟨fb, ft, [I at_, I k]⟩ :: F) → R (.returned (.tuple ⟨[]⟩)) w' ∨ True) :
    ∀ (i : Nat) (w : World) (x : Int) (l : List Value), Hp w0 w (⟨b, tb, l⟩ :: ⟨fb, ft, [I at_, I k]⟩ :: F) → at_ + i ≤ len → len ≤ l.length → len < 2 ^ 62 →
      (∀ w', Hp w0 w' (⟨b, tb, lay l at_ (bv (be i x))⟩ :: ⟨fb, ft, [I at_, I k]⟩ :: F) → R (.returned (.tuple ⟨[]⟩)) w') →
      F41_l1 R (i + 1) x1 (U64 x) (ptr fb 0) (I ((i : Int) - 1)) w
  | 0, w, x, l, H, h1, h2, h3, k => by
    rw [F41_l1_succ]
    unfold F41_b1 F41_j2
    simp only [WKt, mem, drewV]
    simp only [show decide ((0 : Int) ≤ ((0 : Nat) : Int) - 1) = false from rfl, cnd_false]
    exact k w (by rw [be, bv, List.map_nil, lay_nil]; exact H)
  | i + 1, w, x, l, H, h1, h2, h3, k => by
    rw [F41_l1_succ]
    unfold F41_b1 F41_j2
    simp only [WKt, mem, drewV]
    simp only [show decide ((0 : Int) ≤ ((i + 1 : Nat) : Int) - 1) = true from decide_eq_true (by omega), cnd_true]
    refine ld_h H 1 rfl rfl ?_
    have e1 : (at_ : Int) + (((i + 1 : Nat) : Int) - 1) = ((at_ + i : Nat) : Int) := by omega
    simp only [WKt, mem, drewV, e1, cvI, wrapU8]
    rw [wrap64_id (by omega) (by omega), hl, ixS_mk (by omega)]
    simp only [WKt, mem, drewV]
    refine st_h H 0 rfl (by omega) rfl fun w2 H2 => ?_
    simp only [shr8, WKt, mem, drewV]
    rw [wrap64_id (by omega) (by omega), show ((i + 1 : Nat) : Int) - 1 - 1 = (i : Int) - 1 from by omega]
    rw [← hl]
    refine put_l hl hq i w2 (x / 256) _ H2 (by omega) (by simp; omega) h3 fun w3 H3 => k w3 ?_
    have : lay (l.set (at_ + i) (U8 (x % 256))) at_ (bv (be i (x / 256))) = lay l at_ (bv (be (i + 1) x)) := by
      have := lay_append (l := l) (o := at_) (cs := bv (be i (x / 256))) (c := U8 (x % 256)) (by rw [bv_length, be_length]; omega)
      rw [bv_length, be_length] at this
      rw [this, be, bv_append]; rfl
    rw [← this]; exact H3
theorem put_spec {b tb len cap at_ n : Nat} {l : List Value} {x : Int} (H : Hp w0 w (⟨b, tb, l⟩ :: F)) (h1 : at_ + n ≤ len) (h2 : len ≤ l.length) (h3 : len < 2 ^ 62) :
    Calls Pg 41 ⟨[.agg ⟨[I at_, I n]⟩, .slice (some ⟨b, 0, none⟩) len cap, U64 x]⟩ w fun e w' => e = .returned (.tuple ⟨[]⟩) ∧ Hp w0 w' (⟨b, tb, lay l at_ (bv (be n x))⟩ :: F) := by
  apply F41_calls
  unfold F41
  refine bxa_h H fun w1 fb H1 => ?_
  simp only [WKt, mem, drewV]
  refine ld_h H1 0 rfl rfl ?_
  simp only [WKt, mem, drewV]
  rw [wrap64_id (by omega) (by omega)]
  unfold F41_j1
  refine ⟨n + 1, ?_⟩
  have H2 : Hp w0 w1 (⟨b, tb, l⟩ :: ⟨fb, 111, [I at_, I n]⟩ :: F) := H1.to (by intro f; simp only [I, U8, U64, ptr, List.set_cons_zero, List.set_cons_succ, List.eraseIdx_cons_zero, List.eraseIdx_cons_succ, List.map_append, List.map_cons, List.map_nil, List.sum_append, List.sum_cons, List.sum_nil]; omega)
  exact put_l (tb := tb) (ft := 111) (k := n) rfl (fun _ _ _ => .inr trivial) n w1 x l H2 h1 h2 h3 fun w' H' => ⟨rfl, H'.to (by intro f; simp only [I, U8, U64, ptr, List.set_cons_zero, List.set_cons_succ, List.eraseIdx_cons_zero, List.eraseIdx_cons_succ, List.map_append, List.map_cons, List.map_nil, List.sum_append, List.sum_cons, List.sum_nil]; omega)⟩
end
end Go.Proofs.Ytmnpndgmfmjfhaa.Den
end

section
set_option linter.unusedVariables false
set_option linter.unusedSimpArgs false
set_option maxRecDepth 8000
namespace Go.Proofs.Ytmnpndgmfmjfhaa.Den
open Go Go.RowKit
section
variable {w : World} {w0 : Base} {F L : List Chunk} {R : ER}
theorem getElem_of_lt {α : Type} {l : List α} {i : Nat} (h : i < l.length) : l[i]? = some l[i] := List.getElem?_eq_getElem h
/-! ### the program's get -/
theorem get_l {s : Value} {m : Nat} {xs : List Int} (hm : m < 2 ^ 62) : ∀ (d i : Nat) (x : Int) (w : World), Rd w 1 s m (bv xs) → i + d = m → R (.returned (U64 ((xs.drop i).foldl gst x))) w →
    F45_l1 R (d + 1) (U64 x) s (I m) (I i) w := by
  intro d
  induction d with
  | zero =>
    intro i x w hr hi k
    rw [F45_l1_succ]
    unfold F45_b1
    have hlen := hr.length
    rw [bv_length] at hlen
    simp only [WKt, mem, drewV, show decide ((i : Int) < (m : Int)) = false from decide_eq_false (by omega), cnd_false]
    unfold F45_j1
    rw [List.drop_eq_nil_of_le (by omega)] at k
    exact k
  | succ d ih =>
    intro i x w hr hi k
    rw [F45_l1_succ]
    unfold F45_b1
    have hlen := hr.length
    rw [bv_length] at hlen
    have hlt : i < xs.length := by omega
    simp only [WKt, mem, drewV, show decide ((i : Int) < (m : Int)) = true from decide_eq_true (by omega)]
    refine ix1_rd hr (bv_get (getElem_of_lt hlt)) ?_
    rw [gst_eq]
    rw [wrap64_id (by omega) (by omega), show (i : Int) + 1 = ((i + 1 : Nat) : Int) from by omega]
    refine ih (i + 1) _ w hr (by omega) ?_
    rw [List.drop_eq_getElem_cons hlt] at k
    exact k
theorem get_spec {at_ n : Nat} {h : List Int} (H : Hp w0 w F) (hh : h.length = 24) (hn : at_ + n ≤ 24) (h24 : at_ < 24) :
    Calls Pg 45 ⟨[.agg ⟨[I at_, I n]⟩, .agg ⟨bv h⟩]⟩ w fun e w' => e = .returned (U64 (getI ((h.drop at_).take n))) ∧ Hp w0 w' F := by
  apply F45_calls
  unfold F45
  refine bxa_h H fun w1 fb H1 => ?_
  refine bxa_h H1 fun w2 hb H2 => ?_
  unfold F45_j2
  simp only [WKt, mem, drewV]
  refine ld_h H2 1 rfl rfl ?_
  refine ld_h H2 1 rfl rfl ?_
  refine ld_h H2 1 rfl rfl ?_
  simp only [WKt, mem, drewV]
  rw [wrap64_id (by omega) (by omega)]
  have hsl : slA 24 1 (ptr hb 0) (some (I at_)) (some (I ((at_ : Int) + n))) = some (.slice (some ⟨hb, at_, none⟩) n (24 - at_)) := by
    simp only [slA, boundO]
    rw [if_pos (by omega)]
    simp only []
    rw [if_pos (by omega)]
    simp only [Int.toNat_natCast, show ((at_ : Int) + n).toNat - at_ = n from by omega, Nat.mul_one, add_mk, Nat.zero_add]
    rw [if_neg (by omega)]
  simp only [hsl, WKt, mem, drewV]
  unfold F45_j3
  refine ⟨n + 1, ?_⟩
  have hr : Rd w2 1 (.slice (some ⟨hb, at_, none⟩) n (24 - at_)) n (bv ((h.drop at_).take n)) := by
    refine (RdL.rd (L := ⟨hb, 117, bv h⟩ :: ⟨fb, 111, [I at_, I n]⟩ :: F) (.inr ⟨hb, at_, 24 - at_, 117, bv h, rfl, by omega, by simp, by rw [bv_length]; omega, ?_⟩) H2)
    simp [bv, List.map_drop, List.map_take]
  exact get_l (by omega) n 0 0 w2 hr (by omega) ⟨rfl, H2.tail.tail⟩
/-! ### the reference's get and checksum -/
theorem rget_l {s : Value} {m : Nat} {xs : List Int} (hm : m < 2 ^ 62) : ∀ (d i : Nat) (x : Int) (w : World), Rd w 1 s m (bv xs) → i + d = m → R (.returned (U64 ((xs.drop i).foldl gst x))) w →
    F46_l1 R (d + 1) s (U64 x) (I i) w := by
  intro d
  induction d with
  | zero =>
    intro i x w hr hi k
    rw [F46_l1_succ]
    unfold F46_b1 F46_j4
    have hlen := hr.length
    rw [bv_length] at hlen
    simp only [lenS_rd hr, WKt, mem, drewV, show decide ((i : Int) < (m : Int)) = false from decide_eq_false (by omega), cnd_false]
    unfold F46_j1
    rw [List.drop_eq_nil_of_le (by omega)] at k
    exact k
  | succ d ih =>
    intro i x w hr hi k
    rw [F46_l1_succ]
    unfold F46_b1 F46_j4
    have hlen := hr.length
    rw [bv_length] at hlen
    have hlt : i < xs.length := by omega
    simp only [lenS_rd hr, WKt, mem, drewV, show decide ((i : Int) < (m : Int)) = true from decide_eq_true (by omega)]
    have h1 : bin .shl (U64 x) (U64 8) = some (U64 (IntKind.u64.wrap (x * 256))) := by
      simp only [bin, U64]; rw [if_neg (by decide)]; rfl
    rw [h1, pv_some]
    refine ix1_rd hr (bv_get (getElem_of_lt hlt)) ?_
    have h2 : ∀ K : VK, pv (cvI .u64 (U8 xs[i])) (fun v5 => pv (bin .or (U64 (IntKind.u64.wrap (x * 256))) v5) K) = K (U64 (gst x xs[i])) := fun _ => rfl
    rw [h2]
    rw [wrap64_id (by omega) (by omega), show (i : Int) + 1 = ((i + 1 : Nat) : Int) from by omega]
    refine ih (i + 1) _ w hr (by omega) ?_
    rw [List.drop_eq_getElem_cons hlt] at k
    exact k
theorem rget_spec {s : Value} {m : Nat} {xs : List Int} (hr : Rd w 1 s m (bv xs)) (hm : m < 2 ^ 62) :
    Calls Pg 46 ⟨[s]⟩ w fun e w' => e = .returned (U64 (getI xs)) ∧ w' = w := by
  apply F46_calls
  unfold F46 F46_j2 F46_j3
  exact ⟨m + 1, rget_l hm m 0 0 w hr (by omega) ⟨rfl, rfl⟩⟩
theorem rdig_l {s : Value} {m : Nat} {xs : List Int} (hm : m < 2 ^ 62) : ∀ (d i : Nat) (x : Int) (w : World), Rd w 1 s m (bv xs) → i + d = m → R (.returned (U64 ((xs.drop i).foldl dst x))) w →
    F44_l1 R (d + 1) s (U64 x) (I i) w := by
  intro d
  induction d with
  | zero =>
    intro i x w hr hi k
    rw [F44_l1_succ]
    unfold F44_b1 F44_j4
    have hlen := hr.length
    rw [bv_length] at hlen
    simp only [lenS_rd hr, WKt, mem, drewV, show decide ((i : Int) < (m : Int)) = false from decide_eq_false (by omega), cnd_false]
    unfold F44_j1
    rw [List.drop_eq_nil_of_le (by omega)] at k
    exact k
  | succ d ih =>
    intro i x w hr hi k
    rw [F44_l1_succ]
    unfold F44_b1 F44_j4
    have hlen := hr.length
    rw [bv_length] at hlen
    have hlt : i < xs.length := by omega
    simp only [lenS_rd hr, WKt, mem, drewV, show decide ((i : Int) < (m : Int)) = true from decide_eq_true (by omega)]
    refine ix1_rd hr (bv_get (getElem_of_lt hlt)) ?_
    rw [dst_eq]
    rw [wrap64_id (by omega) (by omega), show (i : Int) + 1 = ((i + 1 : Nat) : Int) from by omega]
    refine ih (i + 1) _ w hr (by omega) ?_
    rw [List.drop_eq_getElem_cons hlt] at k
    exact k
theorem rdig_spec {s : Value} {m : Nat} {xs : List Int} (hr : Rd w 1 s m (bv xs)) (hm : m < 2 ^ 62) :
    Calls Pg 44 ⟨[s]⟩ w fun e w' => e = .returned (U64 (digI xs)) ∧ w' = w := by
  apply F44_calls
  unfold F44 F44_j2 F44_j3
  exact ⟨m + 1, rdig_l hm m 0 _ w hr (by omega) ⟨rfl, rfl⟩⟩
/-! ### the program's checksum -/
/-- The bytes that count, from place i on. -/
def cntD : Nat → List Int → List Int
  | _, [] => []
  | i, x :: xs => if i < 16 ∨ 24 ≤ i then x :: cntD (i + 1) xs else cntD (i + 1) xs
theorem cntD_eq : ∀ (xs : List Int) (i : Nat), 24 ≤ i → cntD i xs = xs
  | [], _, _ => rfl
  | x :: xs, i, h => by simp [cntD, h, cntD_eq xs (i + 1) (by omega)]
theorem cntD_app : ∀ (xs ys : List Int) (i : Nat), cntD i (xs ++ ys) = cntD i xs ++ cntD (i + xs.length) ys
  | [], ys, i => by simp [cntD]
  | x :: xs, ys, i => by
    have := cntD_app xs ys (i + 1)
    simp only [List.cons_append, cntD, this, List.length_cons, show i + 1 + xs.length = i + (xs.length + 1) from by omega]
    split <;> rfl
theorem cntD_lo : ∀ (xs : List Int) (i : Nat), i + xs.length ≤ 16 → cntD i xs = xs
  | [], _, _ => rfl
  | x :: xs, i, h => by
    simp only [List.length_cons] at h
    rw [cntD, if_pos (by omega), cntD_lo xs (i + 1) (by omega)]
theorem cntD_mid : ∀ (xs : List Int) (i : Nat), 16 ≤ i → i + xs.length ≤ 24 → cntD i xs = []
  | [], _, _, _ => rfl
  | x :: xs, i, h1, h => by
    simp only [List.length_cons] at h
    rw [cntD, if_neg (by omega), cntD_mid xs (i + 1) (by omega) (by omega)]
theorem cntD_zero {xs : List Int} (h : 24 ≤ xs.length) : cntD 0 xs = xs.take 16 ++ xs.drop 24 := by
  have e : xs = xs.take 16 ++ ((xs.drop 16).take 8 ++ xs.drop 24) := by
    have : xs.drop 24 = (xs.drop 16).drop 8 := by rw [List.drop_drop]
    rw [this, List.take_append_drop, List.take_append_drop]
  have h1 : (xs.take 16).length = 16 := by rw [List.length_take]; omega
  have h2 : ((xs.drop 16).take 8).length = 8 := by rw [List.length_take, List.length_drop]; omega
  have := cntD_app (xs.take 16) ((xs.drop 16).take 8 ++ xs.drop 24) 0
  rw [← e] at this
  rw [this, cntD_lo (xs.take 16) 0 (by omega), cntD_app, cntD_mid ((xs.drop 16).take 8) _ (by omega) (by omega), cntD_eq _ _ (by omega), List.nil_append]
theorem dig_l {s : Value} {m : Nat} {xs : List Int} (hm : m < 2 ^ 62) : ∀ (d i : Nat) (x : Int) (w : World), Rd w 1 s m (bv xs) → i + d = m → R (.returned (U64 ((cntD i (xs.drop i)).foldl dst x))) w →
    F42_l1 R (d + 1) (U64 x) s (I m) (I i) w := by
  intro d
  induction d with
  | zero =>
    intro i x w hr hi k
    rw [F42_l1_succ]
    unfold F42_b1 F42_j4 F42_j6
    have hlen := hr.length
    rw [bv_length] at hlen
    simp only [lenS_rd hr, WKt, mem, drewV, show decide ((i : Int) < (m : Int)) = false from decide_eq_false (by omega), cnd_false]
    unfold F42_j1
    rw [List.drop_eq_nil_of_le (by omega)] at k
    exact k
  | succ d ih =>
    intro i x w hr hi k
    rw [F42_l1_succ]
    unfold F42_b1 F42_j4 F42_j6
    have hlen := hr.length
    rw [bv_length] at hlen
    have hlt : i < xs.length := by omega
    rw [List.drop_eq_getElem_cons hlt] at k
    simp only [WKt, mem, drewV, show decide ((i : Int) < (m : Int)) = true from decide_eq_true (by omega)]
    refine ix1_rd hr (bv_get (getElem_of_lt hlt)) ?_
    have hj : ∀ x, R (.returned (U64 ((cntD (i + 1) (xs.drop (i + 1))).foldl dst x))) w → F42_j5 R (F42_l1 R (d + 1)) (U64 x) s (I m) (I i) w := by
      intro x k
      unfold F42_j5
      simp only [WKt, mem, drewV]
      rw [wrap64_id (by omega) (by omega), show (i : Int) + 1 = ((i + 1 : Nat) : Int) from by omega]
      exact ih (i + 1) _ w hr (by omega) k
    by_cases h1 : (i : Int) < 16
    · simp only [WKt, mem, drewV, decide_eq_true h1]
      rw [dst_eq]
      rw [cntD, if_pos (by omega)] at k
      exact hj _ k
    · simp only [WKt, mem, drewV, decide_eq_false h1]
      by_cases h2 : (24 : Int) ≤ i
      · simp only [WKt, mem, drewV, decide_eq_true h2]
        rw [dst_eq]
        rw [cntD, if_pos (by omega)] at k
        exact hj _ k
      · simp only [WKt, mem, drewV, decide_eq_false h2]
        rw [cntD, if_neg (by omega)] at k
        exact hj _ k
theorem dig_spec {s : Value} {m : Nat} {xs : List Int} (hr : Rd w 1 s m (bv xs)) (hm : m < 2 ^ 62) (h24 : 24 ≤ xs.length) :
    Calls Pg 42 ⟨[s]⟩ w fun e w' => e = .returned (U64 (digI (xs.take 16 ++ xs.drop 24))) ∧ w' = w := by
  apply F42_calls
  unfold F42 F42_j2
  simp only [lenS_rd hr, WKt, mem, drewV]
  unfold F42_j3
  exact ⟨m + 1, dig_l hm m 0 _ w hr (by omega) ⟨by rw [List.drop_zero, cntD_zero h24]; rfl, rfl⟩⟩
/-! ### the reference's put -/
theorem rput_l {x : Int} {n : Nat} (hn : n ≤ 8) (hq : ∀ w' s cs, Hp w0 w' (cs ++ F) → Sl 5 1 s n (bv (be n x)) cs → R (.returned s) w') :
    ∀ (i j : Nat) (w : World) (s : Value) (cs : List Chunk), Hp w0 w (cs ++ F) → i + j = n → Sl 5 1 s j (bv (be j (x / 256 ^ i))) cs →
      F43_l1 R (i + 1) (U64 x) s (I ((i : Int) - 1)) w
  | 0, j, w, s, cs, H, hij, hs => by
    rw [F43_l1_succ]
    unfold F43_b1 F43_j4
    obtain rfl : j = n := by omega
    simp only [WKt, mem, drewV, show decide ((0 : Int) ≤ ((0 : Nat) : Int) - 1) = false from rfl, cnd_false]
    unfold F43_j1
    rw [Int.pow_zero, Int.ediv_one] at hs
    exact hq _ _ _ H hs
  | i + 1, j, w, s, cs, H, hij, hs => by
    rw [F43_l1_succ]
    unfold F43_b1 F43_j4
    have e1 : ((i + 1 : Nat) : Int) - 1 = (i : Int) := by omega
    simp only [WKt, mem, drewV, e1, show decide ((0 : Int) ≤ (i : Int)) = true from decide_eq_true (by omega)]
    have e2 : IntKind.i64.wrap (8 * (i : Int)) = ((8 * i : Nat) : Int) := by rw [wrap64_id (by omega) (by omega)]; omega
    rw [e2]
    have e3 : cvI .u64 (I ((8 * i : Nat) : Int)) = some (U64 ((8 * i : Nat) : Int)) := by
      simp only [cvI, wrapU64]; rw [Int.emod_eq_of_lt (by omega) (by omega)]
    rw [e3, pv_some]
    have e4 : bin .shr (U64 x) (U64 ((8 * i : Nat) : Int)) = some (U64 (x / 256 ^ i)) := by
      simp only [bin, U64]
      rw [if_neg (by omega)]
      have : min ((8 * i : Nat) : Int).toNat IntKind.u64.bits = 8 * i := by
        have : IntKind.u64.bits = 64 := rfl
        rw [Int.toNat_natCast, this]; omega
      rw [this, Int.fdiv_eq_ediv_of_nonneg _ (Int.le_of_lt (Int.pow_pos (by decide))), Int.pow_mul]; rfl
    rw [e4]
    simp only [WKt, mem, drewV, cvI, wrapU8]
    refine lit1s_h elT24 H rfl fun w1 b H1 => ?_
    have H2 : Hp w0 w1 (cs ++ (⟨b, 5, [U8 (x / 256 ^ i % 256)]⟩ :: F)) := H1.to (by intro f; simp only [I, U8, U64, ptr, List.set_cons_zero, List.set_cons_succ, List.eraseIdx_cons_zero, List.eraseIdx_cons_succ, List.map_append, List.map_cons, List.map_nil, List.sum_append, List.sum_cons, List.sum_nil]; omega)
    refine append_h elT24 H2 hs (m := 1) (ys := [U8 (x / 256 ^ i % 256)]) (.inr ⟨b, 0, 1, 5, [U8 (x / 256 ^ i % 256)], rfl, by omega, by simp, by simp, rfl⟩) (by simp [scalar]) (by omega) (by omega) fun w3 s3 cs3 H3 hs3 => ?_
    rw [wrap64_id (by omega) (by omega)]
    refine rput_l hn hq i (j + 1) w3 s3 cs3 (H3.to (by intro f; simp only [I, U8, U64, ptr, List.set_cons_zero, List.set_cons_succ, List.eraseIdx_cons_zero, List.eraseIdx_cons_succ, List.map_append, List.map_cons, List.map_nil, List.sum_append, List.sum_cons, List.sum_nil]; omega)) (by omega) ?_
    have e5 : x / 256 ^ (i + 1) = x / 256 ^ i / 256 := by
      rw [Int.pow_succ, ← Int.ediv_ediv_of_nonneg (Int.le_of_lt (Int.pow_pos (by decide)))]
    rw [e5] at hs3
    rw [be, bv_append]; exact hs3
theorem rput_spec {x : Int} {n : Nat} (hn : n ≤ 8) (H : Hp w0 w F) :
    Calls Pg 43 ⟨[U64 x, I n]⟩ w fun e w' => ∃ s cs, e = .returned s ∧ Hp w0 w' (cs ++ F) ∧ Sl 5 1 s n (bv (be n x)) cs := by
  apply F43_calls
  unfold F43
  refine lit0_h elT24 H fun w1 s H1 hs => ?_
  unfold F43_j2
  simp only [WKt, mem, drewV]
  rw [wrap64_id (by omega) (by omega)]
  unfold F43_j3
  exact ⟨n + 1, rput_l hn (fun w' s cs H hs => ⟨s, cs, rfl, H, hs⟩) n 0 w1 s [] H1 (by omega) hs⟩
theorem fields_spec (H : Hp w0 w F) : Calls Pg 40 ⟨[]⟩ w fun e w' => e = .returned (.agg ⟨[I 2, I 2, I 4, I 8, I 12, I 4, I 16, I 8]⟩) ∧ Hp w0 w' F := by
  apply F40_calls
  have e : ∀ R, F40 R = al Pg 112 fun v1 => stN 8 v1 (.agg ⟨[I 2, I 2, I 4, I 8, I 12, I 4, I 16, I 8]⟩) fun _ => ldN 8 v1 fun v7 => R (.returned v7) := fun R => by kernel_rfl
  rw [e]
  refine al_h H (z := [I 0, I 0, I 0, I 0, I 0, I 0, I 0, I 0]) (by kernel_rfl) fun w1 b H1 => ?_
  refine stN_h H1 0 rfl rfl (by decide) (by decide) fun w2 H2 => ?_
  refine ldN_h H2 0 rfl (by decide) ?_
  exact ⟨rfl, H2.tail⟩
end
end Go.Proofs.Ytmnpndgmfmjfhaa.Den
end

section
set_option linter.unusedVariables false
set_option linter.unusedSimpArgs false
set_option maxRecDepth 8000
namespace Go.Proofs.Ytmnpndgmfmjfhaa.Den
open Go Go.RowKit
def encE (k : Int) (last : Bool) (m f : Int) (n : Nat) : Int :=
  if k ≠ 1 ∧ k ≠ 2 then 17 else if k = 2 ∧ (last = true ∨ 0 < n) then 14 else if m < 1 ∨ f < 0 ∨ 2147483647 < f then 34 else if 4096 < n then 20 else 0
def u64 (x : Int) : Int := x % 18446744073709551616
def lbit (last : Bool) : Int := if last then 1 else 0
def encH (k : Int) (last : Bool) (m f : Int) (n : Nat) : List Int := [k % 256, lbit last] ++ be 2 (u64 n) ++ be 8 (u64 m) ++ be 4 (u64 f)
def encB (k : Int) (last : Bool) (m f : Int) (xs : List Int) : List Int := encH k last m f xs.length ++ be 8 (digI (encH k last m f xs.length ++ xs)) ++ xs
def frm (k : Int) (last : Bool) (m f : Int) (s : Value) : List Value := [I k, .bool last, I m, I f, s]
theorem cvU64 (k : IntKind) (a : Int) : cvI .u64 (.int k a) = some (U64 (u64 a)) := by simp only [cvI, wrapU64]; rfl
theorem cvU8 (k : IntKind) (a : Int) : cvI .u8 (.int k a) = some (U8 (a % 256)) := by simp only [cvI, wrapU8]
theorem encH_length (k : Int) (last : Bool) (m f : Int) (n : Nat) : (encH k last m f n).length = 16 := by simp [encH, be_length]
theorem encB_length (k : Int) (last : Bool) (m f : Int) (xs : List Int) : (encB k last m f xs).length = 24 + xs.length := by simp [encB, encH_length, be_length]; omega
/-- 24 bytes, then others. -/
def h24 (k : Int) (last : Bool) : List Value := [U8 (k % 256), U8 (lbit last), U8 0, U8 0, U8 0, U8 0, U8 0, U8 0, U8 0, U8 0, U8 0, U8 0, U8 0, U8 0, U8 0, U8 0, U8 0, U8 0, U8 0, U8 0, U8 0, U8 0, U8 0, U8 0]
theorem h24_length (k : Int) (last : Bool) : (h24 k last).length = 24 := rfl
theorem be2 (x : Int) : ∃ a b, be 2 x = [a, b] := ⟨_, _, rfl⟩
theorem be4 (x : Int) : ∃ a b c d, be 4 x = [a, b, c, d] := ⟨_, _, _, _, rfl⟩
theorem be8 (x : Int) : ∃ a b c d e f g h, be 8 x = [a, b, c, d, e, f, g, h] := ⟨_, _, _, _, _, _, _, _, rfl⟩
theorem enc_lay (k : Int) (last : Bool) (m f : Int) (n : Nat) (l : List Value) :
    lay (lay (lay (h24 k last ++ l) 2 (bv (be 2 (u64 n)))) 4 (bv (be 8 (u64 m)))) 12 (bv (be 4 (u64 f))) = bv (encH k last m f n ++ [0, 0, 0, 0, 0, 0, 0, 0]) ++ l := by
  unfold encH
  obtain ⟨a0, a1, ha⟩ := be2 (u64 n)
  obtain ⟨b0, b1, b2, b3, b4, b5, b6, b7, hb⟩ := be8 (u64 m)
  obtain ⟨c0, c1, c2, c3, hc⟩ := be4 (u64 f)
  rw [ha, hb, hc]; rfl
theorem enc_lay2 (h : List Int) (hh : h.length = 16) (d : Int) (l : List Value) : lay (bv (h ++ [0, 0, 0, 0, 0, 0, 0, 0]) ++ l) 16 (bv (be 8 d)) = bv (h ++ be 8 d) ++ l := by
  have e : bv (h ++ [0, 0, 0, 0, 0, 0, 0, 0]) ++ l = bv h ++ (bv [0, 0, 0, 0, 0, 0, 0, 0] ++ l) := by rw [bv_append, List.append_assoc]
  have hl : (bv h).length = 16 := by rw [bv_length, hh]
  rw [e]
  unfold lay
  rw [List.take_left' hl, bv_length, be_length, List.drop_append, List.drop_of_length_le (by omega), hl, bv_append]
  simp [bv]
theorem ixA42_0 (b : Nat) : ixA 4 2 (ptr b 0) (I 0) = some (ptr b 0) := rfl
theorem ixA42_1 (b : Nat) : ixA 4 2 (ptr b 0) (I 1) = some (ptr b 2) := rfl
theorem ixA42_2 (b : Nat) : ixA 4 2 (ptr b 0) (I 2) = some (ptr b 4) := rfl
theorem ixA42_3 (b : Nat) : ixA 4 2 (ptr b 0) (I 3) = some (ptr b 6) := rfl
section
variable {w : World} {w0 : Base} {F L : List Chunk} {R : ER} {k : Int} {last : Bool} {m f : Int} {s : Value} {n b : Nat} {xs : List Int}
theorem enc_j2 {nb cap : Nat} {rest : List Value} (hs : RdL w0 F 1 s n (bv xs)) (hn : n ≤ 4096) (hcap : 24 + n ≤ cap)
    (H : Hp w0 w (⟨nb, 5, h24 k last ++ (bv xs ++ rest)⟩ :: ⟨b, 48, frm k last m f s⟩ :: F))
    (hr : rest.length = cap - (24 + n))
    (hok : ∀ w', Hp w0 w' (⟨nb, 5, bv (encB k last m f xs) ++ rest⟩ :: F) → R (.returned (.tuple ⟨[.slice (some ⟨nb, 0, none⟩) (24 + n) cap, I 0]⟩)) w') :
    F16_j2 R (ptr b 0) (.slice (some ⟨nb, 0, none⟩) (24 + n) cap) w := by
  have hlen : xs.length = n := by have := hs.length; rw [bv_length] at this; omega
  unfold F16_j2
  refine cal_h (fields_spec H) ?_
  rintro e w1 ⟨rfl, H1⟩
  simp only [WKt, mem, drewV]
  refine al_h H1 (z := [I 0, I 0, I 0, I 0, I 0, I 0, I 0, I 0]) (by kernel_rfl) fun w2 fb H2 => ?_
  refine stN_h H2 0 rfl rfl (by decide) (by decide) fun w3 H3 => ?_
  replace H3 : Hp w0 w3 (⟨fb, 112, [I 2, I 2, I 4, I 8, I 12, I 4, I 16, I 8]⟩ :: _) := H3
  try simp only [ixA42_0, ixA42_1, ixA42_2, ixA42_3, WKt, mem, drewV]
  refine ldN_h H3 0 rfl (by decide) ?_
  refine ld_h H3 2 rfl rfl ?_
  simp only [lenS_rdL hs, WKt, mem, drewV, cvU64]
  have HA : Hp w0 w3 (⟨nb, 5, _⟩ :: ⟨fb, 112, [I 2, I 2, I 4, I 8, I 12, I 4, I 16, I 8]⟩ :: ⟨b, 48, frm k last m f s⟩ :: F) := H3.pull (i := 1) rfl
  refine cal_h (put_spec (at_ := 2) (n := 2) (len := 24 + n) (cap := cap) HA (by omega) (by simp [bv_length, h24_length]; omega) (by omega)) ?_
  rintro e w4 ⟨rfl, H4⟩
  simp only [WKt, mem, drewV]
  try simp only [ixA42_0, ixA42_1, ixA42_2, ixA42_3, WKt, mem, drewV]
  refine ldN_h H4 1 rfl (by decide) ?_
  refine ld_h H4 2 rfl rfl ?_
  simp only [WKt, mem, drewV, cvU64]
  refine cal_h (put_spec (at_ := 4) (n := 8) (len := 24 + n) (cap := cap) H4 (by omega) (by simp [lay, bv_length, be_length, h24_length]; omega) (by omega)) ?_
  rintro e w5 ⟨rfl, H5⟩
  simp only [WKt, mem, drewV]
  try simp only [ixA42_0, ixA42_1, ixA42_2, ixA42_3, WKt, mem, drewV]
  refine ldN_h H5 1 rfl (by decide) ?_
  refine ld_h H5 2 rfl rfl ?_
  simp only [WKt, mem, drewV, cvU64]
  refine cal_h (put_spec (at_ := 12) (n := 4) (len := 24 + n) (cap := cap) H5 (by omega) (by simp [lay, bv_length, be_length, h24_length]; omega) (by omega)) ?_
  rintro e w6 ⟨rfl, H6⟩
  simp only [WKt, mem, drewV]
  try simp only [ixA42_0, ixA42_1, ixA42_2, ixA42_3, WKt, mem, drewV]
  refine ldN_h H6.drew 1 rfl (by decide) ?_
  rw [enc_lay] at H6
  have e6 : bv (encH k last m f n ++ [0, 0, 0, 0, 0, 0, 0, 0]) ++ (bv xs ++ rest) = bv (encH k last m f n ++ [0, 0, 0, 0, 0, 0, 0, 0] ++ xs) ++ rest := by rw [bv_append, bv_append, bv_append]; simp
  have hlH := encH_length k last m f n
  have hrd : Rd w6.drew 1 (.slice (some ⟨nb, 0, none⟩) (24 + n) cap) (24 + n) (bv (encH k last m f n ++ [0, 0, 0, 0, 0, 0, 0, 0] ++ xs)) := by
    have := (H6.drew.blk _ (List.mem_cons_self ..)).2.cellsAt ((24 + n) * 1) 0 0 (by simp [bv_length, hlH]; omega)
    refine .inr ⟨_, cap, rfl, hcap, ?_⟩
    rw [this]; congr 1
    rw [Nat.zero_add, List.drop_zero]
    rw [show (⟨nb, 5, bv (encH k last m f n ++ [0, 0, 0, 0, 0, 0, 0, 0]) ++ (bv xs ++ rest)⟩ : Chunk).l = _ from e6, List.take_left']
    simp [bv_length, hlH]; omega
  refine cal_h (dig_spec hrd (by omega) (by simp [hlH]; omega)) ?_
  rintro e w7 ⟨rfl, rfl⟩
  simp only [WKt, mem, drewV]
  have htd : (encH k last m f n ++ [0, 0, 0, 0, 0, 0, 0, 0] ++ xs).take 16 ++ (encH k last m f n ++ [0, 0, 0, 0, 0, 0, 0, 0] ++ xs).drop 24 = encH k last m f n ++ xs := by
    rw [List.append_assoc, List.take_left' hlH, List.drop_append, List.drop_of_length_le (by omega), hlH]
    simp
  rw [htd]
  refine ⟨(H6.drew.blk ⟨fb, 112, _⟩ (by simp)).2.cellsAt 2 6 0 (by simp), ?_⟩
  refine cal_h (put_spec (at_ := 16) (n := 8) (len := 24 + n) (cap := cap) H6.drew (by omega) (by simp [bv_length, hlH]; omega) (by omega)) ?_
  rintro e w8 ⟨rfl, H8⟩
  rw [enc_lay2 _ hlH] at H8
  simp only [WKt, mem, drewV]
  refine hok w8 ?_
  have e8 : bv (encH k last m f n ++ be 8 (digI (encH k last m f n ++ xs))) ++ (bv xs ++ rest) = bv (encB k last m f xs) ++ rest := by
    unfold encB; rw [hlen]; simp [bv_append]
  rw [e8] at H8
  exact H8.to (by intro f; simp only [I, U8, U64, ptr, List.set_cons_zero, List.set_cons_succ, List.eraseIdx_cons_zero, List.eraseIdx_cons_succ, List.map_append, List.map_cons, List.map_nil, List.sum_append, List.sum_cons, List.sum_nil]; omega)
end
end Go.Proofs.Ytmnpndgmfmjfhaa.Den
end

section
set_option linter.unusedVariables false
set_option linter.unusedSimpArgs false
set_option maxRecDepth 8000
namespace Go.Proofs.Ytmnpndgmfmjfhaa.Den
open Go Go.RowKit
section
variable {w : World} {w0 : Base} {F L : List Chunk} {R : ER} {k : Int} {last : Bool} {m f : Int} {s : Value} {n b : Nat} {xs : List Int}

theorem enc_head {tb : Nat} (H1 : Hp w0 w (⟨b, tb, frm k last m f s⟩ :: F)) (hs : RdL w0 F 1 s n (bv xs))
    (herr : encE k last m f n ≠ 0 → R (.returned (.tuple ⟨[.slice none 0 0, I (encE k last m f n)]⟩)) w)
    (hok : encE k last m f n = 0 → F16_j1 R (ptr b 0) w) : F16_j3 R (ptr b 0) w := by
  have p3 : ¬ (k ≠ 1 ∧ k ≠ 2) → ¬ (k = 2 ∧ (last = true ∨ 0 < n)) → F16_j7 R (ptr b 0) w := by
    intro hk h2
    unfold F16_j7
    simp only [WKt, mem, drewV]
    refine ld_h H1 0 rfl rfl ?_
    have fin : ¬ (m < 1 ∨ f < 0 ∨ 2147483647 < f) → cnd (.bool (decide ((4096 : Int) < (n : Int)))) (R (.returned (.tuple ⟨[.slice none 0 0, I 20]⟩))) (F16_j1 R (ptr b 0)) w := by
      intro h3
      refine cnd_decide (fun h4 => ?_) (fun h4 => ?_)
      · have e : encE k last m f n = 20 := by unfold encE; rw [if_neg hk, if_neg h2, if_neg h3, if_pos (by omega)]
        have := herr (by rw [e]; decide)
        rw [e] at this; exact this
      · exact hok (by unfold encE; rw [if_neg hk, if_neg h2, if_neg h3, if_neg (by omega)])
    have bad : (m < 1 ∨ f < 0 ∨ 2147483647 < f) → R (.returned (.tuple ⟨[.slice none 0 0, I 34]⟩)) w := by
      intro h
      have e : encE k last m f n = 34 := by unfold encE; rw [if_neg hk, if_neg h2, if_pos h]
      have := herr (by rw [e]; decide)
      rw [e] at this; exact this
    by_cases hm : m < 1
    · simp only [decide_eq_true hm, WKt, mem, drewV]
      exact bad (.inl hm)
    · simp only [decide_eq_false hm, WKt, mem, drewV]
      refine ld_h H1 0 rfl rfl ?_
      by_cases hf : f < 0
      · simp only [decide_eq_true hf, WKt, mem, drewV]
        exact bad (.inr (.inl hf))
      · simp only [decide_eq_false hf, WKt, mem, drewV]
        refine ld_h H1 0 rfl rfl ?_
        by_cases hg : 2147483647 < f
        · simp only [decide_eq_true hg, WKt, mem, drewV]
          exact bad (.inr (.inr hg))
        · simp only [decide_eq_false hg, WKt, mem, drewV]
          refine ld_h H1 0 rfl rfl ?_
          simp only [lenS_rdL hs, WKt, mem, drewV]
          exact fin (by omega)
  have p2 : ¬ (k ≠ 1 ∧ k ≠ 2) → F16_j5 R (ptr b 0) w := by
    intro hk
    unfold F16_j5 F16_j6
    simp only [WKt, mem, drewV]
    refine ld_h H1 0 rfl rfl ?_
    have bad : (k = 2 ∧ (last = true ∨ 0 < n)) → R (.returned (.tuple ⟨[.slice none 0 0, I 14]⟩)) w := by
      intro h
      have e : encE k last m f n = 14 := by unfold encE; rw [if_neg hk, if_pos h]
      have := herr (by rw [e]; decide)
      rw [e] at this; exact this
    by_cases h2 : k = 2
    · simp only [decide_eq_true h2, WKt, mem, drewV]
      refine ld_h H1 0 rfl rfl ?_
      cases hl : last with
      | true =>
        simp only [WKt, mem, drewV]
        exact bad ⟨h2, .inl hl⟩
      | false =>
        rw [hl] at H1
        simp only [WKt, mem, drewV]
        refine ld_h H1 0 rfl rfl ?_
        simp only [lenS_rdL hs, WKt, mem, drewV]
        by_cases hn : 0 < n
        · simp only [decide_eq_true (show (0 : Int) < (n : Int) from by omega), WKt, mem, drewV]
          exact bad ⟨h2, .inr hn⟩
        · simp only [decide_eq_false (show ¬ (0 : Int) < (n : Int) from by omega), WKt, mem, drewV]
          exact p3 hk (by rw [hl]; simp; omega)
    · simp only [decide_eq_false h2, WKt, mem, drewV]
      exact p3 hk (by omega)
  unfold F16_j3 F16_j4
  simp only [WKt, mem, drewV]
  refine ld_h H1 0 rfl rfl ?_
  by_cases h1 : k = 1
  · simp only [show decide (k ≠ 1) = false from decide_eq_false (by omega), WKt, mem, drewV]
    exact p2 (by omega)
  · simp only [show decide (k ≠ 1) = true from decide_eq_true (by omega), WKt, mem, drewV]
    refine ld_h H1 0 rfl rfl ?_
    by_cases h2 : k = 2
    · simp only [WKt, mem, drewV, show decide (k ≠ 2) = false from decide_eq_false (by omega)]
      exact p2 (by omega)
    · simp only [WKt, mem, drewV, show decide (k ≠ 2) = true from decide_eq_true (by omega)]
      have e : encE k last m f n = 17 := by unfold encE; rw [if_pos ⟨h1, h2⟩]
      have := herr (by rw [e]; decide)
      rw [e] at this; exact this

/-- The reference's Encode behind its first box. -/
def F17_j0 (R : ER) (x1 : Value) : WP :=
  pv (faO 0 x1) fun v82 =>
  ld1 v82 fun v83 =>
  pv (bin .neq v83 (.int .i64 1)) fun v84 =>
  gd v84 true (pv (faO 0 x1)) fun v85 =>
  gd v84 true (ld1 v85) fun v86 =>
  gd v84 true (pv (bin .neq v86 (.int .i64 2))) fun v87 =>
  pv (pickO v84 v87 (.bool false)) fun v88 =>
  cnd v88 (
   R (.returned (.tuple ⟨[(.slice none 0 0), (.int .i64 17)]⟩))) (
   F17_j1 R x1)
theorem renc_0 (R : ER) (x0 : Value) : F17 R x0 = bx 52 x0 fun v => F17_j0 R v := rfl

theorem renc_head {tb : Nat} (H1 : Hp w0 w (⟨b, tb, frm k last m f s⟩ :: F)) (hs : RdL w0 F 1 s n (bv xs))
    (herr : encE k last m f n ≠ 0 → R (.returned (.tuple ⟨[.slice none 0 0, I (encE k last m f n)]⟩)) w)
    (hok : encE k last m f n = 0 → F17_j4 R (ptr b 0) w) : F17_j0 R (ptr b 0) w := by
  have p3 : ¬ (k ≠ 1 ∧ k ≠ 2) → ¬ (k = 2 ∧ (last = true ∨ 0 < n)) → F17_j2 R (ptr b 0) w := by
    intro hk h2
    unfold F17_j2 F17_j7
    simp only [WKt, mem, drewV]
    refine ld_h H1 0 rfl rfl ?_
    have fin : ¬ (m < 1 ∨ f < 0 ∨ 2147483647 < f) → cnd (.bool (decide ((4096 : Int) < (n : Int)))) (R (.returned (.tuple ⟨[.slice none 0 0, I 20]⟩))) (F17_j4 R (ptr b 0)) w := by
      intro h3
      refine cnd_decide (fun h4 => ?_) (fun h4 => ?_)
      · have e : encE k last m f n = 20 := by unfold encE; rw [if_neg hk, if_neg h2, if_neg h3, if_pos (by omega)]
        have := herr (by rw [e]; decide)
        rw [e] at this; exact this
      · exact hok (by unfold encE; rw [if_neg hk, if_neg h2, if_neg h3, if_neg (by omega)])
    have bad : (m < 1 ∨ f < 0 ∨ 2147483647 < f) → R (.returned (.tuple ⟨[.slice none 0 0, I 34]⟩)) w := by
      intro h
      have e : encE k last m f n = 34 := by unfold encE; rw [if_neg hk, if_neg h2, if_pos h]
      have := herr (by rw [e]; decide)
      rw [e] at this; exact this
    by_cases hm : m < 1
    · simp only [decide_eq_true hm, WKt, mem, drewV]
      exact bad (.inl hm)
    · simp only [decide_eq_false hm, WKt, mem, drewV]
      refine ld_h H1 0 rfl rfl ?_
      by_cases hf : f < 0
      · simp only [decide_eq_true hf, WKt, mem, drewV]
        exact bad (.inr (.inl hf))
      · simp only [decide_eq_false hf, WKt, mem, drewV]
        refine ld_h H1 0 rfl rfl ?_
        by_cases hg : 2147483647 < f
        · simp only [decide_eq_true hg, WKt, mem, drewV]
          exact bad (.inr (.inr hg))
        · simp only [decide_eq_false hg, WKt, mem, drewV]
          unfold F17_j3
          simp only [WKt, mem, drewV]
          refine ld_h H1 0 rfl rfl ?_
          simp only [lenS_rdL hs, WKt, mem, drewV]
          exact fin (by omega)
  have p2 : ¬ (k ≠ 1 ∧ k ≠ 2) → F17_j1 R (ptr b 0) w := by
    intro hk
    unfold F17_j1 F17_j8
    simp only [WKt, mem, drewV]
    refine ld_h H1 0 rfl rfl ?_
    have bad : (k = 2 ∧ (last = true ∨ 0 < n)) → R (.returned (.tuple ⟨[.slice none 0 0, I 14]⟩)) w := by
      intro h
      have e : encE k last m f n = 14 := by unfold encE; rw [if_neg hk, if_pos h]
      have := herr (by rw [e]; decide)
      rw [e] at this; exact this
    by_cases h2 : k = 2
    · simp only [decide_eq_true h2, WKt, mem, drewV]
      refine ld_h H1 0 rfl rfl ?_
      cases hl : last with
      | true =>
        simp only [WKt, mem, drewV]
        exact bad ⟨h2, .inl hl⟩
      | false =>
        rw [hl] at H1
        simp only [WKt, mem, drewV]
        refine ld_h H1 0 rfl rfl ?_
        simp only [lenS_rdL hs, WKt, mem, drewV]
        by_cases hn : 0 < n
        · simp only [decide_eq_true (show (0 : Int) < (n : Int) from by omega), WKt, mem, drewV]
          exact bad ⟨h2, .inr hn⟩
        · simp only [decide_eq_false (show ¬ (0 : Int) < (n : Int) from by omega), WKt, mem, drewV]
          exact p3 hk (by rw [hl]; simp; omega)
    · simp only [decide_eq_false h2, WKt, mem, drewV]
      exact p3 hk (by omega)
  unfold F17_j0
  simp only [WKt, mem, drewV]
  refine ld_h H1 0 rfl rfl ?_
  by_cases h1 : k = 1
  · simp only [show decide (k ≠ 1) = false from decide_eq_false (by omega), WKt, mem, drewV]
    exact p2 (by omega)
  · simp only [show decide (k ≠ 1) = true from decide_eq_true (by omega), WKt, mem, drewV]
    refine ld_h H1 0 rfl rfl ?_
    by_cases h2 : k = 2
    · simp only [WKt, mem, drewV, show decide (k ≠ 2) = false from decide_eq_false (by omega)]
      exact p2 (by omega)
    · simp only [WKt, mem, drewV, show decide (k ≠ 2) = true from decide_eq_true (by omega)]
      have e : encE k last m f n = 17 := by unfold encE; rw [if_pos ⟨h1, h2⟩]
      have := herr (by rw [e]; decide)
      rw [e] at this; exact this

theorem mem1 {y : World} {a : Addr} {v : Value} (h : y.cell? a = some v) : ∀ x ∈ [y], x.cell? a = some v := by
  intro x hx; simp at hx; subst hx; exact h
theorem mem2 {y z : World} {a : Addr} {v : Value} (h : y.cell? a = some v) (h' : z.cell? a = some v) : ∀ x ∈ [y, z], x.cell? a = some v := by
  intro x hx; simp at hx; rcases hx with rfl | rfl <;> assumption
theorem enc_j1 (hs : RdL w0 F 1 s n (bv xs)) (hn : n ≤ 4096) (H : Hp w0 w (⟨b, 48, frm k last m f s⟩ :: F))
    (hok : ∀ w' s' cs', Hp w0 w' (cs' ++ F) → Sl 5 1 s' (24 + n) (bv (encB k last m f xs)) cs' → R (.returned (.tuple ⟨[s', I 0]⟩)) w') : F16_j1 R (ptr b 0) w := by
  have hlen : xs.length = n := by have := hs.length; rw [bv_length] at this; omega
  unfold F16_j1
  simp only [WKt, mem, drewV]
  refine make_h elT24 H.drew (n := 24) (c := 24) rfl rfl (by omega) (by omega) (by omega) fun w1 nb H1 => ?_
  refine ldS_h H1 1 rfl rfl (mem1 (H.drew.cell 0 rfl rfl)) ?_
  have hz : (List.replicate 24 [U8 0]).flatten = [U8 0, U8 0, U8 0, U8 0, U8 0, U8 0, U8 0, U8 0, U8 0, U8 0, U8 0, U8 0, U8 0, U8 0, U8 0, U8 0, U8 0, U8 0, U8 0, U8 0, U8 0, U8 0, U8 0, U8 0] := rfl
  rw [hz] at H1
  refine append_h (cs := [⟨nb, 5, _⟩]) elT24 H1 (Sl.full (n := 24) (sz := 1) rfl) (hs.mono (by intro c hc; simp [hc])) bv_scalar (by omega) (by omega) fun w2 s2 cs2 H2 hs2 => ?_
  obtain ⟨b3, cap, rest, rfl, rfl, g1, g2, g3⟩ := hs2.chunk (by omega)
  rw [List.append_assoc] at H2
  refine ld_h H2 1 rfl rfl ?_
  simp only [WKt, mem, drewV, cvU8]
  have hi0 : ixS 1 (.slice (some ⟨b3, 0, none⟩) (24 + n) cap) (.int .i64 0) = some (ptr b3 0) := by
    have := ixS_mk (sz := 1) (b := b3) (o := 0) (c := cap) (n := 24 + n) (j := 0) (k := .i64) (by omega); simpa using this
  have hi1 : ixS 1 (.slice (some ⟨b3, 0, none⟩) (24 + n) cap) (.int .i64 1) = some (ptr b3 1) := by
    have := ixS_mk (sz := 1) (b := b3) (o := 0) (c := cap) (n := 24 + n) (j := 1) (k := .i64) (by omega); simpa using this
  simp only [hi0, hi1, WKt, mem, drewV]
  refine st_h H2 0 rfl (by simp) rfl fun w3 H3 => ?_
  refine ld_h H3 1 rfl rfl ?_
  have fin : ∀ w', Hp w0 w' (⟨b3, 5, h24 k last ++ (bv xs ++ rest)⟩ :: ⟨b, 48, frm k last m f s⟩ :: F) → F16_j2 R (ptr b 0) (.slice (some ⟨b3, 0, none⟩) (24 + n) cap) w' := by
    intro w' H'
    refine enc_j2 hs hn g2 H' (by rw [g3]; omega) fun w'' H'' => ?_
    exact hok w'' _ [⟨b3, 5, bv (encB k last m f xs) ++ rest⟩] H'' (.inr ⟨b3, cap, rest, rfl, rfl, by rw [bv_length, encB_length, hlen]; omega, g2, g3⟩)
  cases hl : last with
  | true =>
    rw [hl] at fin
    simp only [WKt, mem, drewV]
    rw [hl] at H3
    refine st_h H3 0 rfl (by simp) rfl fun w4 H4 => ?_
    exact fin w4 H4
  | false =>
    rw [hl] at fin H3
    simp only [WKt, mem, drewV]
    exact fin w3 H3
/-- What Encode hands back. -/
def EncPost (w0 : Base) (F : List Chunk) (k : Int) (last : Bool) (m f : Int) (n : Nat) (xs : List Int) : ER := fun e w' => ∃ s' n' ys cs, e = .returned (.tuple ⟨[s', I (encE k last m f n)]⟩) ∧ Hp w0 w' (cs ++ F) ∧ Sl 5 1 s' n' (bv ys) cs ∧
      (encE k last m f n ≠ 0 → n' = 0 ∧ s' = .slice none 0 0 ∧ ys = []) ∧ (encE k last m f n = 0 → n ≤ 4096 ∧ n' = 24 + n ∧ ys = encB k last m f xs)
theorem Encode_spec (hs : RdL w0 F 1 s n (bv xs)) (H : Hp w0 w F) :
    Calls Pg 16 ⟨[.agg ⟨frm k last m f s⟩]⟩ w (EncPost w0 F k last m f n xs) := by
  apply F16_calls
  unfold F16
  refine bxa_h H fun w1 b H1 => ?_
  refine enc_head H1 hs (fun he => ?_) (fun he => ?_)
  · exact ⟨_, 0, [], [], rfl, H1.tail, Sl.nil, fun _ => ⟨rfl, rfl, rfl⟩, fun h => absurd h he⟩
  · have hn : n ≤ 4096 := by
      refine Nat.le_of_not_lt fun h4 => ?_
      have : encE k last m f n ≠ 0 := by
        unfold encE
        split
        · decide
        · split
          · decide
          · split
            · decide
            · first | decide | (rw [if_pos h4]; decide)
      exact this he
    refine enc_j1 hs hn H1 fun w' s' cs' H' hs' => ?_
    exact ⟨s', 24 + n, _, cs', by rw [he], H', hs', fun h => absurd he h, fun _ => ⟨hn, rfl, rfl⟩⟩
end
end Go.Proofs.Ytmnpndgmfmjfhaa.Den
end

section
set_option linter.unusedVariables false
set_option linter.unusedSimpArgs false
set_option maxRecDepth 8000
namespace Go.Proofs.Ytmnpndgmfmjfhaa.Den
open Go Go.RowKit
section
variable {w : World} {w0 : Base} {F L : List Chunk} {R : ER} {k : Int} {last : Bool} {m f : Int} {s : Value} {n b : Nat} {xs : List Int}
/-- append of bytes. -/
theorem appB {s src : Value} {n m : Nat} {xs ys : List Int} {cs F : List Chunk} {K : VK} {R : ER} {w : World} {ty : Nat} {cc : Array Bool} (H : Hp w0 w (cs ++ F)) (hs : Sl 5 1 s n (bv xs) cs) (hsrc : RdL w0 (cs ++ F) 1 src m (bv ys))
    (hsize : n + m < 2 ^ 40) (k : ∀ w' s' cs', Hp w0 w' (cs' ++ F) → Sl 5 1 s' (n + m) (bv (xs ++ ys)) cs' → K s' w') : blt Pg R .append ⟨[24, 24]⟩ ty cc ⟨[s, src]⟩ K w :=
  append_h elT24 H hs hsrc bv_scalar (by omega) (by omega) fun w' s' cs' H' hs' => k w' s' cs' H' (by rw [bv_append]; exact hs')
theorem renc_j6 {s5 : Value} {cs5 : List Chunk} (hs : RdL w0 F 1 s n (bv xs)) (hn : n ≤ 4096) (H : Hp w0 w (cs5 ++ (⟨b, 52, frm k last m f s⟩ :: F))) (h5 : Sl 5 1 s5 4 (bv ([k % 256, lbit last] ++ be 2 (u64 n))) cs5)
    (hok : ∀ w' s' cs', Hp w0 w' (cs' ++ F) → Sl 5 1 s' (24 + n) (bv (encB k last m f xs)) cs' → R (.returned (.tuple ⟨[s', I 0]⟩)) w') : F17_j6 R (ptr b 0) s5 w := by
  have hlen : xs.length = n := by have := hs.length; rw [bv_length] at this; omega
  unfold F17_j6
  have H1 : Hp w0 w.drew (⟨b, 52, frm k last m f s⟩ :: (cs5 ++ F)) := H.drew.to (by intro f; simp only [I, U8, U64, ptr, List.set_cons_zero, List.set_cons_succ, List.eraseIdx_cons_zero, List.eraseIdx_cons_succ, List.map_append, List.map_cons, List.map_nil, List.sum_append, List.sum_cons, List.sum_nil]; omega)
  simp only [WKt, mem, drewV]
  refine ld_h H1 0 rfl rfl ?_
  simp only [WKt, mem, drewV, cvU64]
  refine cal_h (rput_spec (n := 8) (by omega) H1) ?_
  rintro e w2 ⟨s2, cs2, rfl, H2, h2⟩
  simp only [WKt, mem, drewV]
  have H2' : Hp w0 w2 (cs5 ++ (⟨b, 52, frm k last m f s⟩ :: (cs2 ++ F))) := H2.to (by intro f; simp only [I, U8, U64, ptr, List.set_cons_zero, List.set_cons_succ, List.eraseIdx_cons_zero, List.eraseIdx_cons_succ, List.map_append, List.map_cons, List.map_nil, List.sum_append, List.sum_cons, List.sum_nil]; omega)
  have H2c : Hp w0 w2 (⟨b, 52, frm k last m f s⟩ :: (cs5 ++ (cs2 ++ F))) := H2.to (by intro f; simp only [I, U8, U64, ptr, List.set_cons_zero, List.set_cons_succ, List.eraseIdx_cons_zero, List.eraseIdx_cons_succ, List.map_append, List.map_cons, List.map_nil, List.sum_append, List.sum_cons, List.sum_nil]; omega)
  refine appB H2' h5 (h2.rdL (fun c hc => by simp [hc])) (by omega) fun w3 s3 cs3 H3 h3 => ?_
  have H3c : Hp w0 w3 (⟨b, 52, frm k last m f s⟩ :: (cs3 ++ F)) := H3.to (by intro f; simp only [I, U8, U64, ptr, List.set_cons_zero, List.set_cons_succ, List.eraseIdx_cons_zero, List.eraseIdx_cons_succ, List.map_append, List.map_cons, List.map_nil, List.sum_append, List.sum_cons, List.sum_nil]; omega)
  refine ldS_h H3c 0 rfl rfl (mem2 (H2c.cell 0 rfl rfl) (H1.cell 0 rfl rfl)) ?_
  simp only [WKt, mem, drewV, cvU64]
  refine cal_h (rput_spec (n := 4) (by omega) H3c) ?_
  rintro e w4 ⟨s4, cs4, rfl, H4, h4⟩
  simp only [WKt, mem, drewV]
  have H4' : Hp w0 w4 (cs3 ++ (⟨b, 52, frm k last m f s⟩ :: (cs4 ++ F))) := H4.to (by intro f; simp only [I, U8, U64, ptr, List.set_cons_zero, List.set_cons_succ, List.eraseIdx_cons_zero, List.eraseIdx_cons_succ, List.map_append, List.map_cons, List.map_nil, List.sum_append, List.sum_cons, List.sum_nil]; omega)
  refine appB H4' h3 (h4.rdL (fun c hc => by simp [hc])) (by omega) fun w5 s6 cs6 H5 h6 => ?_
  have eH : [k % 256, lbit last] ++ be 2 (u64 n) ++ be 8 (u64 m) ++ be 4 (u64 f) = encH k last m f n := rfl
  rw [eH] at h6
  have H5c : Hp w0 w5.drew (⟨b, 52, frm k last m f s⟩ :: (cs6 ++ F)) := H5.drew.to (by intro f; simp only [I, U8, U64, ptr, List.set_cons_zero, List.set_cons_succ, List.eraseIdx_cons_zero, List.eraseIdx_cons_succ, List.map_append, List.map_cons, List.map_nil, List.sum_append, List.sum_cons, List.sum_nil]; omega)
  refine lit0_h elT24 H5c fun w6 s7 H6 h7 => ?_
  simp only [WKt, mem, drewV]
  refine appB (cs := []) (xs := []) H6 h7 (h6.rdL (fun c hc => by simp [hc])) (by omega) fun w7 s8 cs8 H7 h8 => ?_
  have H7c : Hp w0 w7 (⟨b, 52, frm k last m f s⟩ :: (cs8 ++ (cs6 ++ F))) := H7.to (by intro f; simp only [I, U8, U64, ptr, List.set_cons_zero, List.set_cons_succ, List.eraseIdx_cons_zero, List.eraseIdx_cons_succ, List.map_append, List.map_cons, List.map_nil, List.sum_append, List.sum_cons, List.sum_nil]; omega)
  refine ldS_h H7c 0 rfl rfl (mem2 (H6.cell 0 rfl rfl) (H5c.cell 0 rfl rfl)) ?_
  have H7d : Hp w0 w7 (cs8 ++ (⟨b, 52, frm k last m f s⟩ :: (cs6 ++ F))) := H7
  refine appB H7d h8 (hs.mono (fun c hc => by simp [hc])) (by omega) fun w8 s9 cs9 H8 h9 => ?_
  refine cal_h (rdig_spec ((h9.rdL (L := cs9 ++ (⟨b, 52, frm k last m f s⟩ :: (cs6 ++ F))) (fun c hc => by simp [hc])).rd H8) (by omega)) ?_
  rintro e w9 ⟨rfl, rfl⟩
  simp only [WKt, mem, drewV]
  have H8c : Hp w0 _ (⟨b, 52, frm k last m f s⟩ :: (cs6 ++ F)) := H8.drew.to (by intro f; simp only [I, U8, U64, ptr, List.set_cons_zero, List.set_cons_succ, List.eraseIdx_cons_zero, List.eraseIdx_cons_succ, List.map_append, List.map_cons, List.map_nil, List.sum_append, List.sum_cons, List.sum_nil]; omega)
  refine cal_h (rput_spec (n := 8) (by omega) H8c) ?_
  rintro e w10 ⟨s11, cs11, rfl, H10, h11⟩
  simp only [WKt, mem, drewV]
  have H10' : Hp w0 w10 (cs6 ++ (⟨b, 52, frm k last m f s⟩ :: (cs11 ++ F))) := H10.to (by intro f; simp only [I, U8, U64, ptr, List.set_cons_zero, List.set_cons_succ, List.eraseIdx_cons_zero, List.eraseIdx_cons_succ, List.map_append, List.map_cons, List.map_nil, List.sum_append, List.sum_cons, List.sum_nil]; omega)
  have H10c : Hp w0 w10 (⟨b, 52, frm k last m f s⟩ :: (cs6 ++ (cs11 ++ F))) := H10.to (by intro f; simp only [I, U8, U64, ptr, List.set_cons_zero, List.set_cons_succ, List.eraseIdx_cons_zero, List.eraseIdx_cons_succ, List.map_append, List.map_cons, List.map_nil, List.sum_append, List.sum_cons, List.sum_nil]; omega)
  refine appB H10' h6 (h11.rdL (fun c hc => by simp [hc])) (by omega) fun w11 s12 cs12 H11 h12 => ?_
  have H11c : Hp w0 w11 (⟨b, 52, frm k last m f s⟩ :: (cs12 ++ F)) := H11.to (by intro f; simp only [I, U8, U64, ptr, List.set_cons_zero, List.set_cons_succ, List.eraseIdx_cons_zero, List.eraseIdx_cons_succ, List.map_append, List.map_cons, List.map_nil, List.sum_append, List.sum_cons, List.sum_nil]; omega)
  refine ldS_h H11c 0 rfl rfl (mem2 (H10c.cell 0 rfl rfl) (H8c.cell 0 rfl rfl)) ?_
  refine appB (F := ⟨b, 52, frm k last m f s⟩ :: (cs11 ++ F)) H11 h12 (hs.mono (fun c hc => by simp [hc])) (by omega) fun w12 s13 cs13 H12 h13 => ?_
  refine hok w12 s13 cs13 (H12.to (by intro f; simp only [I, U8, U64, ptr, List.set_cons_zero, List.set_cons_succ, List.eraseIdx_cons_zero, List.eraseIdx_cons_succ, List.map_append, List.map_cons, List.map_nil, List.sum_append, List.sum_cons, List.sum_nil]; omega)) ?_
  have e9 : encH k last m f n ++ be 8 (digI ([] ++ encH k last m f n ++ xs)) ++ xs = encB k last m f xs := by
    unfold encB; rw [hlen]; rfl
  rw [e9] at h13
  have e10 : 4 + 8 + 4 + 8 + n = 24 + n := by omega
  rw [e10] at h13
  exact h13
theorem renc_j5 (hs : RdL w0 F 1 s n (bv xs)) (hn : n ≤ 4096) (H : Hp w0 w (⟨b, 52, frm k last m f s⟩ :: F))
    (hok : ∀ w' s' cs', Hp w0 w' (cs' ++ F) → Sl 5 1 s' (24 + n) (bv (encB k last m f xs)) cs' → R (.returned (.tuple ⟨[s', I 0]⟩)) w') : F17_j5 R (ptr b 0) (U8 (lbit last)) w := by
  unfold F17_j5
  have H0 := H.drew
  simp only [WKt, mem, drewV]
  refine ld_h H0 0 rfl rfl ?_
  simp only [WKt, mem, drewV, cvU8]
  refine ld_h H0 0 rfl rfl ?_
  simp only [lenS_rdL hs, WKt, mem, drewV, cvU64]
  have hlit : ∀ {L : List Chunk} {w : World} {K : VK} {R : ER}, Hp w0 w L → (∀ w' s', ∀ nb, Hp w0 w' ([⟨nb, 5, bv [k % 256, lbit last]⟩] ++ L) → Sl 5 1 s' 2 (bv [k % 256, lbit last]) [⟨nb, 5, bv [k % 256, lbit last]⟩] → K s' w') →
      valV Pg R (Instr.buildSlice 24 2 ⟨[(0, U8 (k % 256)), (1, U8 (lbit last))]⟩) K w := by
    intro L w K R H kk
    exact lit_h (r := bv [k % 256, lbit last]) elT24 H (by omega) (by omega) rfl fun w' nb H' => kk w' _ nb H' (Sl.full rfl)
  refine ⟨?_, ?_⟩
  · refine hlit H0 fun w1 s1 nb H1 h1 => ?_
    refine ⟨H1.cell 1 rfl rfl, ?_⟩
    refine cal_h (rput_spec (n := 2) (by omega) H1) ?_
    rintro e w2 ⟨s2, cs2, rfl, H2, h2⟩
    have H2c : Hp w0 w2 (⟨b, 52, frm k last m f s⟩ :: ([⟨nb, 5, bv [k % 256, lbit last]⟩] ++ (cs2 ++ F))) := H2.to (by intro f; simp only [I, U8, U64, ptr, List.set_cons_zero, List.set_cons_succ, List.eraseIdx_cons_zero, List.eraseIdx_cons_succ, List.map_append, List.map_cons, List.map_nil, List.sum_append, List.sum_cons, List.sum_nil]; omega)
    simp only [WKt, mem, drewV]
    refine ⟨H2c.cell 0 rfl rfl, ?_⟩
    have H2' : Hp w0 w2 ([⟨nb, 5, bv [k % 256, lbit last]⟩] ++ (⟨b, 52, frm k last m f s⟩ :: (cs2 ++ F))) := H2.to (by intro f; simp only [I, U8, U64, ptr, List.set_cons_zero, List.set_cons_succ, List.eraseIdx_cons_zero, List.eraseIdx_cons_succ, List.map_append, List.map_cons, List.map_nil, List.sum_append, List.sum_cons, List.sum_nil]; omega)
    refine appB H2' h1 (h2.rdL (fun c hc => by simp [hc])) (by omega) fun w3 s3 cs3 H3 h3 => ?_
    exact renc_j6 (hs.mono (fun c hc => hc)) hn (H3.to (by intro f; simp only [I, U8, U64, ptr, List.set_cons_zero, List.set_cons_succ, List.eraseIdx_cons_zero, List.eraseIdx_cons_succ, List.map_append, List.map_cons, List.map_nil, List.sum_append, List.sum_cons, List.sum_nil]; omega)) h3 hok
  · refine cal_h (rput_spec (n := 2) (by omega) H0) ?_
    rintro e w2 ⟨s2, cs2, rfl, H2, h2⟩
    have H2c : Hp w0 w2 (⟨b, 52, frm k last m f s⟩ :: (cs2 ++ F)) := H2.to (by intro f; simp only [I, U8, U64, ptr, List.set_cons_zero, List.set_cons_succ, List.eraseIdx_cons_zero, List.eraseIdx_cons_succ, List.map_append, List.map_cons, List.map_nil, List.sum_append, List.sum_cons, List.sum_nil]; omega)
    simp only [WKt, mem, drewV]
    refine ⟨H2c.cell 0 rfl rfl, ?_⟩
    refine hlit H2c fun w1 s1 nb H1 h1 => ?_
    refine ⟨H1.cell 1 rfl rfl, ?_⟩
    refine appB H1 h1 (h2.rdL (fun c hc => by simp [hc])) (by omega) fun w3 s3 cs3 H3 h3 => ?_
    exact renc_j6 (hs.mono (fun c hc => hc)) hn (H3.to (by intro f; simp only [I, U8, U64, ptr, List.set_cons_zero, List.set_cons_succ, List.eraseIdx_cons_zero, List.eraseIdx_cons_succ, List.map_append, List.map_cons, List.map_nil, List.sum_append, List.sum_cons, List.sum_nil]; omega)) h3 hok
theorem rEncode_spec (hs : RdL w0 F 1 s n (bv xs)) (H : Hp w0 w F) :
    Calls Pg 17 ⟨[.agg ⟨frm k last m f s⟩]⟩ w (EncPost w0 F k last m f n xs) := by
  apply F17_calls
  rw [renc_0]
  refine bxa_h H fun w1 b H1 => ?_
  refine renc_head H1 hs (fun he => ?_) (fun he => ?_)
  · exact ⟨_, 0, [], [], rfl, H1.tail, Sl.nil, fun _ => ⟨rfl, rfl, rfl⟩, fun h => absurd h he⟩
  · have hn : n ≤ 4096 := by
      refine Nat.le_of_not_lt fun h4 => ?_
      have : encE k last m f n ≠ 0 := by
        unfold encE
        split
        · decide
        · split
          · decide
          · split
            · decide
            · first | decide | (rw [if_pos h4]; decide)
      exact this he
    unfold F17_j4
    simp only [WKt, mem, drewV]
    refine ld_h H1 0 rfl rfl ?_
    have fin : F17_j5 (EncPost w0 F k last m f n xs) (ptr b 0) (U8 (lbit last)) w1 := renc_j5 hs hn H1 fun w' s' cs' H' hs' =>
      ⟨s', 24 + n, _, cs', by rw [he], H', hs', fun h => absurd he h, fun _ => ⟨hn, rfl, rfl⟩⟩
    cases hl : last with
    | true => rw [hl] at fin; simp only [WKt, mem, drewV]; exact fin
    | false => rw [hl] at fin; simp only [WKt, mem, drewV]; exact fin
end
end Go.Proofs.Ytmnpndgmfmjfhaa.Den
end

section
set_option linter.unusedVariables false
set_option linter.unusedSimpArgs false
set_option maxRecDepth 8000
namespace Go.Proofs.Ytmnpndgmfmjfhaa.Den
open Go Go.RowKit
def i64 (x : Int) : Int := IntKind.i64.wrap x
theorem cvI64 (k : IntKind) (a : Int) : cvI .i64 (.int k a) = some (I (i64 a)) := rfl
def dK (xs : List Int) : Int := i64 (xs.getD 0 0)
def dB (xs : List Int) : Int := xs.getD 1 0
def dL (xs : List Int) : Int := i64 (getI ((xs.drop 2).take 2))
def dM (xs : List Int) : Int := i64 (getI ((xs.drop 4).take 8))
def dF (xs : List Int) : Int := i64 (getI ((xs.drop 12).take 4))
def dS (xs : List Int) : Int := getI ((xs.drop 16).take 8)
def dOk (xs : List Int) : Prop := (dK xs = 1 ∨ dK xs = 2 ∧ dB xs = 0 ∧ xs.length = 24) ∧ dB xs ≤ 1 ∧ dL xs = (xs.length : Int) - 24 ∧ 1 ≤ dM xs ∧ dF xs ≤ 2147483647
instance (xs : List Int) : Decidable (dOk xs) := by unfold dOk; infer_instance
def decE (xs : List Int) : Int := if xs.length < 24 ∨ 4120 < xs.length ∨ ¬ dOk xs then 12 else if dS xs ≠ digI (xs.take 16 ++ xs.drop 24) then 6 else 0
/-- What Decode hands back. -/
def DecPost (w0 : Base) (F : List Chunk) (xs : List Int) : ER := fun e w' => ∃ k last m f s' n' ys cs, e = .returned (.tuple ⟨[.agg ⟨frm k last m f s'⟩, I (decE xs)]⟩) ∧ Hp w0 w' (cs ++ F) ∧ Sl 5 1 s' n' (bv ys) cs ∧
  (decE xs ≠ 0 → k = 0 ∧ last = false ∧ m = 0 ∧ f = 0 ∧ n' = 0 ∧ s' = .slice none 0 0 ∧ ys = []) ∧
  (decE xs = 0 → k = dK xs ∧ last = decide (dB xs = 1) ∧ m = dM xs ∧ f = dF xs ∧ n' + 24 = xs.length ∧ ys = xs.drop 24)
section
variable {w : World} {w0 : Base} {F L : List Chunk} {R : ER} {s : Value} {n b : Nat} {xs : List Int}
theorem eqNilS_rd {s : Value} {n : Nat} {ys : List Value} (h : RdL w0 L 1 s n ys) : (eqNilS s = some (.bool true) ∧ n = 0 ∧ ys = []) ∨ eqNilS s = some (.bool false) := by
  rcases h with (⟨c, rfl, h0, rfl⟩ | ⟨a, c, rfl, _, h⟩) | ⟨b, o, c, el, l, rfl, _⟩
  · exact .inl ⟨rfl, by omega, rfl⟩
  · exact .inr rfl
  · exact .inr rfl
theorem Clone1_spec (hs : RdL w0 F 1 s n (bv xs)) (hne : eqNilS s = some (.bool false)) (hn : n < 2 ^ 40) (H : Hp w0 w F) :
    Calls Pg 26 ⟨[s]⟩ w fun e w' => ∃ s' b l, e = .returned s' ∧ Hp w0 w' (⟨b, 5, l⟩ :: F) ∧ Sl 5 1 s' n (bv xs) [⟨b, 5, l⟩] := by
  apply F26_calls
  unfold F26
  simp only [hne, WKt, mem, drewV]
  refine lit0c_h elT24 H fun w1 b H1 h1 => ?_
  refine append_h' (cs := [⟨b, 5, []⟩]) elT24 H1 h1 (hs.mono (fun c hc => by simp [hc])) bv_scalar (by omega) (by omega) fun w2 s2 cs2 H2 h2 hc => ?_
  rcases hc with ⟨hc, _⟩ | ⟨⟨b2, t2, l2⟩, rfl⟩
  · cases hc
  · have ht : t2 = 5 := by
      rcases h2 with ⟨h, _⟩ | ⟨b3, cap, rest, h, _⟩
      · cases h
      · simp only [List.cons.injEq, Chunk.mk.injEq, and_true] at h; exact h.2.1
    subst ht
    rw [Nat.zero_add] at h2
    exact ⟨s2, b2, l2, rfl, H2, h2⟩
theorem Clone_spec (hs : RdL w0 F 1 s n (bv xs)) (hn : n < 2 ^ 40) (H : Hp w0 w F) :
    Calls Pg 26 ⟨[s]⟩ w fun e w' => ∃ s' cs, e = .returned s' ∧ Hp w0 w' (cs ++ F) ∧ Sl 5 1 s' n (bv xs) cs := by
  rcases eqNilS_rd hs with ⟨h, rfl, h0⟩ | h
  · apply F26_calls
    unfold F26
    simp only [h, WKt, mem, drewV]
    exact ⟨_, [], rfl, H, by rw [h0]; exact Sl.nil⟩
  · refine (Clone1_spec hs h hn H).mono ?_
    rintro e w' ⟨s', b, l, rfl, H', hs'⟩
    exact ⟨s', _, rfl, H', hs'⟩
def zfrm : List Value := [I 0, .bool false, I 0, I 0, .slice none 0 0]
theorem ixA24_0 (b : Nat) : ixA 24 1 (ptr b 0) (I 0) = some (ptr b 0) := rfl
theorem ixA24_1 (b : Nat) : ixA 24 1 (ptr b 0) (I 1) = some (ptr b 1) := rfl
theorem bld0 : bldO [I 0, .bool false, I 0, I 0, .slice none 0 0] [] = some (.agg ⟨zfrm⟩) := rfl
theorem sl_cells {s : Value} {el sz n : Nat} {xs : List Value} {cs : List Chunk} (h : Sl el sz s n xs cs) : s.cells = #[s] := by
  rcases h with ⟨_, ⟨a, rfl⟩, _⟩ | ⟨b, cap, rest, _, rfl, _⟩ <;> rfl
theorem sl_scalar {s : Value} {el sz n : Nat} {xs : List Value} {cs : List Chunk} (h : Sl el sz s n xs cs) : scalar s = true := by
  rcases h with ⟨_, ⟨a, rfl⟩, _⟩ | ⟨b, cap, rest, _, rfl, _⟩ <;> rfl
theorem bldF {k m f : Int} {last : Bool} {s : Value} (h : s.cells = #[s]) : bldO [I 0, .bool false, I 0, I 0, .slice none 0 0] [(0, 1, I k), (1, 1, .bool last), (2, 1, I m), (3, 1, I f), (4, 1, s)] = some (.agg ⟨frm k last m f s⟩) := by
  simp [bldO, buildL, h, show ∀ n, (Value.int .i64 n).cells = #[I n] from fun _ => rfl, show ∀ b, (Value.bool b).cells = #[.bool b] from fun _ => rfl, frm]
theorem frm_scalar {k m f : Int} {last : Bool} {s : Value} (h : scalar s = true) : ∀ c ∈ frm k last m f s, scalar c = true := by
  intro c hc
  simp only [frm, List.mem_cons, List.not_mem_nil, or_false] at hc
  rcases hc with rfl | rfl | rfl | rfl | rfl <;> first | rfl | exact h
/-- The place of a byte array that was copied out of a slice. -/
theorem arr24 (hs : RdL w0 F 1 s n (bv xs)) (h24 : 24 ≤ n) : ∃ a, arrO 24 s = some (.pointer (some a)) ∧ ∀ {w : World} {L : List Chunk}, Hp w0 w L → (∀ c ∈ F, c ∈ L) → cellsAt w a 0 24 = some (bv (xs.take 24)) := by
  have hsl : ∃ a c, s = .slice (some a) n c := by
    rcases hs with (⟨c, rfl, h0, _⟩ | ⟨a, c, rfl, _, h⟩) | ⟨b, o, c, el, l, rfl, hmc, hm, hle, _⟩
    · omega
    · exact ⟨a, c, rfl⟩
    · exact ⟨_, c, rfl⟩
  obtain ⟨a, c, rfl⟩ := hsl
  refine ⟨a, by unfold arrO; simp only; rw [if_neg (by omega)], fun {w L} H hL => ?_⟩
  rcases (hs.mono hL).rd H with ⟨c, h, h0, _⟩ | ⟨a', c', he, _, h⟩
  · omega
  · injection he with he _ _; injection he with he; subst he
    obtain ⟨h1, h2⟩ := (cellsAt_spec _ _ _).1 h
    refine (cellsAt_spec _ _ _).2 ⟨by simp [bv_length] at h1 ⊢; omega, fun j hj => ?_⟩
    rw [h2 j (by omega)]
    simp [bv, List.getElem?_take, hj]
theorem bv_take (xs : List Int) (n : Nat) : bv (xs.take n) = (bv xs).take n := by simp [bv, List.map_take]
theorem bv_drop (xs : List Int) (n : Nat) : bv (xs.drop n) = (bv xs).drop n := by simp [bv, List.map_drop]
theorem cellsAt_add {w : World} {a : Addr} : ∀ (n i k : Nat), cellsAt w (a.add k) i n = cellsAt w a (k + i) n
  | 0, _, _ => rfl
  | n + 1, i, k => by simp only [cellsAt, add_add, cellsAt_add n (i + 1) k, Nat.add_assoc]
theorem boundO_some {n d : Nat} {x : Int} (h0 : 0 ≤ x) (h : x ≤ (n : Int)) : boundO (some (I x)) n d = some x.toNat := by
  simp only [boundO]; rw [if_pos ⟨h0, h⟩]
/-- A part of a slice that can be read. -/
theorem slS_rd {lo hi : Nat} {X Y : Int} (hs : RdL w0 F 1 s n (bv xs)) (hX : X = (lo : Int)) (hY : Y = (hi : Int)) (hne : 0 < n) (h1 : lo ≤ hi) (h2 : hi ≤ n) :
    ∃ s', slS 1 s (some (I X)) (some (I Y)) = some s' ∧ RdL w0 F 1 s' (hi - lo) (bv ((xs.drop lo).take (hi - lo))) ∧ eqNilS s' = some (.bool false) := by
  subst hX hY
  have hl := hs.length
  rw [bv_length] at hl
  rcases hs with (⟨c, rfl, h0, _⟩ | ⟨a, c, rfl, hmc, h⟩) | ⟨b, o, c, el, l, rfl, hmc, hm, hle, he⟩
  · omega
  · refine ⟨.slice (if c = lo then some a else some (a.add (lo * 1))) (hi - lo) (c - lo), ?_, ?_, by split <;> rfl⟩
    · simp only [slS, boundO_some (Int.natCast_nonneg hi) (show (hi : Int) ≤ (c : Int) from by omega), boundO_some (Int.natCast_nonneg lo) (show (lo : Int) ≤ ((hi : Nat) : Int) from by omega), Int.toNat_natCast, Option.map_some]
    · left; right
      by_cases hc : c = lo
      · have : hi - lo = 0 := by omega
        rw [if_pos hc, this]
        exact ⟨a, c - lo, rfl, by omega, rfl⟩
      · rw [if_neg hc]
        refine ⟨_, _, rfl, by omega, ?_⟩
        rw [Nat.mul_one, cellsAt_add]
        obtain ⟨g1, g2⟩ := (cellsAt_spec _ _ _).1 h
        refine (cellsAt_spec _ _ _).2 ⟨by simp [bv_length]; omega, fun j hj => ?_⟩
        have := g2 (lo + j) (by omega)
        rw [Nat.add_zero, ← Nat.zero_add (lo + j), this]
        simp only [bv_take, bv_drop]
        rw [List.getElem?_take, if_pos (by omega), List.getElem?_drop]
  · refine ⟨.slice (if c = lo then some ⟨b, o, none⟩ else some ⟨b, o + lo, none⟩) (hi - lo) (c - lo), ?_, ?_, by split <;> rfl⟩
    · simp only [slS, boundO_some (Int.natCast_nonneg hi) (show (hi : Int) ≤ (c : Int) from by omega), boundO_some (Int.natCast_nonneg lo) (show (lo : Int) ≤ ((hi : Nat) : Int) from by omega), Int.toNat_natCast, Option.map_some, add_mk, Nat.mul_one]
    · right
      by_cases hc : c = lo
      · have : hi - lo = 0 := by omega
        rw [if_pos hc, this]
        exact ⟨b, o, c - lo, el, l, rfl, by omega, hm, by omega, by simp [bv]⟩
      · rw [if_neg hc]
        refine ⟨b, o + lo, c - lo, el, l, rfl, by omega, hm, by omega, ?_⟩
        rw [bv_take, bv_drop, he, List.drop_take, List.drop_drop, List.take_take, Nat.mul_one, Nat.mul_one, Nat.min_eq_left (by omega)]
theorem slS_from {lo : Nat} {X : Int} (hs : RdL w0 F 1 s n (bv xs)) (hX : X = (lo : Int)) (hne : 0 < n) (h2 : lo ≤ n) :
    ∃ s', slS 1 s (some (I X)) none = some s' ∧ RdL w0 F 1 s' (n - lo) (bv (xs.drop lo)) ∧ eqNilS s' = some (.bool false) := by
  obtain ⟨s', g1, g2, g3⟩ := slS_rd hs hX rfl hne h2 (Nat.le_refl n)
  have hl := hs.length
  rw [bv_length] at hl
  refine ⟨s', ?_, ?_, g3⟩
  · rw [← g1]
    rcases hs with (⟨c, rfl, h0, _⟩ | ⟨a, c, rfl, hmc, h⟩) | ⟨b, o, c, el, l, rfl, hmc, hm, hle, he⟩
    · omega
    · simp only [slS, boundO_some (Int.natCast_nonneg n) (show (n : Int) ≤ (c : Int) from by omega), Int.toNat_natCast]; rfl
    · simp only [slS, boundO_some (Int.natCast_nonneg n) (show (n : Int) ≤ (c : Int) from by omega), Int.toNat_natCast]; rfl
  · rw [List.take_of_length_le (by simp; omega)] at g2
    exact g2
theorem slS_to {hi : Nat} {Y : Int} (hs : RdL w0 F 1 s n (bv xs)) (hY : Y = (hi : Int)) (hne : 0 < n) (h2 : hi ≤ n) :
    ∃ s', slS 1 s none (some (I Y)) = some s' ∧ RdL w0 F 1 s' hi (bv (xs.take hi)) ∧ eqNilS s' = some (.bool false) := by
  obtain ⟨s', g1, g2, g3⟩ := slS_rd (lo := 0) hs rfl hY hne (Nat.zero_le _) h2
  refine ⟨s', ?_, by simpa using g2, g3⟩
  rw [← g1]
  rcases hs with (⟨c, rfl, h0, _⟩ | ⟨a, c, rfl, hmc, h⟩) | ⟨b, o, c, el, l, rfl, hmc, hm, hle, he⟩
  · omega
  · subst hY
    simp only [slS, boundO_some (Int.natCast_nonneg hi) (show (hi : Int) ≤ (c : Int) from by omega), Int.toNat_natCast]; rfl
  · subst hY
    simp only [slS, boundO_some (Int.natCast_nonneg hi) (show (hi : Int) ≤ (c : Int) from by omega), Int.toNat_natCast]; rfl
end
end Go.Proofs.Ytmnpndgmfmjfhaa.Den
end
