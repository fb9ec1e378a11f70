/- Printed by a program of this session: what the functions mean, and that the model means just that. Conditions: none. -/
import Derived.Test.YtmnpndgmfmjfhaaDenRange
set_option linter.unusedVariables false
set_option maxRecDepth 100000
namespace Go.Proofs.Ytmnpndgmfmjfhaa.Den
open Go
/-! ### 56: orpimentref35_Link_Next -/
def orpimentref35_Link_Next_j3 (R : ER) (x0 : Value) : WP :=
  pv (nilO x0) fun v1 =>
  pv (faO 5 v1) fun v2 =>
  ld1 v2 fun v3 =>
  pv (lenS v3) fun v4 =>
  pv (bin .gtr v4 (.int .i64 0)) fun v5 =>
  cnd v5 (
   drewV (
   pv (nilO x0) fun v6 =>
   pv (faO 4 v6) fun v7 =>
   ld1 v7 fun v8 =>
   pv (nilO x0) fun v9 =>
   pv (faO 5 v9) fun v10 =>
   ld1 v10 fun v11 =>
   pv (ixS 6 v11 (.int .i64 0)) fun v12 =>
   pv (faO 5 v12) fun v13 =>
   ld1 v13 fun v14 =>
   pv (nilO x0) fun v15 =>
   pv (faO 3 v15) fun v16 =>
   ld1 v16 fun v17 =>
   pv (bin .add v14 v17) fun v18 =>
   pv (max2I v8 v18) fun v19 =>
   R (.returned (.tuple ⟨[v19, (.bool true)]⟩)))) (
   R (.returned (.tuple ⟨[(.int .i64 0), (.bool false)]⟩)))
theorem orpimentref35_Link_Next_j3_ok (R : ER) (e : Env) : den Pg R (cd Try.f56 [1,1,1,1]) e (kont Pg R Try.f56) = (orpimentref35_Link_Next_j3 R (e 0)) := (by kernel_rfl)
def orpimentref35_Link_Next_j6 (R : ER) (k1 : Value → Value → WP) (x0 x4 : Value) : WP :=
  pv (nilO x0) fun v20 =>
  pv (faO 5 v20) fun v21 =>
  ld1 v21 fun v22 =>
  pv (ixS 6 v22 x4) fun v23 =>
  pv (faO 5 v23) fun v24 =>
  ld1 v24 fun v25 =>
  pv (bin .lss v25 (.int .i64 0)) fun v26 =>
  cnd v26 (
   pv (nilO x0) fun v27 =>
   pv (faO 4 v27) fun v28 =>
   ld1 v28 fun v29 =>
   R (.returned (.tuple ⟨[v29, (.bool true)]⟩))) (
   pv (bin .add x4 (.int .i64 1)) fun v30 =>
  k1 x0 v30)
theorem orpimentref35_Link_Next_j6_ok (R : ER) (k1 : Value → Value → WP) (e : Env) : den Pg R (cd Try.f56 [1,1,1,0,1,0,0,1]) e (setN (inB 0 (setN (kont Pg R Try.f56) (fun e => orpimentref35_Link_Next_j3 R (e 0)))) (fun e => k1 (e 0) (e 4))) = (orpimentref35_Link_Next_j6 R k1 (e 0) (e 4)) := (by kernel_rfl)
def orpimentref35_Link_Next_b1 (R : ER) (k1 : Value → Value → WP) (x0 x4 : Value) : WP :=
  pv (nilO x0) fun v31 =>
  pv (faO 5 v31) fun v32 =>
  ld1 v32 fun v33 =>
  pv (lenS v33) fun v34 =>
  pv (bin .lss x4 v34) fun v35 =>
  gd v35 true (pv (some x4)) fun v36 =>
  gd v35 true (pv (bin .lss v36 (.int .i64 8))) fun v37 =>
  pv (pickO v35 v37 (.bool false)) fun v38 =>
  cnd v38 (
   orpimentref35_Link_Next_j6 R k1 x0 x4) (
   orpimentref35_Link_Next_j3 R x0)
theorem orpimentref35_Link_Next_b1_ok (R : ER) (k1 : Value → Value → WP) (e : Env) : den Pg R (cd Try.f56 [1,1,1,0,1,0,0]) e (setN (inB 0 (setN (kont Pg R Try.f56) (fun e => orpimentref35_Link_Next_j3 R (e 0)))) (fun e => k1 (e 0) (e 4))) = (orpimentref35_Link_Next_b1 R k1 (e 0) (e 4)) := (den_join Pg R 0 (cd Try.f56 [1,1,1,0,1,0,0]) (cd Try.f56 [1,1,1,0,1,0,0,1]) e (setN (inB 0 (setN (kont Pg R Try.f56) (fun e => orpimentref35_Link_Next_j3 R (e 0)))) (fun e => k1 (e 0) (e 4))) (fun e => orpimentref35_Link_Next_j6 R k1 (e 0) (e 4)) _ (by kernel_rfl) (fun e => orpimentref35_Link_Next_j6_ok R k1 e) (by kernel_rfl))
noncomputable def orpimentref35_Link_Next_l1 (R : ER) (n : Nat) : Value → Value → WP := Nat.rec (motive := fun _ => Value → Value → WP) (fun _ _ => fun _ => False) (fun _ ih => fun x0 x4 => orpimentref35_Link_Next_b1 R ih x0 x4) n
theorem orpimentref35_Link_Next_l1_succ (R : ER) (n : Nat) (x0 x4 : Value) : orpimentref35_Link_Next_l1 R (n + 1) x0 x4 = orpimentref35_Link_Next_b1 R (orpimentref35_Link_Next_l1 R n) x0 x4 := rfl
theorem orpimentref35_Link_Next_l1_ok (R : ER) : ∀ (n : Nat) (e : Env), iterL (den Pg R (cd Try.f56 [1,1,1,0,1,0,0])) n e (inB 0 (setN (kont Pg R Try.f56) (fun e => orpimentref35_Link_Next_j3 R (e 0)))) = orpimentref35_Link_Next_l1 R n (e 0) (e 4) :=
  iterL_join (den Pg R (cd Try.f56 [1,1,1,0,1,0,0])) (inB 0 (setN (kont Pg R Try.f56) (fun e => orpimentref35_Link_Next_j3 R (e 0)))) (fun n e => orpimentref35_Link_Next_l1 R n (e 0) (e 4)) (fun _ => rfl) (fun n e => (orpimentref35_Link_Next_b1_ok R (orpimentref35_Link_Next_l1 R n) e).trans (orpimentref35_Link_Next_l1_succ R n (e 0) (e 4)).symm)
def orpimentref35_Link_Next_j5 (R : ER) (x0 x4 : Value) : WP :=
  exN fun n => orpimentref35_Link_Next_l1 R n x0 x4
theorem orpimentref35_Link_Next_j5_ok (R : ER) (e : Env) : den Pg R (cd Try.f56 [1,1,1,0,1]) e (setN (kont Pg R Try.f56) (fun e => orpimentref35_Link_Next_j3 R (e 0))) = (orpimentref35_Link_Next_j5 R (e 0) (e 4)) := (den_block Pg R (cd Try.f56 [1,1,1,0,1]) 0 (cd Try.f56 [1,1,1,0,1,0]) e (setN (kont Pg R Try.f56) (fun e => orpimentref35_Link_Next_j3 R (e 0))) _ (by kernel_rfl) (den_loop Pg R (cd Try.f56 [1,1,1,0,1,0]) (cd Try.f56 [1,1,1,0,1,0,0]) e (inB 0 (setN (kont Pg R Try.f56) (fun e => orpimentref35_Link_Next_j3 R (e 0)))) (fun n e => orpimentref35_Link_Next_l1 R n (e 0) (e 4)) _ (by kernel_rfl) (orpimentref35_Link_Next_l1_ok R) (by kernel_rfl)))
def orpimentref35_Link_Next_j4 (R : ER) (x0 : Value) : WP :=
  orpimentref35_Link_Next_j5 R x0 (.int .i64 0)
theorem orpimentref35_Link_Next_j4_ok (R : ER) (e : Env) : den Pg R (cd Try.f56 [1,1,1,0]) e (setN (kont Pg R Try.f56) (fun e => orpimentref35_Link_Next_j3 R (e 0))) = (orpimentref35_Link_Next_j4 R (e 0)) := (den_join Pg R 0 (cd Try.f56 [1,1,1,0]) (cd Try.f56 [1,1,1,0,1]) e (setN (kont Pg R Try.f56) (fun e => orpimentref35_Link_Next_j3 R (e 0))) (fun e => orpimentref35_Link_Next_j5 R (e 0) (e 4)) _ (by kernel_rfl) (fun e => orpimentref35_Link_Next_j5_ok R e) (by kernel_rfl))
def orpimentref35_Link_Next_j2 (R : ER) (x0 : Value) : WP :=
  orpimentref35_Link_Next_j4 R x0
theorem orpimentref35_Link_Next_j2_ok (R : ER) (e : Env) : den Pg R (cd Try.f56 [1,1,1]) e (kont Pg R Try.f56) = (orpimentref35_Link_Next_j2 R (e 0)) := (den_join Pg R 0 (cd Try.f56 [1,1,1]) (cd Try.f56 [1,1,1,1]) e (kont Pg R Try.f56) (fun e => orpimentref35_Link_Next_j3 R (e 0)) _ (by kernel_rfl) (fun e => orpimentref35_Link_Next_j3_ok R e) (den_conv Pg R (pre 0 (cd Try.f56 [1,1,1])) (cd Try.f56 [1,1,1,0]) e (setN (kont Pg R Try.f56) (fun e => orpimentref35_Link_Next_j3 R (e 0))) _ (by kernel_rfl) (orpimentref35_Link_Next_j4_ok R e)))
def orpimentref35_Link_Next_j1 (R : ER) (x0 : Value) : WP :=
  pv (nilO x0) fun v39 =>
  pv (faO 14 v39) fun v40 =>
  ld1 v40 fun v41 =>
  pv (lenS v41) fun v42 =>
  pv (bin .gtr v42 (.int .i64 0)) fun v43 =>
  cnd v43 (
   pv (nilO x0) fun v44 =>
   pv (faO 4 v44) fun v45 =>
   ld1 v45 fun v46 =>
   R (.returned (.tuple ⟨[v46, (.bool true)]⟩))) (
   orpimentref35_Link_Next_j2 R x0)
theorem orpimentref35_Link_Next_j1_ok (R : ER) (e : Env) : den Pg R (cd Try.f56 [1,1]) e (kont Pg R Try.f56) = (orpimentref35_Link_Next_j1 R (e 0)) := (den_join Pg R 0 (cd Try.f56 [1,1]) (cd Try.f56 [1,1,1]) e (kont Pg R Try.f56) (fun e => orpimentref35_Link_Next_j2 R (e 0)) _ (by kernel_rfl) (fun e => orpimentref35_Link_Next_j2_ok R e) (by kernel_rfl))
def orpimentref35_Link_Next (R : ER) (x0 : Value) : WP :=
  pv (nilO x0) fun v47 =>
  pv (faO 10 v47) fun v48 =>
  ld1 v48 fun v49 =>
  cnd v49 (
   R (.returned (.tuple ⟨[(.int .i64 0), (.bool false)]⟩))) (
   orpimentref35_Link_Next_j1 R x0)
theorem orpimentref35_Link_Next_den (R : ER) (x0 : Value) : den Pg R (cd Try.f56 []) (argsEnv [x0]) (kont Pg R Try.f56) = orpimentref35_Link_Next R x0 :=
  have h : ∀ e, den Pg R (cd Try.f56 []) e (kont Pg R Try.f56) = orpimentref35_Link_Next R (e 0) := fun e => (den_join Pg R 1 (cd Try.f56 []) (cd Try.f56 [1,1]) e (kont Pg R Try.f56) (fun e => orpimentref35_Link_Next_j1 R (e 0)) _ (by kernel_rfl) (fun e => orpimentref35_Link_Next_j1_ok R e) (by kernel_rfl))
  h _
theorem orpimentref35_Link_Next_calls {R : ER} {x0 : Value} {w : World} (h : orpimentref35_Link_Next R x0 w) : Calls Pg 56 ⟨[x0]⟩ w R :=
  calls_of_den Try.func56 (by kernel_rfl) (by kernel_rfl) (orpimentref35_Link_Next_den R x0) h
/-! ### 57: orpimentref35_Link_Acknowledged -/
def orpimentref35_Link_Acknowledged (R : ER) (x0 : Value) : WP :=
  pv (nilO x0) fun v1 =>
  pv (faO 7 v1) fun v2 =>
  ld1 v2 fun v3 =>
  R (.returned v3)
theorem orpimentref35_Link_Acknowledged_den (R : ER) (x0 : Value) : den Pg R (cd Try.f57 []) (argsEnv [x0]) (kont Pg R Try.f57) = orpimentref35_Link_Acknowledged R x0 :=
  have h : ∀ e, den Pg R (cd Try.f57 []) e (kont Pg R Try.f57) = orpimentref35_Link_Acknowledged R (e 0) := fun e => by kernel_rfl
  h _
theorem orpimentref35_Link_Acknowledged_calls {R : ER} {x0 : Value} {w : World} (h : orpimentref35_Link_Acknowledged R x0 w) : Calls Pg 57 ⟨[x0]⟩ w R :=
  calls_of_den Try.func57 (by kernel_rfl) (by kernel_rfl) (orpimentref35_Link_Acknowledged_den R x0) h
/-! ### 58: orpimentref35_Link_Broken -/
def orpimentref35_Link_Broken (R : ER) (x0 : Value) : WP :=
  pv (nilO x0) fun v1 =>
  pv (faO 10 v1) fun v2 =>
  ld1 v2 fun v3 =>
  R (.returned v3)
theorem orpimentref35_Link_Broken_den (R : ER) (x0 : Value) : den Pg R (cd Try.f58 []) (argsEnv [x0]) (kont Pg R Try.f58) = orpimentref35_Link_Broken R x0 :=
  have h : ∀ e, den Pg R (cd Try.f58 []) e (kont Pg R Try.f58) = orpimentref35_Link_Broken R (e 0) := fun e => by kernel_rfl
  h _
theorem orpimentref35_Link_Broken_calls {R : ER} {x0 : Value} {w : World} (h : orpimentref35_Link_Broken R x0 w) : Calls Pg 58 ⟨[x0]⟩ w R :=
  calls_of_den Try.func58 (by kernel_rfl) (by kernel_rfl) (orpimentref35_Link_Broken_den R x0) h
/-! ### 59: orpimentlaw35_talk_arrive -/
def orpimentlaw35_talk_arrive (R : ER) (x0 x1 : Value) : WP :=
  bx 132 x1 fun v1 =>
  drewV (
  pv (faO 0 v1) fun v2 =>
  ld1 v2 fun v3 =>
  pv (nilO x0) fun v4 =>
  pv (faO 0 v4) fun v5 =>
  pv (ixA 2 1 v5 v3) fun v6 =>
  ld1 v6 fun v7 =>
  pv (faO 1 v1) fun v8 =>
  ld1 v8 fun v9 =>
  pv (faO 2 v1) fun v10 =>
  ld1 v10 fun v11 =>
  mem fun w13 => cal Pg noR 26 ⟨[v11]⟩ fun v12 =>
  rd1 v8 v9 <|
  rd1 v6 v7 <|
  rd1 v2 v3 <|
  pv (nilO x0) fun v14 =>
  pv (faO 5 v14) fun v15 =>
  ld1S [w13] v15 fun v16 =>
  mem fun w18 => cal Pg noR 23 ⟨[v7, v9, v12, v16]⟩ fun v17 =>
  pv (extO 0 v17) fun v19 =>
  pv (extO 1 v17) fun v20 =>
  drewV (
  pv (faO 0 v1) fun v21 =>
  ld1 v21 fun v22 =>
  pv (nilO x0) fun v23 =>
  pv (faO 2 v23) fun v24 =>
  pv (ixA 2 1 v24 v22) fun v25 =>
  ld1 v25 fun v26 =>
  pv (faO 1 v1) fun v27 =>
  ld1 v27 fun v28 =>
  pv (faO 2 v1) fun v29 =>
  ld1 v29 fun v30 =>
  pv (nilO x0) fun v31 =>
  pv (faO 5 v31) fun v32 =>
  ld1 v32 fun v33 =>
  mem fun w35 => cal Pg noR 51 ⟨[v26, v28, v30, v33]⟩ fun v34 =>
  pv (extO 0 v34) fun v36 =>
  pv (extO 1 v34) fun v37 =>
  drewV (
  pv (faO 0 v1) fun v38 =>
  ld1 v38 fun v39 =>
  pv (faO 0 v1) fun v40 =>
  ld1 v40 fun v41 =>
  pv (nilO x0) fun v42 =>
  pv (faO 8 v42) fun v43 =>
  pv (ixA 2 1 v43 v41) fun v44 =>
  ld1 v44 fun v45 =>
  mem fun w47 => blt Pg noR .append ⟨[36,36]⟩ 36 ⟨[false, false]⟩ ⟨[v45, v19]⟩ fun v46 =>
  rd1 v38 v39 <|
  pv (nilO x0) fun v48 =>
  pv (faO 8 v48) fun v49 =>
  pv (ixA 2 1 v49 v39) fun v50 =>
  mem fun w52 => st1 v50 v46 fun v51 =>
  pv (bin .eql v20 v37) fun v53 =>
  gd v53 true (pv (some v19)) fun v54 =>
  gd v53 true (pv (some v36)) fun v55 =>
  gd v53 true (cal Pg R 52 ⟨[v54, v55, (.func (.func 71) ⟨[]⟩ ⟨[]⟩)]⟩) fun v56 =>
  pv (pickO v53 v56 (.bool false)) fun v57 =>
  R (.returned v57))))
theorem orpimentlaw35_talk_arrive_den (R : ER) (x0 x1 : Value) : den Pg R (cd Try.f59 []) (argsEnv [x0, x1]) (kont Pg R Try.f59) = orpimentlaw35_talk_arrive R x0 x1 :=
  have h : ∀ e, den Pg R (cd Try.f59 []) e (kont Pg R Try.f59) = orpimentlaw35_talk_arrive R (e 0) (e 1) := fun e => by kernel_rfl
  h _
theorem orpimentlaw35_talk_arrive_calls {R : ER} {x0 x1 : Value} {w : World} (h : orpimentlaw35_talk_arrive R x0 x1 w) : Calls Pg 59 ⟨[x0, x1]⟩ w R :=
  calls_of_den Try.func59 (by kernel_rfl) (by kernel_rfl) (orpimentlaw35_talk_arrive_den R x0 x1) h
/-! ### 60: slices_Delete -/
def slices_Delete_j1 (R : ER) (x0 x1 x2 : Value) : WP :=
  pv (lenS x0) fun v1 =>
  drewV (
  pv (slS 4 x0 none (some x1)) fun v2 =>
  pv (slS 4 x0 (some x2) none) fun v3 =>
  mem fun w5 => blt Pg noR .append ⟨[35,35]⟩ 35 ⟨[false, false]⟩ ⟨[v2, v3]⟩ fun v4 =>
  pv (lenS v4) fun v6 =>
  pv (slS 4 v4 (some v6) (some v1)) fun v7 =>
  blt Pg R .clear ⟨[35]⟩ 0 ⟨[false]⟩ ⟨[v7]⟩ fun _ =>
  R (.returned v4))
theorem slices_Delete_j1_ok (R : ER) (e : Env) : den Pg R (cd Try.f60 [1,1,1]) e (kont Pg R Try.f60) = (slices_Delete_j1 R (e 0) (e 1) (e 2)) := by kernel_rfl
def slices_Delete (R : ER) (x0 x1 x2 : Value) : WP :=
  pv (lenS x0) fun v8 =>
  valV Pg R (Instr.sliceAt 35 x0 (some x1) (some x2) (some v8)) fun v9 =>
  pv (bin .eql x1 x2) fun v10 =>
  cnd v10 (
   R (.returned x0)) (
   slices_Delete_j1 R x0 x1 x2)
theorem slices_Delete_den (R : ER) (x0 x1 x2 : Value) : den Pg R (cd Try.f60 []) (argsEnv [x0, x1, x2]) (kont Pg R Try.f60) = slices_Delete R x0 x1 x2 :=
  have h : ∀ e, den Pg R (cd Try.f60 []) e (kont Pg R Try.f60) = slices_Delete R (e 0) (e 1) (e 2) := fun e => (den_join Pg R 2 (cd Try.f60 []) (cd Try.f60 [1,1,1]) e (kont Pg R Try.f60) (fun e => slices_Delete_j1 R (e 0) (e 1) (e 2)) _ (by kernel_rfl) (fun e => slices_Delete_j1_ok R e) (by kernel_rfl))
  h _
theorem slices_Delete_calls {R : ER} {x0 x1 x2 : Value} {w : World} (h : slices_Delete R x0 x1 x2 w) : Calls Pg 60 ⟨[x0, x1, x2]⟩ w R :=
  calls_of_den Try.func60 (by kernel_rfl) (by kernel_rfl) (slices_Delete_den R x0 x1 x2) h
/-! ### 61: links_pieces_1 -/
def links_pieces_1_b1 (R : ER) (k1 : Value → Value → Value → Value → WP) (x0 x1 x2 x4 : Value) : WP :=
  ld1 x1 fun v1 =>
  ld1 x2 fun v2 =>
  pv (lenS v2) fun v3 =>
  pv (min2I v1 v3) fun v4 =>
  ld1 x2 fun v5 =>
  pv (slS 1 v5 none (some v4)) fun v6 =>
  calD Pg R x0 ⟨[x4, v6]⟩ fun v7 =>
  pv (unO .not v7) fun v8 =>
  gd v8 false (pv (some v4)) fun v9 =>
  gd v8 false (ld1 x2) fun v10 =>
  gd v8 false (pv (lenS v10)) fun v11 =>
  gd v8 false (pv (bin .eql v9 v11)) fun v12 =>
  pv (pickO v8 (.bool true) v12) fun v13 =>
  cnd v13 (
   R (.returned (.tuple ⟨[]⟩))) (
   ld1 x2 fun v14 =>
  pv (slS 1 v14 (some v4) none) fun v15 =>
  st1 x2 v15 fun _ =>
  pv (bin .add x4 (.int .i64 1)) fun v16 =>
  k1 x0 x1 x2 v16)
theorem links_pieces_1_b1_ok (R : ER) (k1 : Value → Value → Value → Value → WP) (e : Env) : den Pg R (cd Try.f61 [1,0,0]) e (setN (inB 0 (kont Pg R Try.f61)) (fun e => k1 (e 0) (e 1) (e 2) (e 4))) = (links_pieces_1_b1 R k1 (e 0) (e 1) (e 2) (e 4)) := (by kernel_rfl)
noncomputable def links_pieces_1_l1 (R : ER) (n : Nat) : Value → Value → Value → Value → WP := Nat.rec (motive := fun _ => Value → Value → Value → Value → WP) (fun _ _ _ _ => fun _ => False) (fun _ ih => fun x0 x1 x2 x4 => links_pieces_1_b1 R ih x0 x1 x2 x4) n
theorem links_pieces_1_l1_succ (R : ER) (n : Nat) (x0 x1 x2 x4 : Value) : links_pieces_1_l1 R (n + 1) x0 x1 x2 x4 = links_pieces_1_b1 R (links_pieces_1_l1 R n) x0 x1 x2 x4 := rfl
theorem links_pieces_1_l1_ok (R : ER) : ∀ (n : Nat) (e : Env), iterL (den Pg R (cd Try.f61 [1,0,0])) n e (inB 0 (kont Pg R Try.f61)) = links_pieces_1_l1 R n (e 0) (e 1) (e 2) (e 4) :=
  iterL_join (den Pg R (cd Try.f61 [1,0,0])) (inB 0 (kont Pg R Try.f61)) (fun n e => links_pieces_1_l1 R n (e 0) (e 1) (e 2) (e 4)) (fun _ => rfl) (fun n e => (links_pieces_1_b1_ok R (links_pieces_1_l1 R n) e).trans (links_pieces_1_l1_succ R n (e 0) (e 1) (e 2) (e 4)).symm)
def links_pieces_1_j1 (R : ER) (x0 x1 x2 x4 : Value) : WP :=
  exN fun n => links_pieces_1_l1 R n x0 x1 x2 x4
theorem links_pieces_1_j1_ok (R : ER) (e : Env) : den Pg R (cd Try.f61 [1]) e (kont Pg R Try.f61) = (links_pieces_1_j1 R (e 0) (e 1) (e 2) (e 4)) := (den_block Pg R (cd Try.f61 [1]) 0 (cd Try.f61 [1,0]) e (kont Pg R Try.f61) _ (by kernel_rfl) (den_loop Pg R (cd Try.f61 [1,0]) (cd Try.f61 [1,0,0]) e (inB 0 (kont Pg R Try.f61)) (fun n e => links_pieces_1_l1 R n (e 0) (e 1) (e 2) (e 4)) _ (by kernel_rfl) (links_pieces_1_l1_ok R) (by kernel_rfl)))
def links_pieces_1 (R : ER) (x0 x1 x2 : Value) : WP :=
  links_pieces_1_j1 R x0 x1 x2 (.int .i64 0)
theorem links_pieces_1_den (R : ER) (x0 x1 x2 : Value) : den Pg R (cd Try.f61 []) (argsEnv [x0, x1, x2]) (kont Pg R Try.f61) = links_pieces_1 R x0 x1 x2 :=
  have h : ∀ e, den Pg R (cd Try.f61 []) e (kont Pg R Try.f61) = links_pieces_1 R (e 0) (e 1) (e 2) := fun e => (den_join Pg R 0 (cd Try.f61 []) (cd Try.f61 [1]) e (kont Pg R Try.f61) (fun e => links_pieces_1_j1 R (e 0) (e 1) (e 2) (e 4)) _ (by kernel_rfl) (fun e => links_pieces_1_j1_ok R e) (by kernel_rfl))
  h _
theorem links_pieces_1_calls {R : ER} {x0 x1 x2 : Value} {w : World} (h : links_pieces_1 R x0 x1 x2 w) : Calls Pg 61 ⟨[x0, x1, x2]⟩ w R :=
  calls_of_den Try.func61 (by kernel_rfl) (by kernel_rfl) (links_pieces_1_den R x0 x1 x2) h
/-! ### 62: slices_IndexFunc -/
def slices_IndexFunc_j1 (R : ER) : WP :=
  R (.returned (.int .i64 (-1)))
theorem slices_IndexFunc_j1_ok (R : ER) (e : Env) : den Pg R (cd Try.f62 [1,1]) e (kont Pg R Try.f62) = (slices_IndexFunc_j1 R) := by kernel_rfl
def slices_IndexFunc_j4 (R : ER) (k1 : Value → Value → Value → Value → WP) (x0 x1 x7 x8 : Value) : WP :=
  pv (ixS 6 x0 x8) fun v1 =>
  ldN 6 v1 fun v2 =>
  calD Pg R x1 ⟨[v2]⟩ fun v3 =>
  cnd v3 (
   R (.returned x8)) (
   pv (bin .add x8 (.int .i64 1)) fun v4 =>
  k1 x0 x1 x7 v4)
theorem slices_IndexFunc_j4_ok (R : ER) (k1 : Value → Value → Value → Value → WP) (e : Env) : den Pg R (cd Try.f62 [1,0,1,0,0,1,1]) e (setN (inB 0 (setN (kont Pg R Try.f62) (fun e => slices_IndexFunc_j1 R))) (fun e => k1 (e 0) (e 1) (e 7) (e 8))) = (slices_IndexFunc_j4 R k1 (e 0) (e 1) (e 7) (e 8)) := by kernel_rfl
def slices_IndexFunc_b1 (R : ER) (k1 : Value → Value → Value → Value → WP) (x0 x1 x7 x8 : Value) : WP :=
  pv (bin .lss x8 x7) fun v5 =>
  cnd v5 (
   slices_IndexFunc_j4 R k1 x0 x1 x7 x8) (
   slices_IndexFunc_j1 R)
theorem slices_IndexFunc_b1_ok (R : ER) (k1 : Value → Value → Value → Value → WP) (e : Env) : den Pg R (cd Try.f62 [1,0,1,0,0]) e (setN (inB 0 (setN (kont Pg R Try.f62) (fun e => slices_IndexFunc_j1 R))) (fun e => k1 (e 0) (e 1) (e 7) (e 8))) = (slices_IndexFunc_b1 R k1 (e 0) (e 1) (e 7) (e 8)) := (den_join Pg R 1 (cd Try.f62 [1,0,1,0,0]) (cd Try.f62 [1,0,1,0,0,1,1]) e (setN (inB 0 (setN (kont Pg R Try.f62) (fun e => slices_IndexFunc_j1 R))) (fun e => k1 (e 0) (e 1) (e 7) (e 8))) (fun e => slices_IndexFunc_j4 R k1 (e 0) (e 1) (e 7) (e 8)) _ (by kernel_rfl) (fun e => slices_IndexFunc_j4_ok R k1 e) (by kernel_rfl))
noncomputable def slices_IndexFunc_l1 (R : ER) (n : Nat) : Value → Value → Value → Value → WP := Nat.rec (motive := fun _ => Value → Value → Value → Value → WP) (fun _ _ _ _ => fun _ => False) (fun _ ih => fun x0 x1 x7 x8 => slices_IndexFunc_b1 R ih x0 x1 x7 x8) n
theorem slices_IndexFunc_l1_succ (R : ER) (n : Nat) (x0 x1 x7 x8 : Value) : slices_IndexFunc_l1 R (n + 1) x0 x1 x7 x8 = slices_IndexFunc_b1 R (slices_IndexFunc_l1 R n) x0 x1 x7 x8 := rfl
theorem slices_IndexFunc_l1_ok (R : ER) : ∀ (n : Nat) (e : Env), iterL (den Pg R (cd Try.f62 [1,0,1,0,0])) n e (inB 0 (setN (kont Pg R Try.f62) (fun e => slices_IndexFunc_j1 R))) = slices_IndexFunc_l1 R n (e 0) (e 1) (e 7) (e 8) :=
  iterL_join (den Pg R (cd Try.f62 [1,0,1,0,0])) (inB 0 (setN (kont Pg R Try.f62) (fun e => slices_IndexFunc_j1 R))) (fun n e => slices_IndexFunc_l1 R n (e 0) (e 1) (e 7) (e 8)) (fun _ => rfl) (fun n e => (slices_IndexFunc_b1_ok R (slices_IndexFunc_l1 R n) e).trans (slices_IndexFunc_l1_succ R n (e 0) (e 1) (e 7) (e 8)).symm)
def slices_IndexFunc_j3 (R : ER) (x0 x1 x7 x8 : Value) : WP :=
  exN fun n => slices_IndexFunc_l1 R n x0 x1 x7 x8
theorem slices_IndexFunc_j3_ok (R : ER) (e : Env) : den Pg R (cd Try.f62 [1,0,1]) e (setN (kont Pg R Try.f62) (fun e => slices_IndexFunc_j1 R)) = (slices_IndexFunc_j3 R (e 0) (e 1) (e 7) (e 8)) := (den_block Pg R (cd Try.f62 [1,0,1]) 0 (cd Try.f62 [1,0,1,0]) e (setN (kont Pg R Try.f62) (fun e => slices_IndexFunc_j1 R)) _ (by kernel_rfl) (den_loop Pg R (cd Try.f62 [1,0,1,0]) (cd Try.f62 [1,0,1,0,0]) e (inB 0 (setN (kont Pg R Try.f62) (fun e => slices_IndexFunc_j1 R))) (fun n e => slices_IndexFunc_l1 R n (e 0) (e 1) (e 7) (e 8)) _ (by kernel_rfl) (slices_IndexFunc_l1_ok R) (by kernel_rfl)))
def slices_IndexFunc_j2 (R : ER) (x0 x1 : Value) : WP :=
  pv (lenS x0) fun v6 =>
  slices_IndexFunc_j3 R x0 x1 v6 (.int .i64 0)
theorem slices_IndexFunc_j2_ok (R : ER) (e : Env) : den Pg R (cd Try.f62 [1,0]) e (setN (kont Pg R Try.f62) (fun e => slices_IndexFunc_j1 R)) = (slices_IndexFunc_j2 R (e 0) (e 1)) := (den_join Pg R 0 (cd Try.f62 [1,0]) (cd Try.f62 [1,0,1]) e (setN (kont Pg R Try.f62) (fun e => slices_IndexFunc_j1 R)) (fun e => slices_IndexFunc_j3 R (e 0) (e 1) (e 7) (e 8)) _ (by kernel_rfl) (fun e => slices_IndexFunc_j3_ok R e) (by kernel_rfl))
def slices_IndexFunc (R : ER) (x0 x1 : Value) : WP :=
  slices_IndexFunc_j2 R x0 x1
theorem slices_IndexFunc_den (R : ER) (x0 x1 : Value) : den Pg R (cd Try.f62 []) (argsEnv [x0, x1]) (kont Pg R Try.f62) = slices_IndexFunc R x0 x1 :=
  have h : ∀ e, den Pg R (cd Try.f62 []) e (kont Pg R Try.f62) = slices_IndexFunc R (e 0) (e 1) := fun e => (den_join Pg R 1 (cd Try.f62 []) (cd Try.f62 [1,1]) e (kont Pg R Try.f62) (fun e => slices_IndexFunc_j1 R) _ (by kernel_rfl) (fun e => slices_IndexFunc_j1_ok R e) (den_join Pg R 0 (pre 1 (cd Try.f62 [])) (cd Try.f62 [1,0]) e (setN (kont Pg R Try.f62) (fun e => slices_IndexFunc_j1 R)) (fun e => slices_IndexFunc_j2 R (e 0) (e 1)) _ (by kernel_rfl) (fun e => slices_IndexFunc_j2_ok R e) (by kernel_rfl)))
  h _
theorem slices_IndexFunc_calls {R : ER} {x0 x1 : Value} {w : World} (h : slices_IndexFunc R x0 x1 w) : Calls Pg 62 ⟨[x0, x1]⟩ w R :=
  calls_of_den Try.func62 (by kernel_rfl) (by kernel_rfl) (slices_IndexFunc_den R x0 x1) h
/-! ### 63: links_Link_acknowledge_1 -/
def links_Link_acknowledge_1_j1 (R : ER) (x1 x2 : Value) : WP :=
  pv (faO 2 x1) fun v1 =>
  ld1 v1 fun v2 =>
  pv (faO 0 x2) fun v3 =>
  pv (faO 2 v3) fun v4 =>
  ld1 v4 fun v5 =>
  pv (bin .eql v2 v5) fun v6 =>
  gd v6 true (pv (faO 3 x1)) fun v7 =>
  gd v6 true (ld1 v7) fun v8 =>
  gd v6 true (pv (faO 0 x2)) fun v9 =>
  gd v6 true (pv (faO 3 v9)) fun v10 =>
  gd v6 true (ld1 v10) fun v11 =>
  gd v6 true (pv (bin .add v11 (.int .i64 1))) fun v12 =>
  gd v6 true (pv (bin .eql v8 v12)) fun v13 =>
  pv (pickO v6 v13 (.bool false)) fun v14 =>
  R (.returned v14)
theorem links_Link_acknowledge_1_j1_ok (R : ER) (e : Env) : den Pg R (cd Try.f63 [1,1]) e (kont Pg R Try.f63) = (links_Link_acknowledge_1_j1 R (e 1) (e 2)) := by kernel_rfl
def links_Link_acknowledge_1_j4 (R : ER) (x1 x2 : Value) : WP :=
  pv (faO 2 x1) fun v15 =>
  ld1 v15 fun v16 =>
  pv (faO 0 x2) fun v17 =>
  pv (faO 2 v17) fun v18 =>
  ld1 v18 fun v19 =>
  pv (bin .add v19 (.int .i64 1)) fun v20 =>
  pv (bin .eql v16 v20) fun v21 =>
  gd v21 true (pv (faO 3 x1)) fun v22 =>
  gd v21 true (ld1 v22) fun v23 =>
  gd v21 true (pv (bin .eql v23 (.int .i64 0))) fun v24 =>
  pv (pickO v21 v24 (.bool false)) fun v25 =>
  R (.returned v25)
theorem links_Link_acknowledge_1_j4_ok (R : ER) (e : Env) : den Pg R (cd Try.f63 [1,0,1,0]) e (setN (kont Pg R Try.f63) (fun e => links_Link_acknowledge_1_j1 R (e 1) (e 2))) = (links_Link_acknowledge_1_j4 R (e 1) (e 2)) := by kernel_rfl
def links_Link_acknowledge_1_j3 (R : ER) (x1 x2 x6 : Value) : WP :=
  cnd x6 (links_Link_acknowledge_1_j4 R x1 x2) (links_Link_acknowledge_1_j1 R x1 x2)
theorem links_Link_acknowledge_1_j3_ok (R : ER) (e : Env) : den Pg R (cd Try.f63 [1,0,1]) e (setN (kont Pg R Try.f63) (fun e => links_Link_acknowledge_1_j1 R (e 1) (e 2))) = (links_Link_acknowledge_1_j3 R (e 1) (e 2) (e 6)) := (den_if Pg R (cd Try.f63 [1,0,1]) (cd Try.f63 [1,0,1,0]) (cd Try.f63 [1,0,1,1]) e (setN (kont Pg R Try.f63) (fun e => links_Link_acknowledge_1_j1 R (e 1) (e 2))) (links_Link_acknowledge_1_j4 R (e 1) (e 2)) _ _ (by kernel_rfl) (links_Link_acknowledge_1_j4_ok R e) rfl (by kernel_rfl))
def links_Link_acknowledge_1_j2 (R : ER) (x1 x2 : Value) : WP :=
  pv (faO 0 x2) fun v26 =>
  pv (faO 1 v26) fun v27 =>
  ld1 v27 fun v28 =>
  links_Link_acknowledge_1_j3 R x1 x2 v28
theorem links_Link_acknowledge_1_j2_ok (R : ER) (e : Env) : den Pg R (cd Try.f63 [1,0]) e (setN (kont Pg R Try.f63) (fun e => links_Link_acknowledge_1_j1 R (e 1) (e 2))) = (links_Link_acknowledge_1_j2 R (e 1) (e 2)) := (den_join Pg R 0 (cd Try.f63 [1,0]) (cd Try.f63 [1,0,1]) e (setN (kont Pg R Try.f63) (fun e => links_Link_acknowledge_1_j1 R (e 1) (e 2))) (fun e => links_Link_acknowledge_1_j3 R (e 1) (e 2) (e 6)) _ (by kernel_rfl) (fun e => links_Link_acknowledge_1_j3_ok R e) (by kernel_rfl))
def links_Link_acknowledge_1 (R : ER) (x0 x1 : Value) : WP :=
  bx 101 x0 fun v29 =>
  links_Link_acknowledge_1_j2 R x1 v29
theorem links_Link_acknowledge_1_den (R : ER) (x0 x1 : Value) : den Pg R (cd Try.f63 []) (argsEnv [x0, x1]) (kont Pg R Try.f63) = links_Link_acknowledge_1 R x0 x1 :=
  have h : ∀ e, den Pg R (cd Try.f63 []) e (kont Pg R Try.f63) = links_Link_acknowledge_1 R (e 0) (e 1) := fun e => (den_join Pg R 1 (cd Try.f63 []) (cd Try.f63 [1,1]) e (kont Pg R Try.f63) (fun e => links_Link_acknowledge_1_j1 R (e 1) (e 2)) _ (by kernel_rfl) (fun e => links_Link_acknowledge_1_j1_ok R e) (den_join Pg R 0 (pre 1 (cd Try.f63 [])) (cd Try.f63 [1,0]) e (setN (kont Pg R Try.f63) (fun e => links_Link_acknowledge_1_j1 R (e 1) (e 2))) (fun e => links_Link_acknowledge_1_j2 R (e 1) (e 2)) _ (by kernel_rfl) (fun e => links_Link_acknowledge_1_j2_ok R e) (by kernel_rfl)))
  h _
theorem links_Link_acknowledge_1_calls {R : ER} {x0 x1 : Value} {w : World} (h : links_Link_acknowledge_1 R x0 x1 w) : Calls Pg 63 ⟨[x0, x1]⟩ w R :=
  calls_of_den Try.func63 (by kernel_rfl) (by kernel_rfl) (links_Link_acknowledge_1_den R x0 x1) h
/-! ### 64: slices_Delete_64 -/
def slices_Delete_64_j1 (R : ER) (x0 x1 x2 : Value) : WP :=
  pv (lenS x0) fun v1 =>
  drewV (
  pv (slS 6 x0 none (some x1)) fun v2 =>
  pv (slS 6 x0 (some x2) none) fun v3 =>
  mem fun w5 => blt Pg noR .append ⟨[93,93]⟩ 93 ⟨[false, false]⟩ ⟨[v2, v3]⟩ fun v4 =>
  pv (lenS v4) fun v6 =>
  pv (slS 6 v4 (some v6) (some v1)) fun v7 =>
  blt Pg R .clear ⟨[93]⟩ 0 ⟨[false]⟩ ⟨[v7]⟩ fun _ =>
  R (.returned v4))
theorem slices_Delete_64_j1_ok (R : ER) (e : Env) : den Pg R (cd Try.f64 [1,1,1]) e (kont Pg R Try.f64) = (slices_Delete_64_j1 R (e 0) (e 1) (e 2)) := by kernel_rfl
def slices_Delete_64 (R : ER) (x0 x1 x2 : Value) : WP :=
  pv (lenS x0) fun v8 =>
  valV Pg R (Instr.sliceAt 93 x0 (some x1) (some x2) (some v8)) fun v9 =>
  pv (bin .eql x1 x2) fun v10 =>
  cnd v10 (
   R (.returned x0)) (
   slices_Delete_64_j1 R x0 x1 x2)
theorem slices_Delete_64_den (R : ER) (x0 x1 x2 : Value) : den Pg R (cd Try.f64 []) (argsEnv [x0, x1, x2]) (kont Pg R Try.f64) = slices_Delete_64 R x0 x1 x2 :=
  have h : ∀ e, den Pg R (cd Try.f64 []) e (kont Pg R Try.f64) = slices_Delete_64 R (e 0) (e 1) (e 2) := fun e => (den_join Pg R 2 (cd Try.f64 []) (cd Try.f64 [1,1,1]) e (kont Pg R Try.f64) (fun e => slices_Delete_64_j1 R (e 0) (e 1) (e 2)) _ (by kernel_rfl) (fun e => slices_Delete_64_j1_ok R e) (by kernel_rfl))
  h _
theorem slices_Delete_64_calls {R : ER} {x0 x1 x2 : Value} {w : World} (h : slices_Delete_64 R x0 x1 x2 w) : Calls Pg 64 ⟨[x0, x1, x2]⟩ w R :=
  calls_of_den Try.func64 (by kernel_rfl) (by kernel_rfl) (slices_Delete_64_den R x0 x1 x2) h
/-! ### 65: bits_Mul -/
def bits_Mul_j1 (R : ER) (x0 x1 : Value) : WP :=
  cal Pg R 73 ⟨[x0, x1]⟩ fun v1 =>
  pv (extO 0 v1) fun v2 =>
  pv (extO 1 v1) fun v3 =>
  R (.returned (.tuple ⟨[v2, v3]⟩))
theorem bits_Mul_j1_ok (R : ER) (e : Env) : den Pg R (cd Try.f65 [1,1]) e (kont Pg R Try.f65) = (bits_Mul_j1 R (e 0) (e 1)) := by kernel_rfl
def bits_Mul_j3 (R : ER) (x0 x1 : Value) : WP :=
  pv (cvI .u32 x0) fun v4 =>
  pv (cvI .u32 x1) fun v5 =>
  cal Pg R 72 ⟨[v4, v5]⟩ fun v6 =>
  pv (extO 0 v6) fun v7 =>
  pv (extO 1 v6) fun v8 =>
  pv (cvI .u64 v7) fun v9 =>
  pv (cvI .u64 v8) fun v10 =>
  R (.returned (.tuple ⟨[v9, v10]⟩))
theorem bits_Mul_j3_ok (R : ER) (e : Env) : den Pg R (cd Try.f65 [1,0,0]) e (setN (kont Pg R Try.f65) (fun e => bits_Mul_j1 R (e 0) (e 1))) = (bits_Mul_j3 R (e 0) (e 1)) := by kernel_rfl
def bits_Mul_j2 (R : ER) (x0 x1 : Value) : WP :=
  cnd (.bool false) (bits_Mul_j3 R x0 x1) (bits_Mul_j1 R x0 x1)
theorem bits_Mul_j2_ok (R : ER) (e : Env) : den Pg R (cd Try.f65 [1,0]) e (setN (kont Pg R Try.f65) (fun e => bits_Mul_j1 R (e 0) (e 1))) = (bits_Mul_j2 R (e 0) (e 1)) := (den_if Pg R (cd Try.f65 [1,0]) (cd Try.f65 [1,0,0]) (cd Try.f65 [1,0,1]) e (setN (kont Pg R Try.f65) (fun e => bits_Mul_j1 R (e 0) (e 1))) (bits_Mul_j3 R (e 0) (e 1)) _ _ (by kernel_rfl) (bits_Mul_j3_ok R e) rfl (by kernel_rfl))
def bits_Mul (R : ER) (x0 x1 : Value) : WP :=
  bits_Mul_j2 R x0 x1
theorem bits_Mul_den (R : ER) (x0 x1 : Value) : den Pg R (cd Try.f65 []) (argsEnv [x0, x1]) (kont Pg R Try.f65) = bits_Mul R x0 x1 :=
  have h : ∀ e, den Pg R (cd Try.f65 []) e (kont Pg R Try.f65) = bits_Mul R (e 0) (e 1) := fun e => (den_join Pg R 1 (cd Try.f65 []) (cd Try.f65 [1,1]) e (kont Pg R Try.f65) (fun e => bits_Mul_j1 R (e 0) (e 1)) _ (by kernel_rfl) (fun e => bits_Mul_j1_ok R e) (den_join Pg R 0 (pre 1 (cd Try.f65 [])) (cd Try.f65 [1,0]) e (setN (kont Pg R Try.f65) (fun e => bits_Mul_j1 R (e 0) (e 1))) (fun e => bits_Mul_j2 R (e 0) (e 1)) _ (by kernel_rfl) (fun e => bits_Mul_j2_ok R e) (by kernel_rfl)))
  h _
theorem bits_Mul_calls {R : ER} {x0 x1 : Value} {w : World} (h : bits_Mul R x0 x1 w) : Calls Pg 65 ⟨[x0, x1]⟩ w R :=
  calls_of_den Try.func65 (by kernel_rfl) (by kernel_rfl) (bits_Mul_den R x0 x1) h
/-! ### 66: orpimentref35_Link_time -/
def orpimentref35_Link_time_j1 (R : ER) (x0 x1 : Value) : WP :=
  pv (nilO x0) fun v1 =>
  pv (faO 4 v1) fun v2 =>
  ld1 v2 fun v3 =>
  pv (bin .lss x1 v3) fun v4 =>
  cnd v4 (
   R (.returned (.int .i64 30))) (
   pv (nilO x0) fun v5 =>
  pv (faO 10 v5) fun v6 =>
  ld1 v6 fun v7 =>
  cnd v7 (
   R (.returned (.int .i64 4))) (
   R (.returned (.int .i64 0))))
theorem orpimentref35_Link_time_j1_ok (R : ER) (e : Env) : den Pg R (cd Try.f66 [1,1]) e (kont Pg R Try.f66) = (orpimentref35_Link_time_j1 R (e 0) (e 1)) := (by kernel_rfl)
def orpimentref35_Link_time (R : ER) (x0 x1 : Value) : WP :=
  pv (bin .lss x1 (.int .i64 0)) fun v8 =>
  gd v8 false (pv (some x1)) fun v9 =>
  gd v8 false (pv (bin .gtr v9 (.int .i64 1099511627776))) fun v10 =>
  pv (pickO v8 (.bool true) v10) fun v11 =>
  cnd v11 (
   R (.returned (.int .i64 34))) (
   orpimentref35_Link_time_j1 R x0 x1)
theorem orpimentref35_Link_time_den (R : ER) (x0 x1 : Value) : den Pg R (cd Try.f66 []) (argsEnv [x0, x1]) (kont Pg R Try.f66) = orpimentref35_Link_time R x0 x1 :=
  have h : ∀ e, den Pg R (cd Try.f66 []) e (kont Pg R Try.f66) = orpimentref35_Link_time R (e 0) (e 1) := fun e => (den_join Pg R 1 (cd Try.f66 []) (cd Try.f66 [1,1]) e (kont Pg R Try.f66) (fun e => orpimentref35_Link_time_j1 R (e 0) (e 1)) _ (by kernel_rfl) (fun e => orpimentref35_Link_time_j1_ok R e) (by kernel_rfl))
  h _
theorem orpimentref35_Link_time_calls {R : ER} {x0 x1 : Value} {w : World} (h : orpimentref35_Link_time R x0 x1 w) : Calls Pg 66 ⟨[x0, x1]⟩ w R :=
  calls_of_den Try.func66 (by kernel_rfl) (by kernel_rfl) (orpimentref35_Link_time_den R x0 x1) h
/-! ### 67: orpimentref35_Link_acknowledge -/
def orpimentref35_Link_acknowledge_j5 (R : ER) (x0 x4 : Value) : WP :=
  valV Pg R (Instr.buildSlice 122 0 ⟨[]⟩) fun v1 =>
  pv (nilO x0) fun v2 =>
  pv (faO 5 v2) fun v3 =>
  ld1 v3 fun v4 =>
  pv (slS 6 v4 (some x4) none) fun v5 =>
  blt Pg R .append ⟨[122,122]⟩ 122 ⟨[false, false]⟩ ⟨[v1, v5]⟩ fun v6 =>
  pv (nilO x0) fun v7 =>
  pv (faO 5 v7) fun v8 =>
  st1 v8 v6 fun _ =>
  pv (nilO x0) fun v9 =>
  pv (faO 8 v9) fun v10 =>
  st1 v10 (.int .i64 0) fun _ =>
  R (.returned (.tuple ⟨[]⟩))
theorem orpimentref35_Link_acknowledge_j5_ok (R : ER) (e : Env) : den Pg R (cd Try.f67 [1,1,1,1,1,1,1,1,1]) e (kont Pg R Try.f67) = (orpimentref35_Link_acknowledge_j5 R (e 0) (e 4)) := by kernel_rfl
def orpimentref35_Link_acknowledge_j9 (R : ER) (k1 : Value → Value → Value → WP) (x0 x4 x7 : Value) : WP :=
  pv (bin .add x7 (.int .i64 1)) fun v11 =>
  k1 x0 x4 v11
theorem orpimentref35_Link_acknowledge_j9_ok (R : ER) (k1 : Value → Value → Value → WP) (e : Env) : den Pg R (cd Try.f67 [1,1,1,1,1,1,1,1,0,1,0,0,1,1]) e (setN (inB 2 (setN (kont Pg R Try.f67) (fun e => orpimentref35_Link_acknowledge_j5 R (e 0) (e 4)))) (fun e => k1 (e 0) (e 4) (e 7))) = (orpimentref35_Link_acknowledge_j9 R k1 (e 0) (e 4) (e 7)) := by kernel_rfl
def orpimentref35_Link_acknowledge_j12 (R : ER) (k1 : Value → Value → Value → WP) (x0 x4 x7 : Value) : WP :=
  pv (nilO x0) fun v12 =>
  pv (faO 5 v12) fun v13 =>
  ld1 v13 fun v14 =>
  pv (ixS 6 v14 x7) fun v15 =>
  pv (faO 0 v15) fun v16 =>
  pv (faO 2 v16) fun v17 =>
  ld1 v17 fun v18 =>
  pv (nilO x0) fun v19 =>
  pv (faO 7 v19) fun v20 =>
  st1 v20 v18 fun _ =>
  orpimentref35_Link_acknowledge_j9 R k1 x0 x4 x7
theorem orpimentref35_Link_acknowledge_j12_ok (R : ER) (k1 : Value → Value → Value → WP) (e : Env) : den Pg R (cd Try.f67 [1,1,1,1,1,1,1,1,0,1,0,0,1,0,0,1,0]) e (inB 3 (setN (setN (inB 2 (setN (kont Pg R Try.f67) (fun e => orpimentref35_Link_acknowledge_j5 R (e 0) (e 4)))) (fun e => k1 (e 0) (e 4) (e 7))) (fun e => orpimentref35_Link_acknowledge_j9 R k1 (e 0) (e 4) (e 7)))) = (orpimentref35_Link_acknowledge_j12 R k1 (e 0) (e 4) (e 7)) := by kernel_rfl
def orpimentref35_Link_acknowledge_j11 (R : ER) (k1 : Value → Value → Value → WP) (x0 x4 x7 x104 : Value) : WP :=
  cnd x104 (orpimentref35_Link_acknowledge_j12 R k1 x0 x4 x7) (orpimentref35_Link_acknowledge_j9 R k1 x0 x4 x7)
theorem orpimentref35_Link_acknowledge_j11_ok (R : ER) (k1 : Value → Value → Value → WP) (e : Env) : den Pg R (cd Try.f67 [1,1,1,1,1,1,1,1,0,1,0,0,1,0,0,1]) e (inB 3 (setN (setN (inB 2 (setN (kont Pg R Try.f67) (fun e => orpimentref35_Link_acknowledge_j5 R (e 0) (e 4)))) (fun e => k1 (e 0) (e 4) (e 7))) (fun e => orpimentref35_Link_acknowledge_j9 R k1 (e 0) (e 4) (e 7)))) = (orpimentref35_Link_acknowledge_j11 R k1 (e 0) (e 4) (e 7) (e 104)) := (den_if Pg R (cd Try.f67 [1,1,1,1,1,1,1,1,0,1,0,0,1,0,0,1]) (cd Try.f67 [1,1,1,1,1,1,1,1,0,1,0,0,1,0,0,1,0]) (cd Try.f67 [1,1,1,1,1,1,1,1,0,1,0,0,1,0,0,1,1]) e (inB 3 (setN (setN (inB 2 (setN (kont Pg R Try.f67) (fun e => orpimentref35_Link_acknowledge_j5 R (e 0) (e 4)))) (fun e => k1 (e 0) (e 4) (e 7))) (fun e => orpimentref35_Link_acknowledge_j9 R k1 (e 0) (e 4) (e 7)))) (orpimentref35_Link_acknowledge_j12 R k1 (e 0) (e 4) (e 7)) _ _ (by kernel_rfl) (orpimentref35_Link_acknowledge_j12_ok R k1 e) rfl (by kernel_rfl))
def orpimentref35_Link_acknowledge_j10 (R : ER) (k1 : Value → Value → Value → WP) (x0 x4 x7 : Value) : WP :=
  pv (nilO x0) fun v21 =>
  pv (faO 5 v21) fun v22 =>
  ld1 v22 fun v23 =>
  pv (ixS 6 v23 x7) fun v24 =>
  pv (faO 0 v24) fun v25 =>
  pv (faO 1 v25) fun v26 =>
  ld1 v26 fun v27 =>
  orpimentref35_Link_acknowledge_j11 R k1 x0 x4 x7 v27
theorem orpimentref35_Link_acknowledge_j10_ok (R : ER) (k1 : Value → Value → Value → WP) (e : Env) : den Pg R (cd Try.f67 [1,1,1,1,1,1,1,1,0,1,0,0,1,0]) e (setN (setN (inB 2 (setN (kont Pg R Try.f67) (fun e => orpimentref35_Link_acknowledge_j5 R (e 0) (e 4)))) (fun e => k1 (e 0) (e 4) (e 7))) (fun e => orpimentref35_Link_acknowledge_j9 R k1 (e 0) (e 4) (e 7))) = (orpimentref35_Link_acknowledge_j10 R k1 (e 0) (e 4) (e 7)) := (den_block Pg R (cd Try.f67 [1,1,1,1,1,1,1,1,0,1,0,0,1,0]) 3 (cd Try.f67 [1,1,1,1,1,1,1,1,0,1,0,0,1,0,0]) e (setN (setN (inB 2 (setN (kont Pg R Try.f67) (fun e => orpimentref35_Link_acknowledge_j5 R (e 0) (e 4)))) (fun e => k1 (e 0) (e 4) (e 7))) (fun e => orpimentref35_Link_acknowledge_j9 R k1 (e 0) (e 4) (e 7))) _ (by kernel_rfl) (den_join Pg R 0 (cd Try.f67 [1,1,1,1,1,1,1,1,0,1,0,0,1,0,0]) (cd Try.f67 [1,1,1,1,1,1,1,1,0,1,0,0,1,0,0,1]) e (inB 3 (setN (setN (inB 2 (setN (kont Pg R Try.f67) (fun e => orpimentref35_Link_acknowledge_j5 R (e 0) (e 4)))) (fun e => k1 (e 0) (e 4) (e 7))) (fun e => orpimentref35_Link_acknowledge_j9 R k1 (e 0) (e 4) (e 7)))) (fun e => orpimentref35_Link_acknowledge_j11 R k1 (e 0) (e 4) (e 7) (e 104)) _ (by kernel_rfl) (fun e => orpimentref35_Link_acknowledge_j11_ok R k1 e) (by kernel_rfl)))
def orpimentref35_Link_acknowledge_j8 (R : ER) (k1 : Value → Value → Value → WP) (x0 x4 x7 : Value) : WP :=
  orpimentref35_Link_acknowledge_j10 R k1 x0 x4 x7
theorem orpimentref35_Link_acknowledge_j8_ok (R : ER) (k1 : Value → Value → Value → WP) (e : Env) : den Pg R (cd Try.f67 [1,1,1,1,1,1,1,1,0,1,0,0,1]) e (setN (inB 2 (setN (kont Pg R Try.f67) (fun e => orpimentref35_Link_acknowledge_j5 R (e 0) (e 4)))) (fun e => k1 (e 0) (e 4) (e 7))) = (orpimentref35_Link_acknowledge_j8 R k1 (e 0) (e 4) (e 7)) := (den_join Pg R 0 (cd Try.f67 [1,1,1,1,1,1,1,1,0,1,0,0,1]) (cd Try.f67 [1,1,1,1,1,1,1,1,0,1,0,0,1,1]) e (setN (inB 2 (setN (kont Pg R Try.f67) (fun e => orpimentref35_Link_acknowledge_j5 R (e 0) (e 4)))) (fun e => k1 (e 0) (e 4) (e 7))) (fun e => orpimentref35_Link_acknowledge_j9 R k1 (e 0) (e 4) (e 7)) _ (by kernel_rfl) (fun e => orpimentref35_Link_acknowledge_j9_ok R k1 e) (den_conv Pg R (pre 0 (cd Try.f67 [1,1,1,1,1,1,1,1,0,1,0,0,1])) (cd Try.f67 [1,1,1,1,1,1,1,1,0,1,0,0,1,0]) e (setN (setN (inB 2 (setN (kont Pg R Try.f67) (fun e => orpimentref35_Link_acknowledge_j5 R (e 0) (e 4)))) (fun e => k1 (e 0) (e 4) (e 7))) (fun e => orpimentref35_Link_acknowledge_j9 R k1 (e 0) (e 4) (e 7))) _ (by kernel_rfl) (orpimentref35_Link_acknowledge_j10_ok R k1 e)))
def orpimentref35_Link_acknowledge_b1 (R : ER) (k1 : Value → Value → Value → WP) (x0 x4 x7 : Value) : WP :=
  pv (bin .lss x7 x4) fun v28 =>
  cnd v28 (
   orpimentref35_Link_acknowledge_j8 R k1 x0 x4 x7) (
   orpimentref35_Link_acknowledge_j5 R x0 x4)
theorem orpimentref35_Link_acknowledge_b1_ok (R : ER) (k1 : Value → Value → Value → WP) (e : Env) : den Pg R (cd Try.f67 [1,1,1,1,1,1,1,1,0,1,0,0]) e (setN (inB 2 (setN (kont Pg R Try.f67) (fun e => orpimentref35_Link_acknowledge_j5 R (e 0) (e 4)))) (fun e => k1 (e 0) (e 4) (e 7))) = (orpimentref35_Link_acknowledge_b1 R k1 (e 0) (e 4) (e 7)) := (den_join Pg R 0 (cd Try.f67 [1,1,1,1,1,1,1,1,0,1,0,0]) (cd Try.f67 [1,1,1,1,1,1,1,1,0,1,0,0,1]) e (setN (inB 2 (setN (kont Pg R Try.f67) (fun e => orpimentref35_Link_acknowledge_j5 R (e 0) (e 4)))) (fun e => k1 (e 0) (e 4) (e 7))) (fun e => orpimentref35_Link_acknowledge_j8 R k1 (e 0) (e 4) (e 7)) _ (by kernel_rfl) (fun e => orpimentref35_Link_acknowledge_j8_ok R k1 e) (by kernel_rfl))
noncomputable def orpimentref35_Link_acknowledge_l1 (R : ER) (n : Nat) : Value → Value → Value → WP := Nat.rec (motive := fun _ => Value → Value → Value → WP) (fun _ _ _ => fun _ => False) (fun _ ih => fun x0 x4 x7 => orpimentref35_Link_acknowledge_b1 R ih x0 x4 x7) n
theorem orpimentref35_Link_acknowledge_l1_succ (R : ER) (n : Nat) (x0 x4 x7 : Value) : orpimentref35_Link_acknowledge_l1 R (n + 1) x0 x4 x7 = orpimentref35_Link_acknowledge_b1 R (orpimentref35_Link_acknowledge_l1 R n) x0 x4 x7 := rfl
theorem orpimentref35_Link_acknowledge_l1_ok (R : ER) : ∀ (n : Nat) (e : Env), iterL (den Pg R (cd Try.f67 [1,1,1,1,1,1,1,1,0,1,0,0])) n e (inB 2 (setN (kont Pg R Try.f67) (fun e => orpimentref35_Link_acknowledge_j5 R (e 0) (e 4)))) = orpimentref35_Link_acknowledge_l1 R n (e 0) (e 4) (e 7) :=
  iterL_join (den Pg R (cd Try.f67 [1,1,1,1,1,1,1,1,0,1,0,0])) (inB 2 (setN (kont Pg R Try.f67) (fun e => orpimentref35_Link_acknowledge_j5 R (e 0) (e 4)))) (fun n e => orpimentref35_Link_acknowledge_l1 R n (e 0) (e 4) (e 7)) (fun _ => rfl) (fun n e => (orpimentref35_Link_acknowledge_b1_ok R (orpimentref35_Link_acknowledge_l1 R n) e).trans (orpimentref35_Link_acknowledge_l1_succ R n (e 0) (e 4) (e 7)).symm)
def orpimentref35_Link_acknowledge_j7 (R : ER) (x0 x4 x7 : Value) : WP :=
  exN fun n => orpimentref35_Link_acknowledge_l1 R n x0 x4 x7
theorem orpimentref35_Link_acknowledge_j7_ok (R : ER) (e : Env) : den Pg R (cd Try.f67 [1,1,1,1,1,1,1,1,0,1]) e (setN (kont Pg R Try.f67) (fun e => orpimentref35_Link_acknowledge_j5 R (e 0) (e 4))) = (orpimentref35_Link_acknowledge_j7 R (e 0) (e 4) (e 7)) := (den_block Pg R (cd Try.f67 [1,1,1,1,1,1,1,1,0,1]) 2 (cd Try.f67 [1,1,1,1,1,1,1,1,0,1,0]) e (setN (kont Pg R Try.f67) (fun e => orpimentref35_Link_acknowledge_j5 R (e 0) (e 4))) _ (by kernel_rfl) (den_loop Pg R (cd Try.f67 [1,1,1,1,1,1,1,1,0,1,0]) (cd Try.f67 [1,1,1,1,1,1,1,1,0,1,0,0]) e (inB 2 (setN (kont Pg R Try.f67) (fun e => orpimentref35_Link_acknowledge_j5 R (e 0) (e 4)))) (fun n e => orpimentref35_Link_acknowledge_l1 R n (e 0) (e 4) (e 7)) _ (by kernel_rfl) (orpimentref35_Link_acknowledge_l1_ok R) (by kernel_rfl)))
def orpimentref35_Link_acknowledge_j6 (R : ER) (x0 x4 : Value) : WP :=
  orpimentref35_Link_acknowledge_j7 R x0 x4 (.int .i64 0)
theorem orpimentref35_Link_acknowledge_j6_ok (R : ER) (e : Env) : den Pg R (cd Try.f67 [1,1,1,1,1,1,1,1,0]) e (setN (kont Pg R Try.f67) (fun e => orpimentref35_Link_acknowledge_j5 R (e 0) (e 4))) = (orpimentref35_Link_acknowledge_j6 R (e 0) (e 4)) := (den_join Pg R 0 (cd Try.f67 [1,1,1,1,1,1,1,1,0]) (cd Try.f67 [1,1,1,1,1,1,1,1,0,1]) e (setN (kont Pg R Try.f67) (fun e => orpimentref35_Link_acknowledge_j5 R (e 0) (e 4))) (fun e => orpimentref35_Link_acknowledge_j7 R (e 0) (e 4) (e 7)) _ (by kernel_rfl) (fun e => orpimentref35_Link_acknowledge_j7_ok R e) (by kernel_rfl))
def orpimentref35_Link_acknowledge_j4 (R : ER) (x0 x4 : Value) : WP :=
  orpimentref35_Link_acknowledge_j6 R x0 x4
theorem orpimentref35_Link_acknowledge_j4_ok (R : ER) (e : Env) : den Pg R (cd Try.f67 [1,1,1,1,1,1,1,1]) e (kont Pg R Try.f67) = (orpimentref35_Link_acknowledge_j4 R (e 0) (e 4)) := (den_join Pg R 0 (cd Try.f67 [1,1,1,1,1,1,1,1]) (cd Try.f67 [1,1,1,1,1,1,1,1,1]) e (kont Pg R Try.f67) (fun e => orpimentref35_Link_acknowledge_j5 R (e 0) (e 4)) _ (by kernel_rfl) (fun e => orpimentref35_Link_acknowledge_j5_ok R e) (den_conv Pg R (pre 0 (cd Try.f67 [1,1,1,1,1,1,1,1])) (cd Try.f67 [1,1,1,1,1,1,1,1,0]) e (setN (kont Pg R Try.f67) (fun e => orpimentref35_Link_acknowledge_j5 R (e 0) (e 4))) _ (by kernel_rfl) (orpimentref35_Link_acknowledge_j6_ok R e)))
def orpimentref35_Link_acknowledge_j3 (R : ER) (x0 x3 x4 x6 : Value) : WP :=
  pv (faO 2 x3) fun v29 =>
  ld1 v29 fun v30 =>
  pv (faO 2 x6) fun v31 =>
  ld1 v31 fun v32 =>
  pv (bin .neq v30 v32) fun v33 =>
  gd v33 false (pv (faO 3 x3)) fun v34 =>
  gd v33 false (ld1 v34) fun v35 =>
  gd v33 false (pv (faO 3 x6)) fun v36 =>
  gd v33 false (ld1 v36) fun v37 =>
  gd v33 false (pv (bin .neq v35 v37)) fun v38 =>
  pv (pickO v33 (.bool true) v38) fun v39 =>
  cnd v39 (
   R (.returned (.tuple ⟨[]⟩))) (
   orpimentref35_Link_acknowledge_j4 R x0 x4)
theorem orpimentref35_Link_acknowledge_j3_ok (R : ER) (e : Env) : den Pg R (cd Try.f67 [1,1,1,1,1,1,1]) e (kont Pg R Try.f67) = (orpimentref35_Link_acknowledge_j3 R (e 0) (e 3) (e 4) (e 6)) := (den_join Pg R 0 (cd Try.f67 [1,1,1,1,1,1,1]) (cd Try.f67 [1,1,1,1,1,1,1,1]) e (kont Pg R Try.f67) (fun e => orpimentref35_Link_acknowledge_j4 R (e 0) (e 4)) _ (by kernel_rfl) (fun e => orpimentref35_Link_acknowledge_j4_ok R e) (by kernel_rfl))
def orpimentref35_Link_acknowledge_j2 (R : ER) (x0 x3 x4 : Value) : WP :=
  pv (nilO x0) fun v40 =>
  pv (faO 5 v40) fun v41 =>
  ld1 v41 fun v42 =>
  pv (bin .sub x4 (.int .i64 1)) fun v43 =>
  pv (ixS 6 v42 v43) fun v44 =>
  ldN 6 v44 fun v45 =>
  al Pg 141 fun v46 =>
  stN 6 v46 v45 fun _ =>
  pv (faO 0 v46) fun v47 =>
  pv (faO 2 v47) fun v48 =>
  ld1 v48 fun v49 =>
  pv (faO 0 v46) fun v50 =>
  pv (faO 3 v50) fun v51 =>
  ld1 v51 fun v52 =>
  pv (bin .add v52 (.int .i64 1)) fun v53 =>
  pv (bldO [.int .i64 0, .bool false, .int .i64 0, .int .i64 0, .slice none 0 0] [(2,1, v49), (3,1, v53)]) fun v54 =>
  al Pg 52 fun v55 =>
  stN 5 v55 v54 fun _ =>
  pv (faO 0 v46) fun v56 =>
  pv (faO 1 v56) fun v57 =>
  ld1 v57 fun v58 =>
  cnd v58 (
   pv (faO 0 v46) fun v59 =>
   pv (faO 2 v59) fun v60 =>
   ld1 v60 fun v61 =>
   pv (bin .add v61 (.int .i64 1)) fun v62 =>
   pv (bldO [.int .i64 0, .bool false, .int .i64 0, .int .i64 0, .slice none 0 0] [(2,1, v62)]) fun v63 =>
   stN 5 v55 v63 fun _ =>
   orpimentref35_Link_acknowledge_j3 R x0 x3 x4 v55) (
   orpimentref35_Link_acknowledge_j3 R x0 x3 x4 v55)
theorem orpimentref35_Link_acknowledge_j2_ok (R : ER) (e : Env) : den Pg R (cd Try.f67 [1,1,1,1]) e (kont Pg R Try.f67) = (orpimentref35_Link_acknowledge_j2 R (e 0) (e 3) (e 4)) := (den_join Pg R 2 (cd Try.f67 [1,1,1,1]) (cd Try.f67 [1,1,1,1,1,1,1]) e (kont Pg R Try.f67) (fun e => orpimentref35_Link_acknowledge_j3 R (e 0) (e 3) (e 4) (e 6)) _ (by kernel_rfl) (fun e => orpimentref35_Link_acknowledge_j3_ok R e) (by kernel_rfl))
def orpimentref35_Link_acknowledge_j1 (R : ER) (x0 x3 x4 : Value) : WP :=
  pv (bin .eql x4 (.int .i64 0)) fun v64 =>
  cnd v64 (
   R (.returned (.tuple ⟨[]⟩))) (
   orpimentref35_Link_acknowledge_j2 R x0 x3 x4)
theorem orpimentref35_Link_acknowledge_j1_ok (R : ER) (e : Env) : den Pg R (cd Try.f67 [1,1,1]) e (kont Pg R Try.f67) = (orpimentref35_Link_acknowledge_j1 R (e 0) (e 3) (e 4)) := (den_join Pg R 0 (cd Try.f67 [1,1,1]) (cd Try.f67 [1,1,1,1]) e (kont Pg R Try.f67) (fun e => orpimentref35_Link_acknowledge_j2 R (e 0) (e 3) (e 4)) _ (by kernel_rfl) (fun e => orpimentref35_Link_acknowledge_j2_ok R e) (by kernel_rfl))
def orpimentref35_Link_acknowledge_b2 (R : ER) (k1 : Value → Value → Value → WP) (x0 x3 x4 : Value) : WP :=
  drewV (
  pv (nilO x0) fun v65 =>
  pv (faO 5 v65) fun v66 =>
  ld1 v66 fun v67 =>
  pv (lenS v67) fun v68 =>
  pv (bin .lss x4 v68) fun v69 =>
  gd v69 true (pv (some x0)) fun v70 =>
  gd v69 true (pv (nilO v70)) fun v71 =>
  gd v69 true (pv (faO 5 v71)) fun v72 =>
  gd v69 true (ld1 v72) fun v73 =>
  gd v69 true (pv (some x4)) fun v74 =>
  gd v69 true (pv (ixS 6 v73 v74)) fun v75 =>
  gd v69 true (pv (faO 5 v75)) fun v76 =>
  gd v69 true (ld1 v76) fun v77 =>
  gd v69 true (pv (bin .geq v77 (.int .i64 0))) fun v78 =>
  pv (pickO v69 v78 (.bool false)) fun v79 =>
  gd v79 true (pv (faO 2 x3)) fun v80 =>
  gd v79 true (ld1 v80) fun v81 =>
  gd v79 true (pv (faO 3 x3)) fun v82 =>
  gd v79 true (ld1 v82) fun v83 =>
  gd v79 true (pv (some x0)) fun v84 =>
  gd v79 true (pv (nilO v84)) fun v85 =>
  gd v79 true (pv (faO 5 v85)) fun v86 =>
  gd v79 true (ld1 v86) fun v87 =>
  gd v79 true (pv (some x4)) fun v88 =>
  gd v79 true (pv (ixS 6 v87 v88)) fun v89 =>
  gd v79 true (pv (faO 0 v89)) fun v90 =>
  gd v79 true (pv (faO 2 v90)) fun v91 =>
  gd v79 true (ld1 v91) fun v92 =>
  gd v79 true (pv (some x0)) fun v93 =>
  gd v79 true (pv (nilO v93)) fun v94 =>
  gd v79 true (pv (faO 5 v94)) fun v95 =>
  gd v79 true (ld1 v95) fun v96 =>
  gd v79 true (pv (some x4)) fun v97 =>
  gd v79 true (pv (ixS 6 v96 v97)) fun v98 =>
  gd v79 true (pv (faO 0 v98)) fun v99 =>
  gd v79 true (pv (faO 3 v99)) fun v100 =>
  gd v79 true (ld1 v100) fun v101 =>
  mem fun w103 => gd v79 true (cal Pg noR 74 ⟨[v81, v83, v92, v101]⟩) fun v102 =>
  pv (pickO v79 v102 (.bool false)) fun v104 =>
  cnd v104 (
   pv (bin .add x4 (.int .i64 1)) fun v105 =>
  k1 x0 x3 v105) (
   orpimentref35_Link_acknowledge_j1 R x0 x3 x4))
theorem orpimentref35_Link_acknowledge_b2_ok (R : ER) (k1 : Value → Value → Value → WP) (e : Env) : den Pg R (cd Try.f67 [1,1,0,0,0]) e (setN (inB 0 (setN (kont Pg R Try.f67) (fun e => orpimentref35_Link_acknowledge_j1 R (e 0) (e 3) (e 4)))) (fun e => k1 (e 0) (e 3) (e 4))) = (orpimentref35_Link_acknowledge_b2 R k1 (e 0) (e 3) (e 4)) := (by kernel_rfl)
noncomputable def orpimentref35_Link_acknowledge_l2 (R : ER) (n : Nat) : Value → Value → Value → WP := Nat.rec (motive := fun _ => Value → Value → Value → WP) (fun _ _ _ => fun _ => False) (fun _ ih => fun x0 x3 x4 => orpimentref35_Link_acknowledge_b2 R ih x0 x3 x4) n
theorem orpimentref35_Link_acknowledge_l2_succ (R : ER) (n : Nat) (x0 x3 x4 : Value) : orpimentref35_Link_acknowledge_l2 R (n + 1) x0 x3 x4 = orpimentref35_Link_acknowledge_b2 R (orpimentref35_Link_acknowledge_l2 R n) x0 x3 x4 := rfl
theorem orpimentref35_Link_acknowledge_l2_ok (R : ER) : ∀ (n : Nat) (e : Env), iterL (den Pg R (cd Try.f67 [1,1,0,0,0])) n e (inB 0 (setN (kont Pg R Try.f67) (fun e => orpimentref35_Link_acknowledge_j1 R (e 0) (e 3) (e 4)))) = orpimentref35_Link_acknowledge_l2 R n (e 0) (e 3) (e 4) :=
  iterL_join (den Pg R (cd Try.f67 [1,1,0,0,0])) (inB 0 (setN (kont Pg R Try.f67) (fun e => orpimentref35_Link_acknowledge_j1 R (e 0) (e 3) (e 4)))) (fun n e => orpimentref35_Link_acknowledge_l2 R n (e 0) (e 3) (e 4)) (fun _ => rfl) (fun n e => (orpimentref35_Link_acknowledge_b2_ok R (orpimentref35_Link_acknowledge_l2 R n) e).trans (orpimentref35_Link_acknowledge_l2_succ R n (e 0) (e 3) (e 4)).symm)
def orpimentref35_Link_acknowledge_j13 (R : ER) (x0 x3 x4 : Value) : WP :=
  exN fun n => orpimentref35_Link_acknowledge_l2 R n x0 x3 x4
theorem orpimentref35_Link_acknowledge_j13_ok (R : ER) (e : Env) : den Pg R (cd Try.f67 [1,1,0]) e (setN (kont Pg R Try.f67) (fun e => orpimentref35_Link_acknowledge_j1 R (e 0) (e 3) (e 4))) = (orpimentref35_Link_acknowledge_j13 R (e 0) (e 3) (e 4)) := (den_block Pg R (cd Try.f67 [1,1,0]) 0 (cd Try.f67 [1,1,0,0]) e (setN (kont Pg R Try.f67) (fun e => orpimentref35_Link_acknowledge_j1 R (e 0) (e 3) (e 4))) _ (by kernel_rfl) (den_loop Pg R (cd Try.f67 [1,1,0,0]) (cd Try.f67 [1,1,0,0,0]) e (inB 0 (setN (kont Pg R Try.f67) (fun e => orpimentref35_Link_acknowledge_j1 R (e 0) (e 3) (e 4)))) (fun n e => orpimentref35_Link_acknowledge_l2 R n (e 0) (e 3) (e 4)) _ (by kernel_rfl) (orpimentref35_Link_acknowledge_l2_ok R) (by kernel_rfl)))
def orpimentref35_Link_acknowledge (R : ER) (x0 x1 : Value) : WP :=
  bx 52 x1 fun v106 =>
  orpimentref35_Link_acknowledge_j13 R x0 v106 (.int .i64 0)
theorem orpimentref35_Link_acknowledge_den (R : ER) (x0 x1 : Value) : den Pg R (cd Try.f67 []) (argsEnv [x0, x1]) (kont Pg R Try.f67) = orpimentref35_Link_acknowledge R x0 x1 :=
  have h : ∀ e, den Pg R (cd Try.f67 []) e (kont Pg R Try.f67) = orpimentref35_Link_acknowledge R (e 0) (e 1) := fun e => (den_join Pg R 2 (cd Try.f67 []) (cd Try.f67 [1,1,1]) e (kont Pg R Try.f67) (fun e => orpimentref35_Link_acknowledge_j1 R (e 0) (e 3) (e 4)) _ (by kernel_rfl) (fun e => orpimentref35_Link_acknowledge_j1_ok R e) (den_join Pg R 1 (pre 2 (cd Try.f67 [])) (cd Try.f67 [1,1,0]) e (setN (kont Pg R Try.f67) (fun e => orpimentref35_Link_acknowledge_j1 R (e 0) (e 3) (e 4))) (fun e => orpimentref35_Link_acknowledge_j13 R (e 0) (e 3) (e 4)) _ (by kernel_rfl) (fun e => orpimentref35_Link_acknowledge_j13_ok R e) (by kernel_rfl)))
  h _
theorem orpimentref35_Link_acknowledge_calls {R : ER} {x0 x1 : Value} {w : World} (h : orpimentref35_Link_acknowledge R x0 x1 w) : Calls Pg 67 ⟨[x0, x1]⟩ w R :=
  calls_of_den Try.func67 (by kernel_rfl) (by kernel_rfl) (orpimentref35_Link_acknowledge_den R x0 x1) h
/-! ### 68: orpimentref35_Link_usable -/
def orpimentref35_Link_usable_j1 (R : ER) (x3 : Value) : WP :=
  R (.returned x3)
theorem orpimentref35_Link_usable_j1_ok (R : ER) (e : Env) : den Pg R (cd Try.f68 [1,1,1]) e (kont Pg R Try.f68) = (orpimentref35_Link_usable_j1 R (e 3)) := by kernel_rfl
def orpimentref35_Link_usable_j5 (R : ER) (k1 : Value → Value → Value → WP) (x0 x3 x4 : Value) : WP :=
  pv (bin .add x4 (.int .i64 1)) fun v1 =>
  k1 x0 x3 v1
theorem orpimentref35_Link_usable_j5_ok (R : ER) (k1 : Value → Value → Value → WP) (e : Env) : den Pg R (cd Try.f68 [1,1,0,1,0,0,1,1]) e (setN (inB 0 (setN (kont Pg R Try.f68) (fun e => orpimentref35_Link_usable_j1 R (e 3)))) (fun e => k1 (e 0) (e 3) (e 4))) = (orpimentref35_Link_usable_j5 R k1 (e 0) (e 3) (e 4)) := by kernel_rfl
def orpimentref35_Link_usable_j4 (R : ER) (k1 : Value → Value → Value → WP) (x0 x3 x4 : Value) : WP :=
  pv (nilO x0) fun v2 =>
  pv (faO 0 v2) fun v3 =>
  ld1 v3 fun v4 =>
  pv (ixS 1 v4 x4) fun v5 =>
  ld1 v5 fun v6 =>
  cnd v6 (
   valV Pg R (Instr.buildSlice 104 1 ⟨[(0, x4)]⟩) fun v7 =>
   blt Pg R .append ⟨[104,104]⟩ 104 ⟨[false, false]⟩ ⟨[x3, v7]⟩ fun v8 =>
   orpimentref35_Link_usable_j5 R k1 x0 v8 x4) (
   orpimentref35_Link_usable_j5 R k1 x0 x3 x4)
theorem orpimentref35_Link_usable_j4_ok (R : ER) (k1 : Value → Value → Value → WP) (e : Env) : den Pg R (cd Try.f68 [1,1,0,1,0,0,1]) e (setN (inB 0 (setN (kont Pg R Try.f68) (fun e => orpimentref35_Link_usable_j1 R (e 3)))) (fun e => k1 (e 0) (e 3) (e 4))) = (orpimentref35_Link_usable_j4 R k1 (e 0) (e 3) (e 4)) := (den_join Pg R 0 (cd Try.f68 [1,1,0,1,0,0,1]) (cd Try.f68 [1,1,0,1,0,0,1,1]) e (setN (inB 0 (setN (kont Pg R Try.f68) (fun e => orpimentref35_Link_usable_j1 R (e 3)))) (fun e => k1 (e 0) (e 3) (e 4))) (fun e => orpimentref35_Link_usable_j5 R k1 (e 0) (e 3) (e 4)) _ (by kernel_rfl) (fun e => orpimentref35_Link_usable_j5_ok R k1 e) (by kernel_rfl))
def orpimentref35_Link_usable_b1 (R : ER) (k1 : Value → Value → Value → WP) (x0 x3 x4 : Value) : WP :=
  pv (nilO x0) fun v9 =>
  pv (faO 0 v9) fun v10 =>
  ld1 v10 fun v11 =>
  pv (lenS v11) fun v12 =>
  pv (bin .lss x4 v12) fun v13 =>
  cnd v13 (
   orpimentref35_Link_usable_j4 R k1 x0 x3 x4) (
   orpimentref35_Link_usable_j1 R x3)
theorem orpimentref35_Link_usable_b1_ok (R : ER) (k1 : Value → Value → Value → WP) (e : Env) : den Pg R (cd Try.f68 [1,1,0,1,0,0]) e (setN (inB 0 (setN (kont Pg R Try.f68) (fun e => orpimentref35_Link_usable_j1 R (e 3)))) (fun e => k1 (e 0) (e 3) (e 4))) = (orpimentref35_Link_usable_b1 R k1 (e 0) (e 3) (e 4)) := (den_join Pg R 0 (cd Try.f68 [1,1,0,1,0,0]) (cd Try.f68 [1,1,0,1,0,0,1]) e (setN (inB 0 (setN (kont Pg R Try.f68) (fun e => orpimentref35_Link_usable_j1 R (e 3)))) (fun e => k1 (e 0) (e 3) (e 4))) (fun e => orpimentref35_Link_usable_j4 R k1 (e 0) (e 3) (e 4)) _ (by kernel_rfl) (fun e => orpimentref35_Link_usable_j4_ok R k1 e) (by kernel_rfl))
noncomputable def orpimentref35_Link_usable_l1 (R : ER) (n : Nat) : Value → Value → Value → WP := Nat.rec (motive := fun _ => Value → Value → Value → WP) (fun _ _ _ => fun _ => False) (fun _ ih => fun x0 x3 x4 => orpimentref35_Link_usable_b1 R ih x0 x3 x4) n
theorem orpimentref35_Link_usable_l1_succ (R : ER) (n : Nat) (x0 x3 x4 : Value) : orpimentref35_Link_usable_l1 R (n + 1) x0 x3 x4 = orpimentref35_Link_usable_b1 R (orpimentref35_Link_usable_l1 R n) x0 x3 x4 := rfl
theorem orpimentref35_Link_usable_l1_ok (R : ER) : ∀ (n : Nat) (e : Env), iterL (den Pg R (cd Try.f68 [1,1,0,1,0,0])) n e (inB 0 (setN (kont Pg R Try.f68) (fun e => orpimentref35_Link_usable_j1 R (e 3)))) = orpimentref35_Link_usable_l1 R n (e 0) (e 3) (e 4) :=
  iterL_join (den Pg R (cd Try.f68 [1,1,0,1,0,0])) (inB 0 (setN (kont Pg R Try.f68) (fun e => orpimentref35_Link_usable_j1 R (e 3)))) (fun n e => orpimentref35_Link_usable_l1 R n (e 0) (e 3) (e 4)) (fun _ => rfl) (fun n e => (orpimentref35_Link_usable_b1_ok R (orpimentref35_Link_usable_l1 R n) e).trans (orpimentref35_Link_usable_l1_succ R n (e 0) (e 3) (e 4)).symm)
def orpimentref35_Link_usable_j3 (R : ER) (x0 x3 x4 : Value) : WP :=
  exN fun n => orpimentref35_Link_usable_l1 R n x0 x3 x4
theorem orpimentref35_Link_usable_j3_ok (R : ER) (e : Env) : den Pg R (cd Try.f68 [1,1,0,1]) e (setN (kont Pg R Try.f68) (fun e => orpimentref35_Link_usable_j1 R (e 3))) = (orpimentref35_Link_usable_j3 R (e 0) (e 3) (e 4)) := (den_block Pg R (cd Try.f68 [1,1,0,1]) 0 (cd Try.f68 [1,1,0,1,0]) e (setN (kont Pg R Try.f68) (fun e => orpimentref35_Link_usable_j1 R (e 3))) _ (by kernel_rfl) (den_loop Pg R (cd Try.f68 [1,1,0,1,0]) (cd Try.f68 [1,1,0,1,0,0]) e (inB 0 (setN (kont Pg R Try.f68) (fun e => orpimentref35_Link_usable_j1 R (e 3)))) (fun n e => orpimentref35_Link_usable_l1 R n (e 0) (e 3) (e 4)) _ (by kernel_rfl) (orpimentref35_Link_usable_l1_ok R) (by kernel_rfl)))
def orpimentref35_Link_usable_j2 (R : ER) (x0 x3 : Value) : WP :=
  orpimentref35_Link_usable_j3 R x0 x3 (.int .i64 0)
theorem orpimentref35_Link_usable_j2_ok (R : ER) (e : Env) : den Pg R (cd Try.f68 [1,1,0]) e (setN (kont Pg R Try.f68) (fun e => orpimentref35_Link_usable_j1 R (e 3))) = (orpimentref35_Link_usable_j2 R (e 0) (e 3)) := (den_join Pg R 0 (cd Try.f68 [1,1,0]) (cd Try.f68 [1,1,0,1]) e (setN (kont Pg R Try.f68) (fun e => orpimentref35_Link_usable_j1 R (e 3))) (fun e => orpimentref35_Link_usable_j3 R (e 0) (e 3) (e 4)) _ (by kernel_rfl) (fun e => orpimentref35_Link_usable_j3_ok R e) (by kernel_rfl))
def orpimentref35_Link_usable (R : ER) (x0 : Value) : WP :=
  valV Pg R (Instr.buildSlice 104 0 ⟨[]⟩) fun v14 =>
  orpimentref35_Link_usable_j2 R x0 v14
theorem orpimentref35_Link_usable_den (R : ER) (x0 : Value) : den Pg R (cd Try.f68 []) (argsEnv [x0]) (kont Pg R Try.f68) = orpimentref35_Link_usable R x0 :=
  have h : ∀ e, den Pg R (cd Try.f68 []) e (kont Pg R Try.f68) = orpimentref35_Link_usable R (e 0) := fun e => (den_join Pg R 2 (cd Try.f68 []) (cd Try.f68 [1,1,1]) e (kont Pg R Try.f68) (fun e => orpimentref35_Link_usable_j1 R (e 3)) _ (by kernel_rfl) (fun e => orpimentref35_Link_usable_j1_ok R e) (den_join Pg R 1 (pre 2 (cd Try.f68 [])) (cd Try.f68 [1,1,0]) e (setN (kont Pg R Try.f68) (fun e => orpimentref35_Link_usable_j1 R (e 3))) (fun e => orpimentref35_Link_usable_j2 R (e 0) (e 3)) _ (by kernel_rfl) (fun e => orpimentref35_Link_usable_j2_ok R e) (by kernel_rfl)))
  h _
theorem orpimentref35_Link_usable_calls {R : ER} {x0 : Value} {w : World} (h : orpimentref35_Link_usable R x0 w) : Calls Pg 68 ⟨[x0]⟩ w R :=
  calls_of_den Try.func68 (by kernel_rfl) (by kernel_rfl) (orpimentref35_Link_usable_den R x0) h
/-! ### 69: slices_EqualFunc_69 -/
def slices_EqualFunc_69_j2 (R : ER) : WP :=
  R (.returned (.bool true))
theorem slices_EqualFunc_69_j2_ok (R : ER) (e : Env) : den Pg R (cd Try.f69 [1,1,1]) e (kont Pg R Try.f69) = (slices_EqualFunc_69_j2 R) := by kernel_rfl
def slices_EqualFunc_69_j5 (R : ER) (k1 : Value → Value → Value → Value → Value → WP) (x1 x2 x15 x16 x17 : Value) : WP :=
  pv (ixS 2 x15 x17) fun v1 =>
  ldN 2 v1 fun v2 =>
  al Pg 90 fun v3 =>
  stN 2 v3 v2 fun _ =>
  pv (ixS 2 x1 x17) fun v4 =>
  ldN 2 v4 fun v5 =>
  al Pg 145 fun v6 =>
  stN 2 v6 v5 fun _ =>
  ldN 2 v3 fun v7 =>
  ldN 2 v6 fun v8 =>
  calD Pg R x2 ⟨[v7, v8]⟩ fun v9 =>
  pv (unO .not v9) fun v10 =>
  cnd v10 (
   R (.returned (.bool false))) (
   pv (bin .add x17 (.int .i64 1)) fun v11 =>
  k1 x1 x2 x15 x16 v11)
theorem slices_EqualFunc_69_j5_ok (R : ER) (k1 : Value → Value → Value → Value → Value → WP) (e : Env) : den Pg R (cd Try.f69 [1,1,0,1,0,0,1,1]) e (setN (inB 0 (setN (kont Pg R Try.f69) (fun e => slices_EqualFunc_69_j2 R))) (fun e => k1 (e 1) (e 2) (e 15) (e 16) (e 17))) = (slices_EqualFunc_69_j5 R k1 (e 1) (e 2) (e 15) (e 16) (e 17)) := (by kernel_rfl)
def slices_EqualFunc_69_b1 (R : ER) (k1 : Value → Value → Value → Value → Value → WP) (x1 x2 x15 x16 x17 : Value) : WP :=
  pv (bin .lss x17 x16) fun v12 =>
  cnd v12 (
   slices_EqualFunc_69_j5 R k1 x1 x2 x15 x16 x17) (
   slices_EqualFunc_69_j2 R)
theorem slices_EqualFunc_69_b1_ok (R : ER) (k1 : Value → Value → Value → Value → Value → WP) (e : Env) : den Pg R (cd Try.f69 [1,1,0,1,0,0]) e (setN (inB 0 (setN (kont Pg R Try.f69) (fun e => slices_EqualFunc_69_j2 R))) (fun e => k1 (e 1) (e 2) (e 15) (e 16) (e 17))) = (slices_EqualFunc_69_b1 R k1 (e 1) (e 2) (e 15) (e 16) (e 17)) := (den_join Pg R 1 (cd Try.f69 [1,1,0,1,0,0]) (cd Try.f69 [1,1,0,1,0,0,1,1]) e (setN (inB 0 (setN (kont Pg R Try.f69) (fun e => slices_EqualFunc_69_j2 R))) (fun e => k1 (e 1) (e 2) (e 15) (e 16) (e 17))) (fun e => slices_EqualFunc_69_j5 R k1 (e 1) (e 2) (e 15) (e 16) (e 17)) _ (by kernel_rfl) (fun e => slices_EqualFunc_69_j5_ok R k1 e) (by kernel_rfl))
noncomputable def slices_EqualFunc_69_l1 (R : ER) (n : Nat) : Value → Value → Value → Value → Value → WP := Nat.rec (motive := fun _ => Value → Value → Value → Value → Value → WP) (fun _ _ _ _ _ => fun _ => False) (fun _ ih => fun x1 x2 x15 x16 x17 => slices_EqualFunc_69_b1 R ih x1 x2 x15 x16 x17) n
theorem slices_EqualFunc_69_l1_succ (R : ER) (n : Nat) (x1 x2 x15 x16 x17 : Value) : slices_EqualFunc_69_l1 R (n + 1) x1 x2 x15 x16 x17 = slices_EqualFunc_69_b1 R (slices_EqualFunc_69_l1 R n) x1 x2 x15 x16 x17 := rfl
theorem slices_EqualFunc_69_l1_ok (R : ER) : ∀ (n : Nat) (e : Env), iterL (den Pg R (cd Try.f69 [1,1,0,1,0,0])) n e (inB 0 (setN (kont Pg R Try.f69) (fun e => slices_EqualFunc_69_j2 R))) = slices_EqualFunc_69_l1 R n (e 1) (e 2) (e 15) (e 16) (e 17) :=
  iterL_join (den Pg R (cd Try.f69 [1,1,0,1,0,0])) (inB 0 (setN (kont Pg R Try.f69) (fun e => slices_EqualFunc_69_j2 R))) (fun n e => slices_EqualFunc_69_l1 R n (e 1) (e 2) (e 15) (e 16) (e 17)) (fun _ => rfl) (fun n e => (slices_EqualFunc_69_b1_ok R (slices_EqualFunc_69_l1 R n) e).trans (slices_EqualFunc_69_l1_succ R n (e 1) (e 2) (e 15) (e 16) (e 17)).symm)
def slices_EqualFunc_69_j4 (R : ER) (x1 x2 x15 x16 x17 : Value) : WP :=
  exN fun n => slices_EqualFunc_69_l1 R n x1 x2 x15 x16 x17
theorem slices_EqualFunc_69_j4_ok (R : ER) (e : Env) : den Pg R (cd Try.f69 [1,1,0,1]) e (setN (kont Pg R Try.f69) (fun e => slices_EqualFunc_69_j2 R)) = (slices_EqualFunc_69_j4 R (e 1) (e 2) (e 15) (e 16) (e 17)) := (den_block Pg R (cd Try.f69 [1,1,0,1]) 0 (cd Try.f69 [1,1,0,1,0]) e (setN (kont Pg R Try.f69) (fun e => slices_EqualFunc_69_j2 R)) _ (by kernel_rfl) (den_loop Pg R (cd Try.f69 [1,1,0,1,0]) (cd Try.f69 [1,1,0,1,0,0]) e (inB 0 (setN (kont Pg R Try.f69) (fun e => slices_EqualFunc_69_j2 R))) (fun n e => slices_EqualFunc_69_l1 R n (e 1) (e 2) (e 15) (e 16) (e 17)) _ (by kernel_rfl) (slices_EqualFunc_69_l1_ok R) (by kernel_rfl)))
def slices_EqualFunc_69_j3 (R : ER) (x0 x1 x2 : Value) : WP :=
  pv (lenS x0) fun v13 =>
  slices_EqualFunc_69_j4 R x1 x2 x0 v13 (.int .i64 0)
theorem slices_EqualFunc_69_j3_ok (R : ER) (e : Env) : den Pg R (cd Try.f69 [1,1,0]) e (setN (kont Pg R Try.f69) (fun e => slices_EqualFunc_69_j2 R)) = (slices_EqualFunc_69_j3 R (e 0) (e 1) (e 2)) := (den_join Pg R 0 (cd Try.f69 [1,1,0]) (cd Try.f69 [1,1,0,1]) e (setN (kont Pg R Try.f69) (fun e => slices_EqualFunc_69_j2 R)) (fun e => slices_EqualFunc_69_j4 R (e 1) (e 2) (e 15) (e 16) (e 17)) _ (by kernel_rfl) (fun e => slices_EqualFunc_69_j4_ok R e) (by kernel_rfl))
def slices_EqualFunc_69_j1 (R : ER) (x0 x1 x2 : Value) : WP :=
  slices_EqualFunc_69_j3 R x0 x1 x2
theorem slices_EqualFunc_69_j1_ok (R : ER) (e : Env) : den Pg R (cd Try.f69 [1,1]) e (kont Pg R Try.f69) = (slices_EqualFunc_69_j1 R (e 0) (e 1) (e 2)) := (den_join Pg R 0 (cd Try.f69 [1,1]) (cd Try.f69 [1,1,1]) e (kont Pg R Try.f69) (fun e => slices_EqualFunc_69_j2 R) _ (by kernel_rfl) (fun e => slices_EqualFunc_69_j2_ok R e) (den_conv Pg R (pre 0 (cd Try.f69 [1,1])) (cd Try.f69 [1,1,0]) e (setN (kont Pg R Try.f69) (fun e => slices_EqualFunc_69_j2 R)) _ (by kernel_rfl) (slices_EqualFunc_69_j3_ok R e)))
def slices_EqualFunc_69 (R : ER) (x0 x1 x2 : Value) : WP :=
  pv (lenS x0) fun v14 =>
  pv (lenS x1) fun v15 =>
  pv (bin .neq v14 v15) fun v16 =>
  cnd v16 (
   R (.returned (.bool false))) (
   slices_EqualFunc_69_j1 R x0 x1 x2)
theorem slices_EqualFunc_69_den (R : ER) (x0 x1 x2 : Value) : den Pg R (cd Try.f69 []) (argsEnv [x0, x1, x2]) (kont Pg R Try.f69) = slices_EqualFunc_69 R x0 x1 x2 :=
  have h : ∀ e, den Pg R (cd Try.f69 []) e (kont Pg R Try.f69) = slices_EqualFunc_69 R (e 0) (e 1) (e 2) := fun e => (den_join Pg R 1 (cd Try.f69 []) (cd Try.f69 [1,1]) e (kont Pg R Try.f69) (fun e => slices_EqualFunc_69_j1 R (e 0) (e 1) (e 2)) _ (by kernel_rfl) (fun e => slices_EqualFunc_69_j1_ok R e) (by kernel_rfl))
  h _
theorem slices_EqualFunc_69_calls {R : ER} {x0 x1 x2 : Value} {w : World} (h : slices_EqualFunc_69 R x0 x1 x2 w) : Calls Pg 69 ⟨[x0, x1, x2]⟩ w R :=
  calls_of_den Try.func69 (by kernel_rfl) (by kernel_rfl) (slices_EqualFunc_69_den R x0 x1 x2) h
/-! ### 70: orpimentlaw35_out_1 -/
def orpimentlaw35_out_1 (R : ER) (x0 x1 : Value) : WP :=
  bx 90 x0 fun v1 =>
  bx 145 x1 fun v2 =>
  pv (faO 0 v1) fun v3 =>
  ld1 v3 fun v4 =>
  pv (faO 0 v2) fun v5 =>
  ld1 v5 fun v6 =>
  pv (bin .eql v4 v6) fun v7 =>
  gd v7 true (pv (faO 1 v1)) fun v8 =>
  gd v7 true (ld1 v8) fun v9 =>
  gd v7 true (pv (faO 1 v2)) fun v10 =>
  gd v7 true (ld1 v10) fun v11 =>
  gd v7 true (cal Pg R 19 ⟨[v9, v11]⟩) fun v12 =>
  pv (pickO v7 v12 (.bool false)) fun v13 =>
  R (.returned v13)
theorem orpimentlaw35_out_1_den (R : ER) (x0 x1 : Value) : den Pg R (cd Try.f70 []) (argsEnv [x0, x1]) (kont Pg R Try.f70) = orpimentlaw35_out_1 R x0 x1 :=
  have h : ∀ e, den Pg R (cd Try.f70 []) e (kont Pg R Try.f70) = orpimentlaw35_out_1 R (e 0) (e 1) := fun e => by kernel_rfl
  h _
theorem orpimentlaw35_out_1_calls {R : ER} {x0 x1 : Value} {w : World} (h : orpimentlaw35_out_1 R x0 x1 w) : Calls Pg 70 ⟨[x0, x1]⟩ w R :=
  calls_of_den Try.func70 (by kernel_rfl) (by kernel_rfl) (orpimentlaw35_out_1_den R x0 x1) h
/-! ### 71: orpimentlaw35_talk_arrive_1 -/
def orpimentlaw35_talk_arrive_1 (R : ER) (x0 x1 : Value) : WP :=
  cal Pg R 19 ⟨[x0, x1]⟩ fun v1 =>
  R (.returned v1)
theorem orpimentlaw35_talk_arrive_1_den (R : ER) (x0 x1 : Value) : den Pg R (cd Try.f71 []) (argsEnv [x0, x1]) (kont Pg R Try.f71) = orpimentlaw35_talk_arrive_1 R x0 x1 :=
  have h : ∀ e, den Pg R (cd Try.f71 []) e (kont Pg R Try.f71) = orpimentlaw35_talk_arrive_1 R (e 0) (e 1) := fun e => by kernel_rfl
  h _
theorem orpimentlaw35_talk_arrive_1_calls {R : ER} {x0 x1 : Value} {w : World} (h : orpimentlaw35_talk_arrive_1 R x0 x1 w) : Calls Pg 71 ⟨[x0, x1]⟩ w R :=
  calls_of_den Try.func71 (by kernel_rfl) (by kernel_rfl) (orpimentlaw35_talk_arrive_1_den R x0 x1) h
/-! ### 72: bits_Mul32 -/
def bits_Mul32 (R : ER) (x0 x1 : Value) : WP :=
  pv (cvI .u64 x0) fun v1 =>
  pv (cvI .u64 x1) fun v2 =>
  pv (bin .mul v1 v2) fun v3 =>
  pv (bin .shr v3 (.int .u64 32)) fun v4 =>
  pv (cvI .u32 v4) fun v5 =>
  pv (cvI .u32 v3) fun v6 =>
  R (.returned (.tuple ⟨[v5, v6]⟩))
theorem bits_Mul32_den (R : ER) (x0 x1 : Value) : den Pg R (cd Try.f72 []) (argsEnv [x0, x1]) (kont Pg R Try.f72) = bits_Mul32 R x0 x1 :=
  have h : ∀ e, den Pg R (cd Try.f72 []) e (kont Pg R Try.f72) = bits_Mul32 R (e 0) (e 1) := fun e => by kernel_rfl
  h _
theorem bits_Mul32_calls {R : ER} {x0 x1 : Value} {w : World} (h : bits_Mul32 R x0 x1 w) : Calls Pg 72 ⟨[x0, x1]⟩ w R :=
  calls_of_den Try.func72 (by kernel_rfl) (by kernel_rfl) (bits_Mul32_den R x0 x1) h
/-! ### 73: bits_Mul64 -/
def bits_Mul64_j3 (R : ER) (x0 x1 x4 : Value) : WP :=
  pv (bin .mul x0 x1) fun v1 =>
  R (.returned (.tuple ⟨[x4, v1]⟩))
theorem bits_Mul64_j3_ok (R : ER) (e : Env) : den Pg R (cd Try.f73 [1,1,1,1,1,1,1,1,1,1,1]) e (kont Pg R Try.f73) = (bits_Mul64_j3 R (e 0) (e 1) (e 4)) := by kernel_rfl
def bits_Mul64_j2 (R : ER) (x0 x1 x6 x7 x9 x11 x12 : Value) : WP :=
  pv (bin .shr x11 (.int .u64 32)) fun v2 =>
  pv (bin .mul x6 x9) fun v3 =>
  pv (bin .add x12 v3) fun v4 =>
  pv (bin .mul x7 x9) fun v5 =>
  pv (bin .add v5 v2) fun v6 =>
  pv (bin .shr v4 (.int .u64 32)) fun v7 =>
  pv (bin .add v6 v7) fun v8 =>
  bits_Mul64_j3 R x0 x1 v8
theorem bits_Mul64_j2_ok (R : ER) (e : Env) : den Pg R (cd Try.f73 [1,1,1,1,1,1,1,1]) e (kont Pg R Try.f73) = (bits_Mul64_j2 R (e 0) (e 1) (e 6) (e 7) (e 9) (e 11) (e 12)) := (den_join Pg R 2 (cd Try.f73 [1,1,1,1,1,1,1,1]) (cd Try.f73 [1,1,1,1,1,1,1,1,1,1,1]) e (kont Pg R Try.f73) (fun e => bits_Mul64_j3 R (e 0) (e 1) (e 4)) _ (by kernel_rfl) (fun e => bits_Mul64_j3_ok R e) (by kernel_rfl))
def bits_Mul64_j1 (R : ER) (x0 x1 x6 x7 x8 x9 : Value) : WP :=
  pv (bin .mul x6 x8) fun v9 =>
  pv (bin .mul x7 x8) fun v10 =>
  pv (bin .shr v9 (.int .u64 32)) fun v11 =>
  pv (bin .add v10 v11) fun v12 =>
  pv (bin .and v12 (.int .u64 4294967295)) fun v13 =>
  bits_Mul64_j2 R x0 x1 x6 x7 x9 v12 v13
theorem bits_Mul64_j1_ok (R : ER) (e : Env) : den Pg R (cd Try.f73 [1,1,1,1,1]) e (kont Pg R Try.f73) = (bits_Mul64_j1 R (e 0) (e 1) (e 6) (e 7) (e 8) (e 9)) := (den_join Pg R 2 (cd Try.f73 [1,1,1,1,1]) (cd Try.f73 [1,1,1,1,1,1,1,1]) e (kont Pg R Try.f73) (fun e => bits_Mul64_j2 R (e 0) (e 1) (e 6) (e 7) (e 9) (e 11) (e 12)) _ (by kernel_rfl) (fun e => bits_Mul64_j2_ok R e) (by kernel_rfl))
def bits_Mul64 (R : ER) (x0 x1 : Value) : WP :=
  pv (bin .and x0 (.int .u64 4294967295)) fun v14 =>
  pv (bin .shr x0 (.int .u64 32)) fun v15 =>
  pv (bin .and x1 (.int .u64 4294967295)) fun v16 =>
  pv (bin .shr x1 (.int .u64 32)) fun v17 =>
  bits_Mul64_j1 R x0 x1 v14 v15 v16 v17
theorem bits_Mul64_den (R : ER) (x0 x1 : Value) : den Pg R (cd Try.f73 []) (argsEnv [x0, x1]) (kont Pg R Try.f73) = bits_Mul64 R x0 x1 :=
  have h : ∀ e, den Pg R (cd Try.f73 []) e (kont Pg R Try.f73) = bits_Mul64 R (e 0) (e 1) := fun e => (den_join Pg R 4 (cd Try.f73 []) (cd Try.f73 [1,1,1,1,1]) e (kont Pg R Try.f73) (fun e => bits_Mul64_j1 R (e 0) (e 1) (e 6) (e 7) (e 8) (e 9)) _ (by kernel_rfl) (fun e => bits_Mul64_j1_ok R e) (by kernel_rfl))
  h _
theorem bits_Mul64_calls {R : ER} {x0 x1 : Value} {w : World} (h : bits_Mul64 R x0 x1 w) : Calls Pg 73 ⟨[x0, x1]⟩ w R :=
  calls_of_den Try.func73 (by kernel_rfl) (by kernel_rfl) (bits_Mul64_den R x0 x1) h
/-! ### 74: orpimentref35_behind -/
def orpimentref35_behind (R : ER) (x0 x1 x2 x3 : Value) : WP :=
  pv (bin .gtr x0 x2) fun v1 =>
  gd v1 false (pv (some x0)) fun v2 =>
  gd v1 false (pv (some x2)) fun v3 =>
  gd v1 false (pv (bin .eql v2 v3)) fun v4 =>
  gd v1 false (pv (some v4)) fun v5 =>
  gd v5 true (pv (some x1)) fun v6 =>
  gd v5 true (pv (some x3)) fun v7 =>
  gd v5 true (pv (bin .gtr v6 v7)) fun v8 =>
  gd v1 false (pv (pickO v5 v8 (.bool false))) fun v9 =>
  pv (pickO v1 (.bool true) v9) fun v10 =>
  R (.returned v10)
theorem orpimentref35_behind_den (R : ER) (x0 x1 x2 x3 : Value) : den Pg R (cd Try.f74 []) (argsEnv [x0, x1, x2, x3]) (kont Pg R Try.f74) = orpimentref35_behind R x0 x1 x2 x3 :=
  have h : ∀ e, den Pg R (cd Try.f74 []) e (kont Pg R Try.f74) = orpimentref35_behind R (e 0) (e 1) (e 2) (e 3) := fun e => by kernel_rfl
  h _
theorem orpimentref35_behind_calls {R : ER} {x0 x1 x2 x3 : Value} {w : World} (h : orpimentref35_behind R x0 x1 x2 x3 w) : Calls Pg 74 ⟨[x0, x1, x2, x3]⟩ w R :=
  calls_of_den Try.func74 (by kernel_rfl) (by kernel_rfl) (orpimentref35_behind_den R x0 x1 x2 x3) h
end Go.Proofs.Ytmnpndgmfmjfhaa.Den
