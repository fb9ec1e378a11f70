/- Printed by a program of this session: what the functions mean, and that the model means just that. Conditions: none. -/
import Derived.Test.YticnobfmpogcoaaDenCode
set_option linter.unusedVariables false
set_option maxRecDepth 100000
namespace Go.Proofs.Yticnobfmpogcoaa.Den
open Go
/-! ### 3: orpimentlaw02_ReadyRotates -/
def orpimentlaw02_ReadyRotates_j3 (R : ER) : WP :=
  cal Pg R 8 ⟨[]⟩ fun v1 =>
  R (.returned v1)
theorem orpimentlaw02_ReadyRotates_j3_ok (R : ER) (e : Env) : den Pg R (cd Go.Proofs.Try.f3 [1, 1, 1, 1, 1, 1, 1, 1, 1]) e (kont Pg R Go.Proofs.Try.f3) = (orpimentlaw02_ReadyRotates_j3 R) := by kernel_rfl
def orpimentlaw02_ReadyRotates_j2 (R : ER) (x1 x5 x6 x9 : Value) : WP :=
  cal Pg R 11 ⟨[x5]⟩ fun v2 =>
  cal Pg R 13 ⟨[v2, x9]⟩ fun v3 =>
  pv (unO .not v3) fun v4 =>
  gd v4 false (pv (some x6)) fun v5 =>
  gd v4 false (pv (bin .eql v5 (.int .i64 0))) fun v6 =>
  gd v4 false (pv (some v6)) fun v7 =>
  gd v7 true (pv (some x5)) fun v8 =>
  gd v7 true (pv (some x1)) fun v9 =>
  gd v7 true (pv (cvI .i64 v9)) fun v10 =>
  gd v7 true (cal Pg R 12 ⟨[v8, v10]⟩) fun v11 =>
  gd v7 true (pv (bin .neq v11 (.int .i64 22))) fun v12 =>
  gd v4 false (pv (pickO v7 v12 (.bool false))) fun v13 =>
  pv (pickO v4 (.bool true) v13) fun v14 =>
  cnd v14 (
   R (.returned (.bool false))) (
   pv (lenS x9) fun v15 =>
  pv (bin .gtr v15 (.int .i64 0)) fun v16 =>
  cnd v16 (
   drewV (
   pv (ixS 1 x9 (.int .i64 0)) fun v17 =>
   ld1 v17 fun v18 =>
   pv (lenS x9) fun v19 =>
   pv (bin .sub v19 (.int .i64 1)) fun v20 =>
   pv (ixS 1 x9 v20) fun v21 =>
   ld1 v21 fun v22 =>
   cal Pg R 14 ⟨[x5, v18]⟩ fun v23 =>
   pv (extO 0 v23) fun v24 =>
   pv (extO 1 v23) fun v25 =>
   cal Pg R 15 ⟨[x5, v18]⟩ fun v26 =>
   pv (bin .neq v26 (.int .i64 0)) fun v27 =>
   gd v27 false (pv (some x5)) fun v28 =>
   gd v27 false (pv (some v18)) fun v29 =>
   gd v27 false (pv (some v24)) fun v30 =>
   gd v27 false (cal Pg R 10 ⟨[v28, v29, v30, (.int .i64 255), (.bool true)]⟩) fun v31 =>
   gd v27 false (pv (bin .neq v31 (.int .i64 0))) fun v32 =>
   pv (pickO v27 (.bool true) v32) fun v33 =>
   gd v33 false (pv (some x5)) fun v34 =>
   gd v33 false (cal Pg R 11 ⟨[v34]⟩) fun v35 =>
   gd v33 false (pv (some x9)) fun v36 =>
   gd v33 false (cal Pg R 13 ⟨[v35, v36]⟩) fun v37 =>
   gd v33 false (pv (unO .not v37)) fun v38 =>
   pv (pickO v33 (.bool true) v38) fun v39 =>
   cnd v39 (
    R (.returned (.bool false))) (
    cal Pg R 14 ⟨[x5, v22]⟩ fun v40 =>
   pv (extO 0 v40) fun v41 =>
   pv (extO 1 v40) fun v42 =>
   cal Pg R 15 ⟨[x5, v22]⟩ fun v43 =>
   pv (bin .neq v43 (.int .i64 0)) fun v44 =>
   gd v44 false (pv (some x5)) fun v45 =>
   gd v44 false (pv (some v22)) fun v46 =>
   gd v44 false (pv (some v41)) fun v47 =>
   gd v44 false (cal Pg R 10 ⟨[v45, v46, v47, (.int .i64 255), (.bool false)]⟩) fun v48 =>
   gd v44 false (pv (bin .neq v48 (.int .i64 0))) fun v49 =>
   pv (pickO v44 (.bool true) v49) fun v50 =>
   gd v50 false (pv (some x5)) fun v51 =>
   gd v50 false (cal Pg R 11 ⟨[v51]⟩) fun v52 =>
   gd v50 false (pv (some x9)) fun v53 =>
   gd v50 false (cal Pg R 13 ⟨[v52, v53]⟩) fun v54 =>
   gd v50 false (pv (unO .not v54)) fun v55 =>
   pv (pickO v50 (.bool true) v55) fun v56 =>
   cnd v56 (
    R (.returned (.bool false))) (
    orpimentlaw02_ReadyRotates_j3 R)))) (
   orpimentlaw02_ReadyRotates_j3 R))
theorem orpimentlaw02_ReadyRotates_j2_ok (R : ER) (e : Env) : den Pg R (cd Go.Proofs.Try.f3 [1, 1, 1, 1, 1, 1, 1]) e (kont Pg R Go.Proofs.Try.f3) = (orpimentlaw02_ReadyRotates_j2 R (e 1) (e 5) (e 6) (e 9)) := (den_join Pg R 1 (cd Go.Proofs.Try.f3 [1, 1, 1, 1, 1, 1, 1]) (cd Go.Proofs.Try.f3 [1, 1, 1, 1, 1, 1, 1, 1, 1]) e (kont Pg R Go.Proofs.Try.f3) (fun e => orpimentlaw02_ReadyRotates_j3 R) _ (by kernel_rfl) (fun e => orpimentlaw02_ReadyRotates_j3_ok R e) (by kernel_rfl))
def orpimentlaw02_ReadyRotates_b6 (R : ER) (k1 : Value → Value → Value → Value → Value → WP) (x1 x5 x6 x9 x10 : Value) : WP :=
  pv (bin .lss x10 x6) fun v57 =>
  cnd v57 (
   pv (cvI .i64 x1) fun v58 =>
  cal Pg R 12 ⟨[x5, v58]⟩ fun v59 =>
  pv (bin .neq v59 (.int .i64 0)) fun v60 =>
  cnd v60 (
   R (.returned (.bool false))) (
   pv (bin .add x10 (.int .i64 1)) fun v61 =>
  k1 x1 x5 x6 x9 v61)) (
   orpimentlaw02_ReadyRotates_j2 R x1 x5 x6 x9)
theorem orpimentlaw02_ReadyRotates_b6_ok (R : ER) (k1 : Value → Value → Value → Value → Value → WP) (e : Env) : den Pg R (cd Go.Proofs.Try.f3 [1, 1, 1, 1, 1, 1, 0, 1, 0, 0]) e (setN (inB 2 (setN (kont Pg R Go.Proofs.Try.f3) (fun e => orpimentlaw02_ReadyRotates_j2 R (e 1) (e 5) (e 6) (e 9)))) (fun e => k1 (e 1) (e 5) (e 6) (e 9) (e 10))) = (orpimentlaw02_ReadyRotates_b6 R k1 (e 1) (e 5) (e 6) (e 9) (e 10)) := by kernel_rfl
noncomputable def orpimentlaw02_ReadyRotates_l7 (R : ER) (n : Nat) : Value → Value → Value → Value → Value → WP := Nat.rec (motive := fun _ => Value → Value → Value → Value → Value → WP) (fun _ _ _ _ _ => fun _ => False) (fun _ ih => fun x1 x5 x6 x9 x10 => orpimentlaw02_ReadyRotates_b6 R ih x1 x5 x6 x9 x10) n
theorem orpimentlaw02_ReadyRotates_l7_succ (R : ER) (n : Nat) (x1 x5 x6 x9 x10 : Value) : orpimentlaw02_ReadyRotates_l7 R (n + 1) x1 x5 x6 x9 x10 = orpimentlaw02_ReadyRotates_b6 R (orpimentlaw02_ReadyRotates_l7 R n) x1 x5 x6 x9 x10 := rfl
theorem orpimentlaw02_ReadyRotates_l7_ok (R : ER) : ∀ (n : Nat) (e : Env), iterL (den Pg R (cd Go.Proofs.Try.f3 [1, 1, 1, 1, 1, 1, 0, 1, 0, 0])) n e (inB 2 (setN (kont Pg R Go.Proofs.Try.f3) (fun e => orpimentlaw02_ReadyRotates_j2 R (e 1) (e 5) (e 6) (e 9)))) = orpimentlaw02_ReadyRotates_l7 R n (e 1) (e 5) (e 6) (e 9) (e 10) :=
  iterL_join (den Pg R (cd Go.Proofs.Try.f3 [1, 1, 1, 1, 1, 1, 0, 1, 0, 0])) (inB 2 (setN (kont Pg R Go.Proofs.Try.f3) (fun e => orpimentlaw02_ReadyRotates_j2 R (e 1) (e 5) (e 6) (e 9)))) (fun n e => orpimentlaw02_ReadyRotates_l7 R n (e 1) (e 5) (e 6) (e 9) (e 10)) (fun _ => rfl) (fun n e => (orpimentlaw02_ReadyRotates_b6_ok R (orpimentlaw02_ReadyRotates_l7 R n) e).trans (orpimentlaw02_ReadyRotates_l7_succ R n (e 1) (e 5) (e 6) (e 9) (e 10)).symm)
def orpimentlaw02_ReadyRotates_j5 (R : ER) (x1 x5 x6 x9 x10 : Value) : WP :=
  exN fun n => orpimentlaw02_ReadyRotates_l7 R n x1 x5 x6 x9 x10
theorem orpimentlaw02_ReadyRotates_j5_ok (R : ER) (e : Env) : den Pg R (cd Go.Proofs.Try.f3 [1, 1, 1, 1, 1, 1, 0, 1]) e (setN (kont Pg R Go.Proofs.Try.f3) (fun e => orpimentlaw02_ReadyRotates_j2 R (e 1) (e 5) (e 6) (e 9))) = (orpimentlaw02_ReadyRotates_j5 R (e 1) (e 5) (e 6) (e 9) (e 10)) := (den_block Pg R (cd Go.Proofs.Try.f3 [1, 1, 1, 1, 1, 1, 0, 1]) 2 (cd Go.Proofs.Try.f3 [1, 1, 1, 1, 1, 1, 0, 1, 0]) e (setN (kont Pg R Go.Proofs.Try.f3) (fun e => orpimentlaw02_ReadyRotates_j2 R (e 1) (e 5) (e 6) (e 9))) _ (by kernel_rfl) (den_loop Pg R (cd Go.Proofs.Try.f3 [1, 1, 1, 1, 1, 1, 0, 1, 0]) (cd Go.Proofs.Try.f3 [1, 1, 1, 1, 1, 1, 0, 1, 0, 0]) e (inB 2 (setN (kont Pg R Go.Proofs.Try.f3) (fun e => orpimentlaw02_ReadyRotates_j2 R (e 1) (e 5) (e 6) (e 9)))) (fun n e => orpimentlaw02_ReadyRotates_l7 R n (e 1) (e 5) (e 6) (e 9) (e 10)) _ (by kernel_rfl) (orpimentlaw02_ReadyRotates_l7_ok R) (by kernel_rfl)))
def orpimentlaw02_ReadyRotates_j4 (R : ER) (x1 x5 x6 x9 : Value) : WP :=
  orpimentlaw02_ReadyRotates_j5 R x1 x5 x6 x9 (.int .i64 0)
theorem orpimentlaw02_ReadyRotates_j4_ok (R : ER) (e : Env) : den Pg R (cd Go.Proofs.Try.f3 [1, 1, 1, 1, 1, 1, 0]) e (setN (kont Pg R Go.Proofs.Try.f3) (fun e => orpimentlaw02_ReadyRotates_j2 R (e 1) (e 5) (e 6) (e 9))) = (orpimentlaw02_ReadyRotates_j4 R (e 1) (e 5) (e 6) (e 9)) := (den_join Pg R 0 (cd Go.Proofs.Try.f3 [1, 1, 1, 1, 1, 1, 0]) (cd Go.Proofs.Try.f3 [1, 1, 1, 1, 1, 1, 0, 1]) e (setN (kont Pg R Go.Proofs.Try.f3) (fun e => orpimentlaw02_ReadyRotates_j2 R (e 1) (e 5) (e 6) (e 9))) (fun e => orpimentlaw02_ReadyRotates_j5 R (e 1) (e 5) (e 6) (e 9) (e 10)) _ (by kernel_rfl) (fun e => orpimentlaw02_ReadyRotates_j5_ok R e) (by kernel_rfl))
def orpimentlaw02_ReadyRotates_j1 (R : ER) (x1 x5 x6 : Value) : WP :=
  cal Pg R 11 ⟨[x5]⟩ fun v62 =>
  orpimentlaw02_ReadyRotates_j4 R x1 x5 x6 v62
theorem orpimentlaw02_ReadyRotates_j1_ok (R : ER) (e : Env) : den Pg R (cd Go.Proofs.Try.f3 [1, 1, 1, 1, 1]) e (kont Pg R Go.Proofs.Try.f3) = (orpimentlaw02_ReadyRotates_j1 R (e 1) (e 5) (e 6)) := (den_join Pg R 1 (cd Go.Proofs.Try.f3 [1, 1, 1, 1, 1]) (cd Go.Proofs.Try.f3 [1, 1, 1, 1, 1, 1, 1]) e (kont Pg R Go.Proofs.Try.f3) (fun e => orpimentlaw02_ReadyRotates_j2 R (e 1) (e 5) (e 6) (e 9)) _ (by kernel_rfl) (fun e => orpimentlaw02_ReadyRotates_j2_ok R e) (den_join Pg R 0 (pre 1 (cd Go.Proofs.Try.f3 [1, 1, 1, 1, 1])) (cd Go.Proofs.Try.f3 [1, 1, 1, 1, 1, 1, 0]) e (setN (kont Pg R Go.Proofs.Try.f3) (fun e => orpimentlaw02_ReadyRotates_j2 R (e 1) (e 5) (e 6) (e 9))) (fun e => orpimentlaw02_ReadyRotates_j4 R (e 1) (e 5) (e 6) (e 9)) _ (by kernel_rfl) (fun e => orpimentlaw02_ReadyRotates_j4_ok R e) (by kernel_rfl)))
def orpimentlaw02_ReadyRotates_j11 (R : ER) (k1 : Value → Value → Value → Value → Value → WP) (x0 x1 x5 x6 x7 : Value) : WP :=
  pv (bin .add x7 (.int .i64 1)) fun v63 =>
  k1 x0 x1 x5 x6 v63
theorem orpimentlaw02_ReadyRotates_j11_ok (R : ER) (k1 : Value → Value → Value → Value → Value → WP) (e : Env) : den Pg R (cd Go.Proofs.Try.f3 [1, 1, 1, 1, 0, 1, 0, 0, 1, 1]) e (setN (inB 0 (setN (kont Pg R Go.Proofs.Try.f3) (fun e => orpimentlaw02_ReadyRotates_j1 R (e 1) (e 5) (e 6)))) (fun e => k1 (e 0) (e 1) (e 5) (e 6) (e 7))) = (orpimentlaw02_ReadyRotates_j11 R k1 (e 0) (e 1) (e 5) (e 6) (e 7)) := by kernel_rfl
def orpimentlaw02_ReadyRotates_b10 (R : ER) (k1 : Value → Value → Value → Value → Value → WP) (x0 x1 x5 x6 x7 : Value) : WP :=
  pv (lenS x0) fun v64 =>
  pv (bin .lss x7 v64) fun v65 =>
  cnd v65 (
   pv (ixS 6 x0 x7) fun v66 =>
  ldN 6 v66 fun v67 =>
  al Pg 27 fun v68 =>
  stN 6 v68 v67 fun _ =>
  pv (faO 1 v68) fun v69 =>
  ld1 v69 fun v70 =>
  pv (faO 2 v68) fun v71 =>
  ld1 v71 fun v72 =>
  pv (faO 5 v68) fun v73 =>
  ld1 v73 fun v74 =>
  cal Pg R 10 ⟨[x5, v70, v72, (.int .i64 255), v74]⟩ fun v75 =>
  pv (bin .eql v75 (.int .i64 0)) fun v76 =>
  gd v76 true (pv (faO 2 v68)) fun v77 =>
  gd v76 true (ld1 v77) fun v78 =>
  gd v76 true (pv (some x1)) fun v79 =>
  gd v76 true (pv (cvI .i64 v79)) fun v80 =>
  gd v76 true (pv (bin .eql v78 v80)) fun v81 =>
  pv (pickO v76 v81 (.bool false)) fun v82 =>
  cnd v82 (
   pv (bin .add x6 (.int .i64 1)) fun v83 =>
   orpimentlaw02_ReadyRotates_j11 R k1 x0 x1 x5 v83 x7) (
   orpimentlaw02_ReadyRotates_j11 R k1 x0 x1 x5 x6 x7)) (
   orpimentlaw02_ReadyRotates_j1 R x1 x5 x6)
theorem orpimentlaw02_ReadyRotates_b10_ok (R : ER) (k1 : Value → Value → Value → Value → Value → WP) (e : Env) : den Pg R (cd Go.Proofs.Try.f3 [1, 1, 1, 1, 0, 1, 0, 0]) e (setN (inB 0 (setN (kont Pg R Go.Proofs.Try.f3) (fun e => orpimentlaw02_ReadyRotates_j1 R (e 1) (e 5) (e 6)))) (fun e => k1 (e 0) (e 1) (e 5) (e 6) (e 7))) = (orpimentlaw02_ReadyRotates_b10 R k1 (e 0) (e 1) (e 5) (e 6) (e 7)) := (den_join Pg R 1 (cd Go.Proofs.Try.f3 [1, 1, 1, 1, 0, 1, 0, 0]) (cd Go.Proofs.Try.f3 [1, 1, 1, 1, 0, 1, 0, 0, 1, 1]) e (setN (inB 0 (setN (kont Pg R Go.Proofs.Try.f3) (fun e => orpimentlaw02_ReadyRotates_j1 R (e 1) (e 5) (e 6)))) (fun e => k1 (e 0) (e 1) (e 5) (e 6) (e 7))) (fun e => orpimentlaw02_ReadyRotates_j11 R k1 (e 0) (e 1) (e 5) (e 6) (e 7)) _ (by kernel_rfl) (fun e => orpimentlaw02_ReadyRotates_j11_ok R k1 e) (by kernel_rfl))
noncomputable def orpimentlaw02_ReadyRotates_l12 (R : ER) (n : Nat) : Value → Value → Value → Value → Value → WP := Nat.rec (motive := fun _ => Value → Value → Value → Value → Value → WP) (fun _ _ _ _ _ => fun _ => False) (fun _ ih => fun x0 x1 x5 x6 x7 => orpimentlaw02_ReadyRotates_b10 R ih x0 x1 x5 x6 x7) n
theorem orpimentlaw02_ReadyRotates_l12_succ (R : ER) (n : Nat) (x0 x1 x5 x6 x7 : Value) : orpimentlaw02_ReadyRotates_l12 R (n + 1) x0 x1 x5 x6 x7 = orpimentlaw02_ReadyRotates_b10 R (orpimentlaw02_ReadyRotates_l12 R n) x0 x1 x5 x6 x7 := rfl
theorem orpimentlaw02_ReadyRotates_l12_ok (R : ER) : ∀ (n : Nat) (e : Env), iterL (den Pg R (cd Go.Proofs.Try.f3 [1, 1, 1, 1, 0, 1, 0, 0])) n e (inB 0 (setN (kont Pg R Go.Proofs.Try.f3) (fun e => orpimentlaw02_ReadyRotates_j1 R (e 1) (e 5) (e 6)))) = orpimentlaw02_ReadyRotates_l12 R n (e 0) (e 1) (e 5) (e 6) (e 7) :=
  iterL_join (den Pg R (cd Go.Proofs.Try.f3 [1, 1, 1, 1, 0, 1, 0, 0])) (inB 0 (setN (kont Pg R Go.Proofs.Try.f3) (fun e => orpimentlaw02_ReadyRotates_j1 R (e 1) (e 5) (e 6)))) (fun n e => orpimentlaw02_ReadyRotates_l12 R n (e 0) (e 1) (e 5) (e 6) (e 7)) (fun _ => rfl) (fun n e => (orpimentlaw02_ReadyRotates_b10_ok R (orpimentlaw02_ReadyRotates_l12 R n) e).trans (orpimentlaw02_ReadyRotates_l12_succ R n (e 0) (e 1) (e 5) (e 6) (e 7)).symm)
def orpimentlaw02_ReadyRotates_j9 (R : ER) (x0 x1 x5 x6 x7 : Value) : WP :=
  exN fun n => orpimentlaw02_ReadyRotates_l12 R n x0 x1 x5 x6 x7
theorem orpimentlaw02_ReadyRotates_j9_ok (R : ER) (e : Env) : den Pg R (cd Go.Proofs.Try.f3 [1, 1, 1, 1, 0, 1]) e (setN (kont Pg R Go.Proofs.Try.f3) (fun e => orpimentlaw02_ReadyRotates_j1 R (e 1) (e 5) (e 6))) = (orpimentlaw02_ReadyRotates_j9 R (e 0) (e 1) (e 5) (e 6) (e 7)) := (den_block Pg R (cd Go.Proofs.Try.f3 [1, 1, 1, 1, 0, 1]) 0 (cd Go.Proofs.Try.f3 [1, 1, 1, 1, 0, 1, 0]) e (setN (kont Pg R Go.Proofs.Try.f3) (fun e => orpimentlaw02_ReadyRotates_j1 R (e 1) (e 5) (e 6))) _ (by kernel_rfl) (den_loop Pg R (cd Go.Proofs.Try.f3 [1, 1, 1, 1, 0, 1, 0]) (cd Go.Proofs.Try.f3 [1, 1, 1, 1, 0, 1, 0, 0]) e (inB 0 (setN (kont Pg R Go.Proofs.Try.f3) (fun e => orpimentlaw02_ReadyRotates_j1 R (e 1) (e 5) (e 6)))) (fun n e => orpimentlaw02_ReadyRotates_l12 R n (e 0) (e 1) (e 5) (e 6) (e 7)) _ (by kernel_rfl) (orpimentlaw02_ReadyRotates_l12_ok R) (by kernel_rfl)))
def orpimentlaw02_ReadyRotates_j8 (R : ER) (x0 x1 x5 x6 : Value) : WP :=
  orpimentlaw02_ReadyRotates_j9 R x0 x1 x5 x6 (.int .i64 0)
theorem orpimentlaw02_ReadyRotates_j8_ok (R : ER) (e : Env) : den Pg R (cd Go.Proofs.Try.f3 [1, 1, 1, 1, 0]) e (setN (kont Pg R Go.Proofs.Try.f3) (fun e => orpimentlaw02_ReadyRotates_j1 R (e 1) (e 5) (e 6))) = (orpimentlaw02_ReadyRotates_j8 R (e 0) (e 1) (e 5) (e 6)) := (den_join Pg R 0 (cd Go.Proofs.Try.f3 [1, 1, 1, 1, 0]) (cd Go.Proofs.Try.f3 [1, 1, 1, 1, 0, 1]) e (setN (kont Pg R Go.Proofs.Try.f3) (fun e => orpimentlaw02_ReadyRotates_j1 R (e 1) (e 5) (e 6))) (fun e => orpimentlaw02_ReadyRotates_j9 R (e 0) (e 1) (e 5) (e 6) (e 7)) _ (by kernel_rfl) (fun e => orpimentlaw02_ReadyRotates_j9_ok R e) (by kernel_rfl))
def orpimentlaw02_ReadyRotates (R : ER) (x0 x1 : Value) : WP :=
  pv (lenS x0) fun v84 =>
  pv (bin .gtr v84 (.int .i64 60)) fun v85 =>
  cnd v85 (
   cal Pg R 8 ⟨[]⟩ fun v86 =>
   R (.returned v86)) (
   cal Pg R 9 ⟨[]⟩ fun v87 =>
  orpimentlaw02_ReadyRotates_j8 R x0 x1 v87 (.int .i64 0))
theorem orpimentlaw02_ReadyRotates_den (R : ER) (x0 x1 : Value) : den Pg R (cd Go.Proofs.Try.f3 []) (argsEnv [x0, x1]) (kont Pg R Go.Proofs.Try.f3) = orpimentlaw02_ReadyRotates R x0 x1 :=
  have h : ∀ e, den Pg R (cd Go.Proofs.Try.f3 []) e (kont Pg R Go.Proofs.Try.f3) = orpimentlaw02_ReadyRotates R (e 0) (e 1) := fun e => (den_join Pg R 4 (cd Go.Proofs.Try.f3 []) (cd Go.Proofs.Try.f3 [1, 1, 1, 1, 1]) e (kont Pg R Go.Proofs.Try.f3) (fun e => orpimentlaw02_ReadyRotates_j1 R (e 1) (e 5) (e 6)) _ (by kernel_rfl) (fun e => orpimentlaw02_ReadyRotates_j1_ok R e) (den_join Pg R 3 (pre 4 (cd Go.Proofs.Try.f3 [])) (cd Go.Proofs.Try.f3 [1, 1, 1, 1, 0]) e (setN (kont Pg R Go.Proofs.Try.f3) (fun e => orpimentlaw02_ReadyRotates_j1 R (e 1) (e 5) (e 6))) (fun e => orpimentlaw02_ReadyRotates_j8 R (e 0) (e 1) (e 5) (e 6)) _ (by kernel_rfl) (fun e => orpimentlaw02_ReadyRotates_j8_ok R e) (by kernel_rfl)))
  h _
theorem orpimentlaw02_ReadyRotates_calls {R : ER} {x0 x1 : Value} {w : World} (h : orpimentlaw02_ReadyRotates R x0 x1 w) : Calls Pg 3 ⟨[x0, x1]⟩ w R :=
  calls_of_den Go.Proofs.Try.func3 (by kernel_rfl) (by kernel_rfl) (orpimentlaw02_ReadyRotates_den R x0 x1) h
/-! ### 4: orpimentlaw02_ReadyTakes -/
def orpimentlaw02_ReadyTakes_j2 (R : ER) (x1 x5 : Value) : WP :=
  pv (bin .rem x1 (.int .u8 8)) fun v1 =>
  pv (cvI .i64 v1) fun v2 =>
  cal Pg R 16 ⟨[x5, v2]⟩ fun v3 =>
  pv (extO 0 v3) fun v4 =>
  pv (extO 1 v3) fun v5 =>
  pv (bin .eql v5 (.int .i64 22)) fun v6 =>
  gd v6 true (pv (some x5)) fun v7 =>
  gd v6 true (cal Pg R 18 ⟨[v7]⟩) fun v8 =>
  gd v6 true (pv (bin .eql v8 (.int .i64 0))) fun v9 =>
  pv (pickO v6 v9 (.bool false)) fun v10 =>
  gd v10 true (pv (some x5)) fun v11 =>
  gd v10 true (cal Pg R 17 ⟨[v11]⟩) fun v12 =>
  gd v10 true (pv (bin .eql v12 (.int .i64 (-1)))) fun v13 =>
  pv (pickO v10 v13 (.bool false)) fun v14 =>
  gd v14 true (cal Pg R 8 ⟨[]⟩) fun v15 =>
  pv (pickO v14 v15 (.bool false)) fun v16 =>
  R (.returned v16)
theorem orpimentlaw02_ReadyTakes_j2_ok (R : ER) (e : Env) : den Pg R (cd Go.Proofs.Try.f4 [1, 1, 1, 1, 1, 1]) e (kont Pg R Go.Proofs.Try.f4) = (orpimentlaw02_ReadyTakes_j2 R (e 1) (e 5)) := by kernel_rfl
def orpimentlaw02_ReadyTakes_b5 (R : ER) (k1 : Value → Value → Value → Value → WP) (x1 x5 x7 x8 : Value) : WP :=
  pv (lenS x7) fun v17 =>
  pv (bin .lss x8 v17) fun v18 =>
  cnd v18 (
   pv (ixS 1 x7 x8) fun v19 =>
  ld1 v19 fun v20 =>
  cal Pg R 14 ⟨[x5, v20]⟩ fun v21 =>
  pv (extO 0 v21) fun v22 =>
  pv (extO 1 v21) fun v23 =>
  pv (bin .rem x1 (.int .u8 8)) fun v24 =>
  pv (cvI .i64 v24) fun v25 =>
  cal Pg R 16 ⟨[x5, v25]⟩ fun v26 =>
  pv (extO 0 v26) fun v27 =>
  pv (extO 1 v26) fun v28 =>
  pv (bin .neq v23 (.int .i64 0)) fun v29 =>
  gd v29 false (pv (some v28)) fun v30 =>
  gd v29 false (pv (bin .neq v30 (.int .i64 0))) fun v31 =>
  pv (pickO v29 (.bool true) v31) fun v32 =>
  gd v32 false (pv (some v27)) fun v33 =>
  gd v32 false (pv (some x7)) fun v34 =>
  gd v32 false (pv (some x8)) fun v35 =>
  gd v32 false (pv (ixS 1 v34 v35)) fun v36 =>
  gd v32 false (ld1 v36) fun v37 =>
  gd v32 false (pv (bin .neq v33 v37)) fun v38 =>
  pv (pickO v32 (.bool true) v38) fun v39 =>
  gd v39 false (pv (some x8)) fun v40 =>
  gd v39 false (pv (bin .add v40 (.int .i64 1))) fun v41 =>
  gd v39 false (pv (some x7)) fun v42 =>
  gd v39 false (pv (lenS v42)) fun v43 =>
  gd v39 false (pv (bin .lss v41 v43)) fun v44 =>
  gd v39 false (pv (some v44)) fun v45 =>
  gd v45 true (pv (some x5)) fun v46 =>
  gd v45 true (cal Pg R 17 ⟨[v46]⟩) fun v47 =>
  gd v45 true (pv (some v22)) fun v48 =>
  gd v45 true (pv (bin .gtr v47 v48)) fun v49 =>
  gd v39 false (pv (pickO v45 v49 (.bool false))) fun v50 =>
  pv (pickO v39 (.bool true) v50) fun v51 =>
  cnd v51 (
   R (.returned (.bool false))) (
   pv (bin .add x8 (.int .i64 1)) fun v52 =>
  k1 x1 x5 x7 v52)) (
   orpimentlaw02_ReadyTakes_j2 R x1 x5)
theorem orpimentlaw02_ReadyTakes_b5_ok (R : ER) (k1 : Value → Value → Value → Value → WP) (e : Env) : den Pg R (cd Go.Proofs.Try.f4 [1, 1, 1, 1, 1, 0, 1, 0, 0]) e (setN (inB 2 (setN (kont Pg R Go.Proofs.Try.f4) (fun e => orpimentlaw02_ReadyTakes_j2 R (e 1) (e 5)))) (fun e => k1 (e 1) (e 5) (e 7) (e 8))) = (orpimentlaw02_ReadyTakes_b5 R k1 (e 1) (e 5) (e 7) (e 8)) := by kernel_rfl
noncomputable def orpimentlaw02_ReadyTakes_l6 (R : ER) (n : Nat) : Value → Value → Value → Value → WP := Nat.rec (motive := fun _ => Value → Value → Value → Value → WP) (fun _ _ _ _ => fun _ => False) (fun _ ih => fun x1 x5 x7 x8 => orpimentlaw02_ReadyTakes_b5 R ih x1 x5 x7 x8) n
theorem orpimentlaw02_ReadyTakes_l6_succ (R : ER) (n : Nat) (x1 x5 x7 x8 : Value) : orpimentlaw02_ReadyTakes_l6 R (n + 1) x1 x5 x7 x8 = orpimentlaw02_ReadyTakes_b5 R (orpimentlaw02_ReadyTakes_l6 R n) x1 x5 x7 x8 := rfl
theorem orpimentlaw02_ReadyTakes_l6_ok (R : ER) : ∀ (n : Nat) (e : Env), iterL (den Pg R (cd Go.Proofs.Try.f4 [1, 1, 1, 1, 1, 0, 1, 0, 0])) n e (inB 2 (setN (kont Pg R Go.Proofs.Try.f4) (fun e => orpimentlaw02_ReadyTakes_j2 R (e 1) (e 5)))) = orpimentlaw02_ReadyTakes_l6 R n (e 1) (e 5) (e 7) (e 8) :=
  iterL_join (den Pg R (cd Go.Proofs.Try.f4 [1, 1, 1, 1, 1, 0, 1, 0, 0])) (inB 2 (setN (kont Pg R Go.Proofs.Try.f4) (fun e => orpimentlaw02_ReadyTakes_j2 R (e 1) (e 5)))) (fun n e => orpimentlaw02_ReadyTakes_l6 R n (e 1) (e 5) (e 7) (e 8)) (fun _ => rfl) (fun n e => (orpimentlaw02_ReadyTakes_b5_ok R (orpimentlaw02_ReadyTakes_l6 R n) e).trans (orpimentlaw02_ReadyTakes_l6_succ R n (e 1) (e 5) (e 7) (e 8)).symm)
def orpimentlaw02_ReadyTakes_j4 (R : ER) (x1 x5 x7 x8 : Value) : WP :=
  exN fun n => orpimentlaw02_ReadyTakes_l6 R n x1 x5 x7 x8
theorem orpimentlaw02_ReadyTakes_j4_ok (R : ER) (e : Env) : den Pg R (cd Go.Proofs.Try.f4 [1, 1, 1, 1, 1, 0, 1]) e (setN (kont Pg R Go.Proofs.Try.f4) (fun e => orpimentlaw02_ReadyTakes_j2 R (e 1) (e 5))) = (orpimentlaw02_ReadyTakes_j4 R (e 1) (e 5) (e 7) (e 8)) := (den_block Pg R (cd Go.Proofs.Try.f4 [1, 1, 1, 1, 1, 0, 1]) 2 (cd Go.Proofs.Try.f4 [1, 1, 1, 1, 1, 0, 1, 0]) e (setN (kont Pg R Go.Proofs.Try.f4) (fun e => orpimentlaw02_ReadyTakes_j2 R (e 1) (e 5))) _ (by kernel_rfl) (den_loop Pg R (cd Go.Proofs.Try.f4 [1, 1, 1, 1, 1, 0, 1, 0]) (cd Go.Proofs.Try.f4 [1, 1, 1, 1, 1, 0, 1, 0, 0]) e (inB 2 (setN (kont Pg R Go.Proofs.Try.f4) (fun e => orpimentlaw02_ReadyTakes_j2 R (e 1) (e 5)))) (fun n e => orpimentlaw02_ReadyTakes_l6 R n (e 1) (e 5) (e 7) (e 8)) _ (by kernel_rfl) (orpimentlaw02_ReadyTakes_l6_ok R) (by kernel_rfl)))
def orpimentlaw02_ReadyTakes_j3 (R : ER) (x1 x5 x7 : Value) : WP :=
  orpimentlaw02_ReadyTakes_j4 R x1 x5 x7 (.int .i64 0)
theorem orpimentlaw02_ReadyTakes_j3_ok (R : ER) (e : Env) : den Pg R (cd Go.Proofs.Try.f4 [1, 1, 1, 1, 1, 0]) e (setN (kont Pg R Go.Proofs.Try.f4) (fun e => orpimentlaw02_ReadyTakes_j2 R (e 1) (e 5))) = (orpimentlaw02_ReadyTakes_j3 R (e 1) (e 5) (e 7)) := (den_join Pg R 0 (cd Go.Proofs.Try.f4 [1, 1, 1, 1, 1, 0]) (cd Go.Proofs.Try.f4 [1, 1, 1, 1, 1, 0, 1]) e (setN (kont Pg R Go.Proofs.Try.f4) (fun e => orpimentlaw02_ReadyTakes_j2 R (e 1) (e 5))) (fun e => orpimentlaw02_ReadyTakes_j4 R (e 1) (e 5) (e 7) (e 8)) _ (by kernel_rfl) (fun e => orpimentlaw02_ReadyTakes_j4_ok R e) (by kernel_rfl))
def orpimentlaw02_ReadyTakes_j1 (R : ER) (x1 x5 : Value) : WP :=
  cal Pg R 11 ⟨[x5]⟩ fun v53 =>
  orpimentlaw02_ReadyTakes_j3 R x1 x5 v53
theorem orpimentlaw02_ReadyTakes_j1_ok (R : ER) (e : Env) : den Pg R (cd Go.Proofs.Try.f4 [1, 1, 1, 1]) e (kont Pg R Go.Proofs.Try.f4) = (orpimentlaw02_ReadyTakes_j1 R (e 1) (e 5)) := (den_join Pg R 1 (cd Go.Proofs.Try.f4 [1, 1, 1, 1]) (cd Go.Proofs.Try.f4 [1, 1, 1, 1, 1, 1]) e (kont Pg R Go.Proofs.Try.f4) (fun e => orpimentlaw02_ReadyTakes_j2 R (e 1) (e 5)) _ (by kernel_rfl) (fun e => orpimentlaw02_ReadyTakes_j2_ok R e) (den_join Pg R 0 (pre 1 (cd Go.Proofs.Try.f4 [1, 1, 1, 1])) (cd Go.Proofs.Try.f4 [1, 1, 1, 1, 1, 0]) e (setN (kont Pg R Go.Proofs.Try.f4) (fun e => orpimentlaw02_ReadyTakes_j2 R (e 1) (e 5))) (fun e => orpimentlaw02_ReadyTakes_j3 R (e 1) (e 5) (e 7)) _ (by kernel_rfl) (fun e => orpimentlaw02_ReadyTakes_j3_ok R e) (by kernel_rfl)))
def orpimentlaw02_ReadyTakes_b9 (R : ER) (k1 : Value → Value → Value → Value → WP) (x0 x1 x5 x6 : Value) : WP :=
  pv (lenS x0) fun v54 =>
  pv (bin .lss x6 v54) fun v55 =>
  cnd v55 (
   drewV (
  pv (ixS 6 x0 x6) fun v56 =>
  pv (faO 1 v56) fun v57 =>
  ld1 v57 fun v58 =>
  pv (ixS 6 x0 x6) fun v59 =>
  pv (faO 2 v59) fun v60 =>
  ld1 v60 fun v61 =>
  pv (ixS 6 x0 x6) fun v62 =>
  pv (faO 5 v62) fun v63 =>
  ld1 v63 fun v64 =>
  mem fun w65 => cal Pg noR 10 ⟨[x5, v58, v61, (.int .i64 255), v64]⟩ fun v66 =>
  pv (bin .add x6 (.int .i64 1)) fun v67 =>
  k1 x0 x1 x5 v67)) (
   orpimentlaw02_ReadyTakes_j1 R x1 x5)
theorem orpimentlaw02_ReadyTakes_b9_ok (R : ER) (k1 : Value → Value → Value → Value → WP) (e : Env) : den Pg R (cd Go.Proofs.Try.f4 [1, 1, 1, 0, 1, 0, 0]) e (setN (inB 0 (setN (kont Pg R Go.Proofs.Try.f4) (fun e => orpimentlaw02_ReadyTakes_j1 R (e 1) (e 5)))) (fun e => k1 (e 0) (e 1) (e 5) (e 6))) = (orpimentlaw02_ReadyTakes_b9 R k1 (e 0) (e 1) (e 5) (e 6)) := by kernel_rfl
noncomputable def orpimentlaw02_ReadyTakes_l10 (R : ER) (n : Nat) : Value → Value → Value → Value → WP := Nat.rec (motive := fun _ => Value → Value → Value → Value → WP) (fun _ _ _ _ => fun _ => False) (fun _ ih => fun x0 x1 x5 x6 => orpimentlaw02_ReadyTakes_b9 R ih x0 x1 x5 x6) n
theorem orpimentlaw02_ReadyTakes_l10_succ (R : ER) (n : Nat) (x0 x1 x5 x6 : Value) : orpimentlaw02_ReadyTakes_l10 R (n + 1) x0 x1 x5 x6 = orpimentlaw02_ReadyTakes_b9 R (orpimentlaw02_ReadyTakes_l10 R n) x0 x1 x5 x6 := rfl
theorem orpimentlaw02_ReadyTakes_l10_ok (R : ER) : ∀ (n : Nat) (e : Env), iterL (den Pg R (cd Go.Proofs.Try.f4 [1, 1, 1, 0, 1, 0, 0])) n e (inB 0 (setN (kont Pg R Go.Proofs.Try.f4) (fun e => orpimentlaw02_ReadyTakes_j1 R (e 1) (e 5)))) = orpimentlaw02_ReadyTakes_l10 R n (e 0) (e 1) (e 5) (e 6) :=
  iterL_join (den Pg R (cd Go.Proofs.Try.f4 [1, 1, 1, 0, 1, 0, 0])) (inB 0 (setN (kont Pg R Go.Proofs.Try.f4) (fun e => orpimentlaw02_ReadyTakes_j1 R (e 1) (e 5)))) (fun n e => orpimentlaw02_ReadyTakes_l10 R n (e 0) (e 1) (e 5) (e 6)) (fun _ => rfl) (fun n e => (orpimentlaw02_ReadyTakes_b9_ok R (orpimentlaw02_ReadyTakes_l10 R n) e).trans (orpimentlaw02_ReadyTakes_l10_succ R n (e 0) (e 1) (e 5) (e 6)).symm)
def orpimentlaw02_ReadyTakes_j8 (R : ER) (x0 x1 x5 x6 : Value) : WP :=
  exN fun n => orpimentlaw02_ReadyTakes_l10 R n x0 x1 x5 x6
theorem orpimentlaw02_ReadyTakes_j8_ok (R : ER) (e : Env) : den Pg R (cd Go.Proofs.Try.f4 [1, 1, 1, 0, 1]) e (setN (kont Pg R Go.Proofs.Try.f4) (fun e => orpimentlaw02_ReadyTakes_j1 R (e 1) (e 5))) = (orpimentlaw02_ReadyTakes_j8 R (e 0) (e 1) (e 5) (e 6)) := (den_block Pg R (cd Go.Proofs.Try.f4 [1, 1, 1, 0, 1]) 0 (cd Go.Proofs.Try.f4 [1, 1, 1, 0, 1, 0]) e (setN (kont Pg R Go.Proofs.Try.f4) (fun e => orpimentlaw02_ReadyTakes_j1 R (e 1) (e 5))) _ (by kernel_rfl) (den_loop Pg R (cd Go.Proofs.Try.f4 [1, 1, 1, 0, 1, 0]) (cd Go.Proofs.Try.f4 [1, 1, 1, 0, 1, 0, 0]) e (inB 0 (setN (kont Pg R Go.Proofs.Try.f4) (fun e => orpimentlaw02_ReadyTakes_j1 R (e 1) (e 5)))) (fun n e => orpimentlaw02_ReadyTakes_l10 R n (e 0) (e 1) (e 5) (e 6)) _ (by kernel_rfl) (orpimentlaw02_ReadyTakes_l10_ok R) (by kernel_rfl)))
def orpimentlaw02_ReadyTakes_j7 (R : ER) (x0 x1 x5 : Value) : WP :=
  orpimentlaw02_ReadyTakes_j8 R x0 x1 x5 (.int .i64 0)
theorem orpimentlaw02_ReadyTakes_j7_ok (R : ER) (e : Env) : den Pg R (cd Go.Proofs.Try.f4 [1, 1, 1, 0]) e (setN (kont Pg R Go.Proofs.Try.f4) (fun e => orpimentlaw02_ReadyTakes_j1 R (e 1) (e 5))) = (orpimentlaw02_ReadyTakes_j7 R (e 0) (e 1) (e 5)) := (den_join Pg R 0 (cd Go.Proofs.Try.f4 [1, 1, 1, 0]) (cd Go.Proofs.Try.f4 [1, 1, 1, 0, 1]) e (setN (kont Pg R Go.Proofs.Try.f4) (fun e => orpimentlaw02_ReadyTakes_j1 R (e 1) (e 5))) (fun e => orpimentlaw02_ReadyTakes_j8 R (e 0) (e 1) (e 5) (e 6)) _ (by kernel_rfl) (fun e => orpimentlaw02_ReadyTakes_j8_ok R e) (by kernel_rfl))
def orpimentlaw02_ReadyTakes (R : ER) (x0 x1 : Value) : WP :=
  pv (lenS x0) fun v68 =>
  pv (bin .gtr v68 (.int .i64 60)) fun v69 =>
  cnd v69 (
   cal Pg R 8 ⟨[]⟩ fun v70 =>
   R (.returned v70)) (
   cal Pg R 9 ⟨[]⟩ fun v71 =>
  orpimentlaw02_ReadyTakes_j7 R x0 x1 v71)
theorem orpimentlaw02_ReadyTakes_den (R : ER) (x0 x1 : Value) : den Pg R (cd Go.Proofs.Try.f4 []) (argsEnv [x0, x1]) (kont Pg R Go.Proofs.Try.f4) = orpimentlaw02_ReadyTakes R x0 x1 :=
  have h : ∀ e, den Pg R (cd Go.Proofs.Try.f4 []) e (kont Pg R Go.Proofs.Try.f4) = orpimentlaw02_ReadyTakes R (e 0) (e 1) := fun e => (den_join Pg R 3 (cd Go.Proofs.Try.f4 []) (cd Go.Proofs.Try.f4 [1, 1, 1, 1]) e (kont Pg R Go.Proofs.Try.f4) (fun e => orpimentlaw02_ReadyTakes_j1 R (e 1) (e 5)) _ (by kernel_rfl) (fun e => orpimentlaw02_ReadyTakes_j1_ok R e) (den_join Pg R 2 (pre 3 (cd Go.Proofs.Try.f4 [])) (cd Go.Proofs.Try.f4 [1, 1, 1, 0]) e (setN (kont Pg R Go.Proofs.Try.f4) (fun e => orpimentlaw02_ReadyTakes_j1 R (e 1) (e 5))) (fun e => orpimentlaw02_ReadyTakes_j7 R (e 0) (e 1) (e 5)) _ (by kernel_rfl) (fun e => orpimentlaw02_ReadyTakes_j7_ok R e) (by kernel_rfl)))
  h _
theorem orpimentlaw02_ReadyTakes_calls {R : ER} {x0 x1 : Value} {w : World} (h : orpimentlaw02_ReadyTakes R x0 x1 w) : Calls Pg 4 ⟨[x0, x1]⟩ w R :=
  calls_of_den Go.Proofs.Try.func4 (by kernel_rfl) (by kernel_rfl) (orpimentlaw02_ReadyTakes_den R x0 x1) h
/-! ### 5: orpimentlaw02_ReadyFIFO -/
def orpimentlaw02_ReadyFIFO_j2 (R : ER) (x6 x9 : Value) : WP :=
  cal Pg R 13 ⟨[x9, x6]⟩ fun v1 =>
  gd v1 true (cal Pg R 8 ⟨[]⟩) fun v2 =>
  pv (pickO v1 v2 (.bool false)) fun v3 =>
  R (.returned v3)
theorem orpimentlaw02_ReadyFIFO_j2_ok (R : ER) (e : Env) : den Pg R (cd Go.Proofs.Try.f5 [1, 1, 1, 1, 1, 1, 1]) e (kont Pg R Go.Proofs.Try.f5) = (orpimentlaw02_ReadyFIFO_j2 R (e 6) (e 9)) := by kernel_rfl
def orpimentlaw02_ReadyFIFO_j6 (R : ER) (k1 : Value → Value → Value → Value → Value → WP) (x1 x5 x6 x9 x10 : Value) : WP :=
  pv (bin .sub x10 (.int .i64 1)) fun v4 =>
  k1 x1 x5 x6 x9 v4
theorem orpimentlaw02_ReadyFIFO_j6_ok (R : ER) (k1 : Value → Value → Value → Value → Value → WP) (e : Env) : den Pg R (cd Go.Proofs.Try.f5 [1, 1, 1, 1, 1, 1, 0, 1, 0, 0, 1, 1]) e (setN (inB 2 (setN (kont Pg R Go.Proofs.Try.f5) (fun e => orpimentlaw02_ReadyFIFO_j2 R (e 6) (e 9)))) (fun e => k1 (e 1) (e 5) (e 6) (e 9) (e 10))) = (orpimentlaw02_ReadyFIFO_j6 R k1 (e 1) (e 5) (e 6) (e 9) (e 10)) := by kernel_rfl
def orpimentlaw02_ReadyFIFO_b5 (R : ER) (k1 : Value → Value → Value → Value → Value → WP) (x1 x5 x6 x9 x10 : Value) : WP :=
  pv (bin .gtr x10 (.int .i64 0)) fun v5 =>
  cnd v5 (
   cal Pg R 19 ⟨[x5, (.int .i64 0)]⟩ fun v6 =>
  pv (extO 0 v6) fun v7 =>
  pv (extO 1 v6) fun v8 =>
  cal Pg R 14 ⟨[x5, v7]⟩ fun v9 =>
  pv (extO 0 v9) fun v10 =>
  pv (extO 1 v9) fun v11 =>
  cal Pg R 16 ⟨[x5, (.int .i64 0)]⟩ fun v12 =>
  pv (extO 0 v12) fun v13 =>
  pv (extO 1 v12) fun v14 =>
  pv (bin .neq v14 (.int .i64 0)) fun v15 =>
  cnd v15 (
   R (.returned (.bool false))) (
   pv (cvI .i64 x1) fun v16 =>
  pv (bin .eql v10 v16) fun v17 =>
  cnd v17 (
   valV Pg R (Instr.buildSlice 30 1 ⟨[(0, v7)]⟩) fun v18 =>
   blt Pg R .append ⟨[30, 30]⟩ 30 ⟨[false, false]⟩ ⟨[x9, v18]⟩ fun v19 =>
   orpimentlaw02_ReadyFIFO_j6 R k1 x1 x5 x6 v19 x10) (
   orpimentlaw02_ReadyFIFO_j6 R k1 x1 x5 x6 x9 x10))) (
   orpimentlaw02_ReadyFIFO_j2 R x6 x9)
theorem orpimentlaw02_ReadyFIFO_b5_ok (R : ER) (k1 : Value → Value → Value → Value → Value → WP) (e : Env) : den Pg R (cd Go.Proofs.Try.f5 [1, 1, 1, 1, 1, 1, 0, 1, 0, 0]) e (setN (inB 2 (setN (kont Pg R Go.Proofs.Try.f5) (fun e => orpimentlaw02_ReadyFIFO_j2 R (e 6) (e 9)))) (fun e => k1 (e 1) (e 5) (e 6) (e 9) (e 10))) = (orpimentlaw02_ReadyFIFO_b5 R k1 (e 1) (e 5) (e 6) (e 9) (e 10)) := (den_join Pg R 1 (cd Go.Proofs.Try.f5 [1, 1, 1, 1, 1, 1, 0, 1, 0, 0]) (cd Go.Proofs.Try.f5 [1, 1, 1, 1, 1, 1, 0, 1, 0, 0, 1, 1]) e (setN (inB 2 (setN (kont Pg R Go.Proofs.Try.f5) (fun e => orpimentlaw02_ReadyFIFO_j2 R (e 6) (e 9)))) (fun e => k1 (e 1) (e 5) (e 6) (e 9) (e 10))) (fun e => orpimentlaw02_ReadyFIFO_j6 R k1 (e 1) (e 5) (e 6) (e 9) (e 10)) _ (by kernel_rfl) (fun e => orpimentlaw02_ReadyFIFO_j6_ok R k1 e) (by kernel_rfl))
noncomputable def orpimentlaw02_ReadyFIFO_l7 (R : ER) (n : Nat) : Value → Value → Value → Value → Value → WP := Nat.rec (motive := fun _ => Value → Value → Value → Value → Value → WP) (fun _ _ _ _ _ => fun _ => False) (fun _ ih => fun x1 x5 x6 x9 x10 => orpimentlaw02_ReadyFIFO_b5 R ih x1 x5 x6 x9 x10) n
theorem orpimentlaw02_ReadyFIFO_l7_succ (R : ER) (n : Nat) (x1 x5 x6 x9 x10 : Value) : orpimentlaw02_ReadyFIFO_l7 R (n + 1) x1 x5 x6 x9 x10 = orpimentlaw02_ReadyFIFO_b5 R (orpimentlaw02_ReadyFIFO_l7 R n) x1 x5 x6 x9 x10 := rfl
theorem orpimentlaw02_ReadyFIFO_l7_ok (R : ER) : ∀ (n : Nat) (e : Env), iterL (den Pg R (cd Go.Proofs.Try.f5 [1, 1, 1, 1, 1, 1, 0, 1, 0, 0])) n e (inB 2 (setN (kont Pg R Go.Proofs.Try.f5) (fun e => orpimentlaw02_ReadyFIFO_j2 R (e 6) (e 9)))) = orpimentlaw02_ReadyFIFO_l7 R n (e 1) (e 5) (e 6) (e 9) (e 10) :=
  iterL_join (den Pg R (cd Go.Proofs.Try.f5 [1, 1, 1, 1, 1, 1, 0, 1, 0, 0])) (inB 2 (setN (kont Pg R Go.Proofs.Try.f5) (fun e => orpimentlaw02_ReadyFIFO_j2 R (e 6) (e 9)))) (fun n e => orpimentlaw02_ReadyFIFO_l7 R n (e 1) (e 5) (e 6) (e 9) (e 10)) (fun _ => rfl) (fun n e => (orpimentlaw02_ReadyFIFO_b5_ok R (orpimentlaw02_ReadyFIFO_l7 R n) e).trans (orpimentlaw02_ReadyFIFO_l7_succ R n (e 1) (e 5) (e 6) (e 9) (e 10)).symm)
def orpimentlaw02_ReadyFIFO_j4 (R : ER) (x1 x5 x6 x9 x10 : Value) : WP :=
  exN fun n => orpimentlaw02_ReadyFIFO_l7 R n x1 x5 x6 x9 x10
theorem orpimentlaw02_ReadyFIFO_j4_ok (R : ER) (e : Env) : den Pg R (cd Go.Proofs.Try.f5 [1, 1, 1, 1, 1, 1, 0, 1]) e (setN (kont Pg R Go.Proofs.Try.f5) (fun e => orpimentlaw02_ReadyFIFO_j2 R (e 6) (e 9))) = (orpimentlaw02_ReadyFIFO_j4 R (e 1) (e 5) (e 6) (e 9) (e 10)) := (den_block Pg R (cd Go.Proofs.Try.f5 [1, 1, 1, 1, 1, 1, 0, 1]) 2 (cd Go.Proofs.Try.f5 [1, 1, 1, 1, 1, 1, 0, 1, 0]) e (setN (kont Pg R Go.Proofs.Try.f5) (fun e => orpimentlaw02_ReadyFIFO_j2 R (e 6) (e 9))) _ (by kernel_rfl) (den_loop Pg R (cd Go.Proofs.Try.f5 [1, 1, 1, 1, 1, 1, 0, 1, 0]) (cd Go.Proofs.Try.f5 [1, 1, 1, 1, 1, 1, 0, 1, 0, 0]) e (inB 2 (setN (kont Pg R Go.Proofs.Try.f5) (fun e => orpimentlaw02_ReadyFIFO_j2 R (e 6) (e 9)))) (fun n e => orpimentlaw02_ReadyFIFO_l7 R n (e 1) (e 5) (e 6) (e 9) (e 10)) _ (by kernel_rfl) (orpimentlaw02_ReadyFIFO_l7_ok R) (by kernel_rfl)))
def orpimentlaw02_ReadyFIFO_j3 (R : ER) (x1 x5 x6 x9 : Value) : WP :=
  cal Pg R 18 ⟨[x5]⟩ fun v20 =>
  orpimentlaw02_ReadyFIFO_j4 R x1 x5 x6 x9 v20
theorem orpimentlaw02_ReadyFIFO_j3_ok (R : ER) (e : Env) : den Pg R (cd Go.Proofs.Try.f5 [1, 1, 1, 1, 1, 1, 0]) e (setN (kont Pg R Go.Proofs.Try.f5) (fun e => orpimentlaw02_ReadyFIFO_j2 R (e 6) (e 9))) = (orpimentlaw02_ReadyFIFO_j3 R (e 1) (e 5) (e 6) (e 9)) := (den_join Pg R 0 (cd Go.Proofs.Try.f5 [1, 1, 1, 1, 1, 1, 0]) (cd Go.Proofs.Try.f5 [1, 1, 1, 1, 1, 1, 0, 1]) e (setN (kont Pg R Go.Proofs.Try.f5) (fun e => orpimentlaw02_ReadyFIFO_j2 R (e 6) (e 9))) (fun e => orpimentlaw02_ReadyFIFO_j4 R (e 1) (e 5) (e 6) (e 9) (e 10)) _ (by kernel_rfl) (fun e => orpimentlaw02_ReadyFIFO_j4_ok R e) (by kernel_rfl))
def orpimentlaw02_ReadyFIFO_j1 (R : ER) (x1 x5 x6 : Value) : WP :=
  orpimentlaw02_ReadyFIFO_j3 R x1 x5 x6 (.slice none 0 0)
theorem orpimentlaw02_ReadyFIFO_j1_ok (R : ER) (e : Env) : den Pg R (cd Go.Proofs.Try.f5 [1, 1, 1, 1, 1]) e (kont Pg R Go.Proofs.Try.f5) = (orpimentlaw02_ReadyFIFO_j1 R (e 1) (e 5) (e 6)) := (den_join Pg R 1 (cd Go.Proofs.Try.f5 [1, 1, 1, 1, 1]) (cd Go.Proofs.Try.f5 [1, 1, 1, 1, 1, 1, 1]) e (kont Pg R Go.Proofs.Try.f5) (fun e => orpimentlaw02_ReadyFIFO_j2 R (e 6) (e 9)) _ (by kernel_rfl) (fun e => orpimentlaw02_ReadyFIFO_j2_ok R e) (den_join Pg R 0 (pre 1 (cd Go.Proofs.Try.f5 [1, 1, 1, 1, 1])) (cd Go.Proofs.Try.f5 [1, 1, 1, 1, 1, 1, 0]) e (setN (kont Pg R Go.Proofs.Try.f5) (fun e => orpimentlaw02_ReadyFIFO_j2 R (e 6) (e 9))) (fun e => orpimentlaw02_ReadyFIFO_j3 R (e 1) (e 5) (e 6) (e 9)) _ (by kernel_rfl) (fun e => orpimentlaw02_ReadyFIFO_j3_ok R e) (by kernel_rfl)))
def orpimentlaw02_ReadyFIFO_j11 (R : ER) (k1 : Value → Value → Value → Value → Value → WP) (x0 x1 x5 x6 x7 : Value) : WP :=
  pv (bin .add x7 (.int .i64 1)) fun v21 =>
  k1 x0 x1 x5 x6 v21
theorem orpimentlaw02_ReadyFIFO_j11_ok (R : ER) (k1 : Value → Value → Value → Value → Value → WP) (e : Env) : den Pg R (cd Go.Proofs.Try.f5 [1, 1, 1, 1, 0, 1, 0, 0, 1, 1]) e (setN (inB 0 (setN (kont Pg R Go.Proofs.Try.f5) (fun e => orpimentlaw02_ReadyFIFO_j1 R (e 1) (e 5) (e 6)))) (fun e => k1 (e 0) (e 1) (e 5) (e 6) (e 7))) = (orpimentlaw02_ReadyFIFO_j11 R k1 (e 0) (e 1) (e 5) (e 6) (e 7)) := by kernel_rfl
def orpimentlaw02_ReadyFIFO_b10 (R : ER) (k1 : Value → Value → Value → Value → Value → WP) (x0 x1 x5 x6 x7 : Value) : WP :=
  pv (lenS x0) fun v22 =>
  pv (bin .lss x7 v22) fun v23 =>
  cnd v23 (
   pv (ixS 6 x0 x7) fun v24 =>
  ldN 6 v24 fun v25 =>
  al Pg 27 fun v26 =>
  stN 6 v26 v25 fun _ =>
  pv (faO 0 v26) fun v27 =>
  ld1 v27 fun v28 =>
  pv (bin .rem v28 (.int .u8 2)) fun v29 =>
  pv (bin .eql v29 (.int .u8 0)) fun v30 =>
  cnd v30 (
   pv (faO 1 v26) fun v31 =>
   ld1 v31 fun v32 =>
   pv (cvI .i64 x1) fun v33 =>
   cal Pg R 10 ⟨[x5, v32, v33, (.int .i64 255), (.bool false)]⟩ fun v34 =>
   pv (bin .eql v34 (.int .i64 0)) fun v35 =>
   cnd v35 (
    pv (faO 1 v26) fun v36 =>
    ld1 v36 fun v37 =>
    valV Pg R (Instr.buildSlice 30 1 ⟨[(0, v37)]⟩) fun v38 =>
    blt Pg R .append ⟨[30, 30]⟩ 30 ⟨[false, false]⟩ ⟨[x6, v38]⟩ fun v39 =>
    orpimentlaw02_ReadyFIFO_j11 R k1 x0 x1 x5 v39 x7) (
    orpimentlaw02_ReadyFIFO_j11 R k1 x0 x1 x5 x6 x7)) (
   pv (faO 2 v26) fun v40 =>
   ld1 v40 fun v41 =>
   pv (cvI .i64 x1) fun v42 =>
   pv (bin .neq v41 v42) fun v43 =>
   cnd v43 (
    pv (faO 1 v26) fun v44 =>
    ld1 v44 fun v45 =>
    pv (faO 2 v26) fun v46 =>
    ld1 v46 fun v47 =>
    pv (faO 5 v26) fun v48 =>
    ld1 v48 fun v49 =>
    cal Pg R 10 ⟨[x5, v45, v47, (.int .i64 255), v49]⟩ fun v50 =>
    orpimentlaw02_ReadyFIFO_j11 R k1 x0 x1 x5 x6 x7) (
    orpimentlaw02_ReadyFIFO_j11 R k1 x0 x1 x5 x6 x7))) (
   orpimentlaw02_ReadyFIFO_j1 R x1 x5 x6)
theorem orpimentlaw02_ReadyFIFO_b10_ok (R : ER) (k1 : Value → Value → Value → Value → Value → WP) (e : Env) : den Pg R (cd Go.Proofs.Try.f5 [1, 1, 1, 1, 0, 1, 0, 0]) e (setN (inB 0 (setN (kont Pg R Go.Proofs.Try.f5) (fun e => orpimentlaw02_ReadyFIFO_j1 R (e 1) (e 5) (e 6)))) (fun e => k1 (e 0) (e 1) (e 5) (e 6) (e 7))) = (orpimentlaw02_ReadyFIFO_b10 R k1 (e 0) (e 1) (e 5) (e 6) (e 7)) := (den_join Pg R 1 (cd Go.Proofs.Try.f5 [1, 1, 1, 1, 0, 1, 0, 0]) (cd Go.Proofs.Try.f5 [1, 1, 1, 1, 0, 1, 0, 0, 1, 1]) e (setN (inB 0 (setN (kont Pg R Go.Proofs.Try.f5) (fun e => orpimentlaw02_ReadyFIFO_j1 R (e 1) (e 5) (e 6)))) (fun e => k1 (e 0) (e 1) (e 5) (e 6) (e 7))) (fun e => orpimentlaw02_ReadyFIFO_j11 R k1 (e 0) (e 1) (e 5) (e 6) (e 7)) _ (by kernel_rfl) (fun e => orpimentlaw02_ReadyFIFO_j11_ok R k1 e) (by kernel_rfl))
noncomputable def orpimentlaw02_ReadyFIFO_l12 (R : ER) (n : Nat) : Value → Value → Value → Value → Value → WP := Nat.rec (motive := fun _ => Value → Value → Value → Value → Value → WP) (fun _ _ _ _ _ => fun _ => False) (fun _ ih => fun x0 x1 x5 x6 x7 => orpimentlaw02_ReadyFIFO_b10 R ih x0 x1 x5 x6 x7) n
theorem orpimentlaw02_ReadyFIFO_l12_succ (R : ER) (n : Nat) (x0 x1 x5 x6 x7 : Value) : orpimentlaw02_ReadyFIFO_l12 R (n + 1) x0 x1 x5 x6 x7 = orpimentlaw02_ReadyFIFO_b10 R (orpimentlaw02_ReadyFIFO_l12 R n) x0 x1 x5 x6 x7 := rfl
theorem orpimentlaw02_ReadyFIFO_l12_ok (R : ER) : ∀ (n : Nat) (e : Env), iterL (den Pg R (cd Go.Proofs.Try.f5 [1, 1, 1, 1, 0, 1, 0, 0])) n e (inB 0 (setN (kont Pg R Go.Proofs.Try.f5) (fun e => orpimentlaw02_ReadyFIFO_j1 R (e 1) (e 5) (e 6)))) = orpimentlaw02_ReadyFIFO_l12 R n (e 0) (e 1) (e 5) (e 6) (e 7) :=
  iterL_join (den Pg R (cd Go.Proofs.Try.f5 [1, 1, 1, 1, 0, 1, 0, 0])) (inB 0 (setN (kont Pg R Go.Proofs.Try.f5) (fun e => orpimentlaw02_ReadyFIFO_j1 R (e 1) (e 5) (e 6)))) (fun n e => orpimentlaw02_ReadyFIFO_l12 R n (e 0) (e 1) (e 5) (e 6) (e 7)) (fun _ => rfl) (fun n e => (orpimentlaw02_ReadyFIFO_b10_ok R (orpimentlaw02_ReadyFIFO_l12 R n) e).trans (orpimentlaw02_ReadyFIFO_l12_succ R n (e 0) (e 1) (e 5) (e 6) (e 7)).symm)
def orpimentlaw02_ReadyFIFO_j9 (R : ER) (x0 x1 x5 x6 x7 : Value) : WP :=
  exN fun n => orpimentlaw02_ReadyFIFO_l12 R n x0 x1 x5 x6 x7
theorem orpimentlaw02_ReadyFIFO_j9_ok (R : ER) (e : Env) : den Pg R (cd Go.Proofs.Try.f5 [1, 1, 1, 1, 0, 1]) e (setN (kont Pg R Go.Proofs.Try.f5) (fun e => orpimentlaw02_ReadyFIFO_j1 R (e 1) (e 5) (e 6))) = (orpimentlaw02_ReadyFIFO_j9 R (e 0) (e 1) (e 5) (e 6) (e 7)) := (den_block Pg R (cd Go.Proofs.Try.f5 [1, 1, 1, 1, 0, 1]) 0 (cd Go.Proofs.Try.f5 [1, 1, 1, 1, 0, 1, 0]) e (setN (kont Pg R Go.Proofs.Try.f5) (fun e => orpimentlaw02_ReadyFIFO_j1 R (e 1) (e 5) (e 6))) _ (by kernel_rfl) (den_loop Pg R (cd Go.Proofs.Try.f5 [1, 1, 1, 1, 0, 1, 0]) (cd Go.Proofs.Try.f5 [1, 1, 1, 1, 0, 1, 0, 0]) e (inB 0 (setN (kont Pg R Go.Proofs.Try.f5) (fun e => orpimentlaw02_ReadyFIFO_j1 R (e 1) (e 5) (e 6)))) (fun n e => orpimentlaw02_ReadyFIFO_l12 R n (e 0) (e 1) (e 5) (e 6) (e 7)) _ (by kernel_rfl) (orpimentlaw02_ReadyFIFO_l12_ok R) (by kernel_rfl)))
def orpimentlaw02_ReadyFIFO_j8 (R : ER) (x0 x1 x5 x6 : Value) : WP :=
  orpimentlaw02_ReadyFIFO_j9 R x0 x1 x5 x6 (.int .i64 0)
theorem orpimentlaw02_ReadyFIFO_j8_ok (R : ER) (e : Env) : den Pg R (cd Go.Proofs.Try.f5 [1, 1, 1, 1, 0]) e (setN (kont Pg R Go.Proofs.Try.f5) (fun e => orpimentlaw02_ReadyFIFO_j1 R (e 1) (e 5) (e 6))) = (orpimentlaw02_ReadyFIFO_j8 R (e 0) (e 1) (e 5) (e 6)) := (den_join Pg R 0 (cd Go.Proofs.Try.f5 [1, 1, 1, 1, 0]) (cd Go.Proofs.Try.f5 [1, 1, 1, 1, 0, 1]) e (setN (kont Pg R Go.Proofs.Try.f5) (fun e => orpimentlaw02_ReadyFIFO_j1 R (e 1) (e 5) (e 6))) (fun e => orpimentlaw02_ReadyFIFO_j9 R (e 0) (e 1) (e 5) (e 6) (e 7)) _ (by kernel_rfl) (fun e => orpimentlaw02_ReadyFIFO_j9_ok R e) (by kernel_rfl))
def orpimentlaw02_ReadyFIFO (R : ER) (x0 x1 : Value) : WP :=
  pv (lenS x0) fun v51 =>
  pv (bin .gtr v51 (.int .i64 60)) fun v52 =>
  cnd v52 (
   cal Pg R 8 ⟨[]⟩ fun v53 =>
   R (.returned v53)) (
   cal Pg R 9 ⟨[]⟩ fun v54 =>
  orpimentlaw02_ReadyFIFO_j8 R x0 x1 v54 (.slice none 0 0))
theorem orpimentlaw02_ReadyFIFO_den (R : ER) (x0 x1 : Value) : den Pg R (cd Go.Proofs.Try.f5 []) (argsEnv [x0, x1]) (kont Pg R Go.Proofs.Try.f5) = orpimentlaw02_ReadyFIFO R x0 x1 :=
  have h : ∀ e, den Pg R (cd Go.Proofs.Try.f5 []) e (kont Pg R Go.Proofs.Try.f5) = orpimentlaw02_ReadyFIFO R (e 0) (e 1) := fun e => (den_join Pg R 4 (cd Go.Proofs.Try.f5 []) (cd Go.Proofs.Try.f5 [1, 1, 1, 1, 1]) e (kont Pg R Go.Proofs.Try.f5) (fun e => orpimentlaw02_ReadyFIFO_j1 R (e 1) (e 5) (e 6)) _ (by kernel_rfl) (fun e => orpimentlaw02_ReadyFIFO_j1_ok R e) (den_join Pg R 3 (pre 4 (cd Go.Proofs.Try.f5 [])) (cd Go.Proofs.Try.f5 [1, 1, 1, 1, 0]) e (setN (kont Pg R Go.Proofs.Try.f5) (fun e => orpimentlaw02_ReadyFIFO_j1 R (e 1) (e 5) (e 6))) (fun e => orpimentlaw02_ReadyFIFO_j8 R (e 0) (e 1) (e 5) (e 6)) _ (by kernel_rfl) (fun e => orpimentlaw02_ReadyFIFO_j8_ok R e) (by kernel_rfl)))
  h _
theorem orpimentlaw02_ReadyFIFO_calls {R : ER} {x0 x1 : Value} {w : World} (h : orpimentlaw02_ReadyFIFO R x0 x1 w) : Calls Pg 5 ⟨[x0, x1]⟩ w R :=
  calls_of_den Go.Proofs.Try.func5 (by kernel_rfl) (by kernel_rfl) (orpimentlaw02_ReadyFIFO_den R x0 x1) h
/-! ### 6: orpimentlaw02_ReadyPlays -/
def orpimentlaw02_ReadyPlays_j1 (R : ER) : WP :=
  cal Pg R 8 ⟨[]⟩ fun v1 =>
  R (.returned v1)
theorem orpimentlaw02_ReadyPlays_j1_ok (R : ER) (e : Env) : den Pg R (cd Go.Proofs.Try.f6 [1, 1, 1, 1]) e (kont Pg R Go.Proofs.Try.f6) = (orpimentlaw02_ReadyPlays_j1 R) := by kernel_rfl
def orpimentlaw02_ReadyPlays_b4 (R : ER) (k1 : Value → Value → Value → Value → WP) (x0 x3 x4 x5 : Value) : WP :=
  pv (lenS x0) fun v2 =>
  pv (bin .lss x5 v2) fun v3 =>
  cnd v3 (
   drewV (
  pv (ixS 6 x0 x5) fun v4 =>
  ldN 6 v4 fun v5 =>
  mem fun w6 => cal Pg noR 20 ⟨[x3, x4, v5]⟩ fun v7 =>
  pv (unO .not v7) fun v8 =>
  gd v8 false (pv (some x3)) fun v9 =>
  mem fun w10 => gd v8 false (cal Pg noR 11 ⟨[v9]⟩) fun v11 =>
  gd v8 false (pv (some x4)) fun v12 =>
  mem fun w13 => gd v8 false (cal Pg noR 21 ⟨[v12]⟩) fun v14 =>
  mem fun w15 => gd v8 false (cal Pg noR 13 ⟨[v11, v14]⟩) fun v16 =>
  gd v8 false (pv (unO .not v16)) fun v17 =>
  pv (pickO v8 (.bool true) v17) fun v18 =>
  gd v18 false (pv (some x3)) fun v19 =>
  mem fun w20 => gd v18 false (cal Pg noR 18 ⟨[v19]⟩) fun v21 =>
  gd v18 false (pv (some x4)) fun v22 =>
  gd v18 false (pv (nilO v22)) fun v23 =>
  gd v18 false (pv (faO 0 v23)) fun v24 =>
  gd v18 false (ld1S [w20] v24) fun v25 =>
  gd v18 false (pv (lenS v25)) fun v26 =>
  gd v18 false (pv (bin .neq v21 v26)) fun v27 =>
  pv (pickO v18 (.bool true) v27) fun v28 =>
  gd v28 false (pv (some x3)) fun v29 =>
  mem fun w30 => gd v28 false (cal Pg noR 17 ⟨[v29]⟩) fun v31 =>
  gd v28 false (pv (some x4)) fun v32 =>
  mem fun w33 => gd v28 false (cal Pg noR 22 ⟨[v32]⟩) fun v34 =>
  gd v28 false (pv (bin .neq v31 v34)) fun v35 =>
  pv (pickO v28 (.bool true) v35) fun v36 =>
  cnd v36 (
   R (.returned (.bool false))) (
   pv (bin .add x5 (.int .i64 1)) fun v37 =>
  k1 x0 x3 x4 v37))) (
   orpimentlaw02_ReadyPlays_j1 R)
theorem orpimentlaw02_ReadyPlays_b4_ok (R : ER) (k1 : Value → Value → Value → Value → WP) (e : Env) : den Pg R (cd Go.Proofs.Try.f6 [1, 1, 1, 0, 1, 0, 0]) e (setN (inB 0 (setN (kont Pg R Go.Proofs.Try.f6) (fun e => orpimentlaw02_ReadyPlays_j1 R))) (fun e => k1 (e 0) (e 3) (e 4) (e 5))) = (orpimentlaw02_ReadyPlays_b4 R k1 (e 0) (e 3) (e 4) (e 5)) := by kernel_rfl
noncomputable def orpimentlaw02_ReadyPlays_l5 (R : ER) (n : Nat) : Value → Value → Value → Value → WP := Nat.rec (motive := fun _ => Value → Value → Value → Value → WP) (fun _ _ _ _ => fun _ => False) (fun _ ih => fun x0 x3 x4 x5 => orpimentlaw02_ReadyPlays_b4 R ih x0 x3 x4 x5) n
theorem orpimentlaw02_ReadyPlays_l5_succ (R : ER) (n : Nat) (x0 x3 x4 x5 : Value) : orpimentlaw02_ReadyPlays_l5 R (n + 1) x0 x3 x4 x5 = orpimentlaw02_ReadyPlays_b4 R (orpimentlaw02_ReadyPlays_l5 R n) x0 x3 x4 x5 := rfl
theorem orpimentlaw02_ReadyPlays_l5_ok (R : ER) : ∀ (n : Nat) (e : Env), iterL (den Pg R (cd Go.Proofs.Try.f6 [1, 1, 1, 0, 1, 0, 0])) n e (inB 0 (setN (kont Pg R Go.Proofs.Try.f6) (fun e => orpimentlaw02_ReadyPlays_j1 R))) = orpimentlaw02_ReadyPlays_l5 R n (e 0) (e 3) (e 4) (e 5) :=
  iterL_join (den Pg R (cd Go.Proofs.Try.f6 [1, 1, 1, 0, 1, 0, 0])) (inB 0 (setN (kont Pg R Go.Proofs.Try.f6) (fun e => orpimentlaw02_ReadyPlays_j1 R))) (fun n e => orpimentlaw02_ReadyPlays_l5 R n (e 0) (e 3) (e 4) (e 5)) (fun _ => rfl) (fun n e => (orpimentlaw02_ReadyPlays_b4_ok R (orpimentlaw02_ReadyPlays_l5 R n) e).trans (orpimentlaw02_ReadyPlays_l5_succ R n (e 0) (e 3) (e 4) (e 5)).symm)
def orpimentlaw02_ReadyPlays_j3 (R : ER) (x0 x3 x4 x5 : Value) : WP :=
  exN fun n => orpimentlaw02_ReadyPlays_l5 R n x0 x3 x4 x5
theorem orpimentlaw02_ReadyPlays_j3_ok (R : ER) (e : Env) : den Pg R (cd Go.Proofs.Try.f6 [1, 1, 1, 0, 1]) e (setN (kont Pg R Go.Proofs.Try.f6) (fun e => orpimentlaw02_ReadyPlays_j1 R)) = (orpimentlaw02_ReadyPlays_j3 R (e 0) (e 3) (e 4) (e 5)) := (den_block Pg R (cd Go.Proofs.Try.f6 [1, 1, 1, 0, 1]) 0 (cd Go.Proofs.Try.f6 [1, 1, 1, 0, 1, 0]) e (setN (kont Pg R Go.Proofs.Try.f6) (fun e => orpimentlaw02_ReadyPlays_j1 R)) _ (by kernel_rfl) (den_loop Pg R (cd Go.Proofs.Try.f6 [1, 1, 1, 0, 1, 0]) (cd Go.Proofs.Try.f6 [1, 1, 1, 0, 1, 0, 0]) e (inB 0 (setN (kont Pg R Go.Proofs.Try.f6) (fun e => orpimentlaw02_ReadyPlays_j1 R))) (fun n e => orpimentlaw02_ReadyPlays_l5 R n (e 0) (e 3) (e 4) (e 5)) _ (by kernel_rfl) (orpimentlaw02_ReadyPlays_l5_ok R) (by kernel_rfl)))
def orpimentlaw02_ReadyPlays_j2 (R : ER) (x0 x3 x4 : Value) : WP :=
  orpimentlaw02_ReadyPlays_j3 R x0 x3 x4 (.int .i64 0)
theorem orpimentlaw02_ReadyPlays_j2_ok (R : ER) (e : Env) : den Pg R (cd Go.Proofs.Try.f6 [1, 1, 1, 0]) e (setN (kont Pg R Go.Proofs.Try.f6) (fun e => orpimentlaw02_ReadyPlays_j1 R)) = (orpimentlaw02_ReadyPlays_j2 R (e 0) (e 3) (e 4)) := (den_join Pg R 0 (cd Go.Proofs.Try.f6 [1, 1, 1, 0]) (cd Go.Proofs.Try.f6 [1, 1, 1, 0, 1]) e (setN (kont Pg R Go.Proofs.Try.f6) (fun e => orpimentlaw02_ReadyPlays_j1 R)) (fun e => orpimentlaw02_ReadyPlays_j3 R (e 0) (e 3) (e 4) (e 5)) _ (by kernel_rfl) (fun e => orpimentlaw02_ReadyPlays_j3_ok R e) (by kernel_rfl))
def orpimentlaw02_ReadyPlays (R : ER) (x0 : Value) : WP :=
  pv (lenS x0) fun v38 =>
  pv (bin .gtr v38 (.int .i64 60)) fun v39 =>
  cnd v39 (
   cal Pg R 8 ⟨[]⟩ fun v40 =>
   R (.returned v40)) (
   cal Pg R 9 ⟨[]⟩ fun v41 =>
  pv (bldO [.slice none 0 0] []) fun v42 =>
  bx 41 v42 fun v43 =>
  orpimentlaw02_ReadyPlays_j2 R x0 v41 v43)
theorem orpimentlaw02_ReadyPlays_den (R : ER) (x0 : Value) : den Pg R (cd Go.Proofs.Try.f6 []) (argsEnv [x0]) (kont Pg R Go.Proofs.Try.f6) = orpimentlaw02_ReadyPlays R x0 :=
  have h : ∀ e, den Pg R (cd Go.Proofs.Try.f6 []) e (kont Pg R Go.Proofs.Try.f6) = orpimentlaw02_ReadyPlays R (e 0) := fun e => (den_join Pg R 3 (cd Go.Proofs.Try.f6 []) (cd Go.Proofs.Try.f6 [1, 1, 1, 1]) e (kont Pg R Go.Proofs.Try.f6) (fun e => orpimentlaw02_ReadyPlays_j1 R) _ (by kernel_rfl) (fun e => orpimentlaw02_ReadyPlays_j1_ok R e) (den_join Pg R 2 (pre 3 (cd Go.Proofs.Try.f6 [])) (cd Go.Proofs.Try.f6 [1, 1, 1, 0]) e (setN (kont Pg R Go.Proofs.Try.f6) (fun e => orpimentlaw02_ReadyPlays_j1 R)) (fun e => orpimentlaw02_ReadyPlays_j2 R (e 0) (e 3) (e 4)) _ (by kernel_rfl) (fun e => orpimentlaw02_ReadyPlays_j2_ok R e) (by kernel_rfl)))
  h _
theorem orpimentlaw02_ReadyPlays_calls {R : ER} {x0 : Value} {w : World} (h : orpimentlaw02_ReadyPlays R x0 w) : Calls Pg 6 ⟨[x0]⟩ w R :=
  calls_of_den Go.Proofs.Try.func6 (by kernel_rfl) (by kernel_rfl) (orpimentlaw02_ReadyPlays_den R x0) h
/-! ### 7: orpimentlaw02_ReadyNil -/
def orpimentlaw02_ReadyNil (R : ER) (x0 : Value) : WP :=
  bx 27 x0 fun v1 =>
  ldN 6 v1 fun v2 =>
  cal Pg R 20 ⟨[(.pointer none), (.pointer none), v2]⟩ fun v3 =>
  gd v3 true (pv (some (.pointer none))) fun v4 =>
  gd v3 true (cal Pg R 11 ⟨[v4]⟩) fun v5 =>
  gd v3 true (pv (lenS v5)) fun v6 =>
  gd v3 true (pv (bin .eql v6 (.int .i64 0))) fun v7 =>
  pv (pickO v3 v7 (.bool false)) fun v8 =>
  gd v8 true (pv (some (.pointer none))) fun v9 =>
  gd v8 true (cal Pg R 18 ⟨[v9]⟩) fun v10 =>
  gd v8 true (pv (bin .eql v10 (.int .i64 0))) fun v11 =>
  pv (pickO v8 v11 (.bool false)) fun v12 =>
  gd v12 true (pv (some (.pointer none))) fun v13 =>
  gd v12 true (cal Pg R 17 ⟨[v13]⟩) fun v14 =>
  gd v12 true (pv (bin .eql v14 (.int .i64 (-1)))) fun v15 =>
  pv (pickO v12 v15 (.bool false)) fun v16 =>
  gd v16 true (cal Pg R 8 ⟨[]⟩) fun v17 =>
  pv (pickO v16 v17 (.bool false)) fun v18 =>
  R (.returned v18)
theorem orpimentlaw02_ReadyNil_den (R : ER) (x0 : Value) : den Pg R (cd Go.Proofs.Try.f7 []) (argsEnv [x0]) (kont Pg R Go.Proofs.Try.f7) = orpimentlaw02_ReadyNil R x0 :=
  have h : ∀ e, den Pg R (cd Go.Proofs.Try.f7 []) e (kont Pg R Go.Proofs.Try.f7) = orpimentlaw02_ReadyNil R (e 0) := fun e => by kernel_rfl
  h _
theorem orpimentlaw02_ReadyNil_calls {R : ER} {x0 : Value} {w : World} (h : orpimentlaw02_ReadyNil R x0 w) : Calls Pg 7 ⟨[x0]⟩ w R :=
  calls_of_den Go.Proofs.Try.func7 (by kernel_rfl) (by kernel_rfl) (orpimentlaw02_ReadyNil_den R x0) h
/-! ### 8: orpimentlaw02_awake -/
def orpimentlaw02_awake (R : ER) : WP :=
  cal Pg R 9 ⟨[]⟩ fun v1 =>
  pv (eqNilP v1) fun v2 =>
  gd v2 false (pv (some v1)) fun v3 =>
  gd v2 false (cal Pg R 10 ⟨[v3, (.int .i64 1), (.int .i64 10), (.int .i64 255), (.bool false)]⟩) fun v4 =>
  gd v2 false (pv (bin .neq v4 (.int .i64 0))) fun v5 =>
  pv (pickO v2 (.bool true) v5) fun v6 =>
  gd v6 false (pv (some v1)) fun v7 =>
  gd v6 false (cal Pg R 10 ⟨[v7, (.int .i64 2), (.int .i64 10), (.int .i64 255), (.bool false)]⟩) fun v8 =>
  gd v6 false (pv (bin .neq v8 (.int .i64 0))) fun v9 =>
  pv (pickO v6 (.bool true) v9) fun v10 =>
  gd v10 false (pv (some v1)) fun v11 =>
  gd v10 false (cal Pg R 10 ⟨[v11, (.int .i64 3), (.int .i64 20), (.int .i64 2), (.bool false)]⟩) fun v12 =>
  gd v10 false (pv (bin .neq v12 (.int .i64 0))) fun v13 =>
  pv (pickO v10 (.bool true) v13) fun v14 =>
  cnd v14 (
   R (.returned (.bool false))) (
   cal Pg R 19 ⟨[v1, (.int .i64 0)]⟩ fun v15 =>
  pv (extO 0 v15) fun v16 =>
  pv (extO 1 v15) fun v17 =>
  pv (bin .eql v16 (.int .i64 1)) fun v18 =>
  gd v18 true (pv (some v17)) fun v19 =>
  gd v18 true (pv (bin .eql v19 (.int .i64 0))) fun v20 =>
  pv (pickO v18 v20 (.bool false)) fun v21 =>
  gd v21 true (pv (some v1)) fun v22 =>
  gd v21 true (cal Pg R 11 ⟨[v22]⟩) fun v23 =>
  gd v21 true (valV Pg R (Instr.buildSlice 30 3 ⟨[(0, (.int .i64 3)), (1, (.int .i64 1)), (2, (.int .i64 2))]⟩)) fun v24 =>
  gd v21 true (cal Pg R 13 ⟨[v23, v24]⟩) fun v25 =>
  pv (pickO v21 v25 (.bool false)) fun v26 =>
  gd v26 true (pv (some v1)) fun v27 =>
  gd v26 true (cal Pg R 12 ⟨[v27, (.int .i64 10)]⟩) fun v28 =>
  gd v26 true (pv (bin .eql v28 (.int .i64 0))) fun v29 =>
  pv (pickO v26 v29 (.bool false)) fun v30 =>
  gd v30 true (pv (some v1)) fun v31 =>
  gd v30 true (cal Pg R 11 ⟨[v31]⟩) fun v32 =>
  gd v30 true (valV Pg R (Instr.buildSlice 30 3 ⟨[(0, (.int .i64 3)), (1, (.int .i64 2)), (2, (.int .i64 1))]⟩)) fun v33 =>
  gd v30 true (cal Pg R 13 ⟨[v32, v33]⟩) fun v34 =>
  pv (pickO v30 v34 (.bool false)) fun v35 =>
  R (.returned v35))
theorem orpimentlaw02_awake_den (R : ER) : den Pg R (cd Go.Proofs.Try.f8 []) (argsEnv []) (kont Pg R Go.Proofs.Try.f8) = orpimentlaw02_awake R :=
  have h : ∀ e, den Pg R (cd Go.Proofs.Try.f8 []) e (kont Pg R Go.Proofs.Try.f8) = orpimentlaw02_awake R := fun e => by kernel_rfl
  h _
theorem orpimentlaw02_awake_calls {R : ER} {w : World} (h : orpimentlaw02_awake R w) : Calls Pg 8 ⟨[]⟩ w R :=
  calls_of_den Go.Proofs.Try.func8 (by kernel_rfl) (by kernel_rfl) (orpimentlaw02_awake_den R) h
/-! ### 9: ready_New -/
def ready_New_j1 (R : ER) (x1 : Value) : WP :=
  R (.returned x1)
theorem ready_New_j1_ok (R : ER) (e : Env) : den Pg R (cd Go.Proofs.Try.f9 [1, 1, 1]) e (kont Pg R Go.Proofs.Try.f9) = (ready_New_j1 R (e 1)) := by kernel_rfl
def ready_New_b4 (R : ER) (k1 : Value → Value → WP) (x1 x5 : Value) : WP :=
  pv (bin .lss x5 (.int .i64 256)) fun v1 =>
  cnd v1 (
   pv (nilO x1) fun v2 =>
  pv (faO 0 v2) fun v3 =>
  pv (faO 0 v3) fun v4 =>
  pv (ixA 256 1 v4 x5) fun v5 =>
  st1 v5 (.int .i64 (-1)) fun _ =>
  pv (bin .add x5 (.int .i64 1)) fun v6 =>
  k1 x1 v6) (
   ready_New_j1 R x1)
theorem ready_New_b4_ok (R : ER) (k1 : Value → Value → WP) (e : Env) : den Pg R (cd Go.Proofs.Try.f9 [1, 1, 0, 1, 0, 0]) e (setN (inB 0 (setN (kont Pg R Go.Proofs.Try.f9) (fun e => ready_New_j1 R (e 1)))) (fun e => k1 (e 1) (e 5))) = (ready_New_b4 R k1 (e 1) (e 5)) := by kernel_rfl
noncomputable def ready_New_l5 (R : ER) (n : Nat) : Value → Value → WP := Nat.rec (motive := fun _ => Value → Value → WP) (fun _ _ => fun _ => False) (fun _ ih => fun x1 x5 => ready_New_b4 R ih x1 x5) n
theorem ready_New_l5_succ (R : ER) (n : Nat) (x1 x5 : Value) : ready_New_l5 R (n + 1) x1 x5 = ready_New_b4 R (ready_New_l5 R n) x1 x5 := rfl
theorem ready_New_l5_ok (R : ER) : ∀ (n : Nat) (e : Env), iterL (den Pg R (cd Go.Proofs.Try.f9 [1, 1, 0, 1, 0, 0])) n e (inB 0 (setN (kont Pg R Go.Proofs.Try.f9) (fun e => ready_New_j1 R (e 1)))) = ready_New_l5 R n (e 1) (e 5) :=
  iterL_join (den Pg R (cd Go.Proofs.Try.f9 [1, 1, 0, 1, 0, 0])) (inB 0 (setN (kont Pg R Go.Proofs.Try.f9) (fun e => ready_New_j1 R (e 1)))) (fun n e => ready_New_l5 R n (e 1) (e 5)) (fun _ => rfl) (fun n e => (ready_New_b4_ok R (ready_New_l5 R n) e).trans (ready_New_l5_succ R n (e 1) (e 5)).symm)
def ready_New_j3 (R : ER) (x1 x5 : Value) : WP :=
  exN fun n => ready_New_l5 R n x1 x5
theorem ready_New_j3_ok (R : ER) (e : Env) : den Pg R (cd Go.Proofs.Try.f9 [1, 1, 0, 1]) e (setN (kont Pg R Go.Proofs.Try.f9) (fun e => ready_New_j1 R (e 1))) = (ready_New_j3 R (e 1) (e 5)) := (den_block Pg R (cd Go.Proofs.Try.f9 [1, 1, 0, 1]) 0 (cd Go.Proofs.Try.f9 [1, 1, 0, 1, 0]) e (setN (kont Pg R Go.Proofs.Try.f9) (fun e => ready_New_j1 R (e 1))) _ (by kernel_rfl) (den_loop Pg R (cd Go.Proofs.Try.f9 [1, 1, 0, 1, 0]) (cd Go.Proofs.Try.f9 [1, 1, 0, 1, 0, 0]) e (inB 0 (setN (kont Pg R Go.Proofs.Try.f9) (fun e => ready_New_j1 R (e 1)))) (fun n e => ready_New_l5 R n (e 1) (e 5)) _ (by kernel_rfl) (ready_New_l5_ok R) (by kernel_rfl)))
def ready_New_j2 (R : ER) (x1 : Value) : WP :=
  ready_New_j3 R x1 (.int .i64 0)
theorem ready_New_j2_ok (R : ER) (e : Env) : den Pg R (cd Go.Proofs.Try.f9 [1, 1, 0]) e (setN (kont Pg R Go.Proofs.Try.f9) (fun e => ready_New_j1 R (e 1))) = (ready_New_j2 R (e 1)) := (den_join Pg R 0 (cd Go.Proofs.Try.f9 [1, 1, 0]) (cd Go.Proofs.Try.f9 [1, 1, 0, 1]) e (setN (kont Pg R Go.Proofs.Try.f9) (fun e => ready_New_j1 R (e 1))) (fun e => ready_New_j3 R (e 1) (e 5)) _ (by kernel_rfl) (fun e => ready_New_j3_ok R e) (by kernel_rfl))
def ready_New (R : ER) : WP :=
  pv (bldO [.int .i64 0, .int .i64 0, .int .i64 0, .int .i64 0, .int .i64 0, .int .i64 0, .int .i64 0, .int .i64 0, .int .i64 0, .int .i64 0, .int .i64 0, .int .i64 0, .int .i64 0, .int .i64 0, .int .i64 0, .int .i64 0, .int .i64 0, .int .i64 0, .int .i64 0, .int .i64 0, .int .i64 0, .int .i64 0, .int .i64 0, .int .i64 0, .int .i64 0, .int .i64 0, .int .i64 0, .int .i64 0, .int .i64 0, .int .i64 0, .int .i64 0, .int .i64 0, .int .i64 0, .int .i64 0, .int .i64 0, .int .i64 0, .int .i64 0, .int .i64 0, .int .i64 0, .int .i64 0, .int .i64 0, .int .i64 0, .int .i64 0, .int .i64 0, .int .i64 0, .int .i64 0, .int .i64 0, .int .i64 0, .int .i64 0, .int .i64 0, .int .i64 0, .int .i64 0, .int .i64 0, .int .i64 0, .int .i64 0, .int .i64 0, .int .i64 0, .int .i64 0, .int .i64 0, .int .i64 0, .int .i64 0, .int .i64 0, .int .i64 0, .int .i64 0, .int .i64 0, .int .i64 0, .int .i64 0, .int .i64 0, .int .i64 0, .int .i64 0, .int .i64 0, .int .i64 0, .int .i64 0, .int .i64 0, .int .i64 0, .int .i64 0, .int .i64 0, .int .i64 0, .int .i64 0, .int .i64 0, .int .i64 0, .int .i64 0, .int .i64 0, .int .i64 0, .int .i64 0, .int .i64 0, .int .i64 0, .int .i64 0, .int .i64 0, .int .i64 0, .int .i64 0, .int .i64 0, .int .i64 0, .int .i64 0, .int .i64 0, .int .i64 0, .int .i64 0, .int .i64 0, .int .i64 0, .int .i64 0, .int .i64 0, .int .i64 0, .int .i64 0, .int .i64 0, .int .i64 0, .int .i64 0, .int .i64 0, .int .i64 0, .int .i64 0, .int .i64 0, .int .i64 0, .int .i64 0, .int .i64 0, .int .i64 0, .int .i64 0, .int .i64 0, .int .i64 0, .int .i64 0, .int .i64 0, .int .i64 0, .int .i64 0, .int .i64 0, .int .i64 0, .int .i64 0, .int .i64 0, .int .i64 0, .int .i64 0, .int .i64 0, .int .i64 0, .int .i64 0, .int .i64 0, .int .i64 0, .int .i64 0, .int .i64 0, .int .i64 0, .int .i64 0, .int .i64 0, .int .i64 0, .int .i64 0, .int .i64 0, .int .i64 0, .int .i64 0, .int .i64 0, .int .i64 0, .int .i64 0, .int .i64 0, .int .i64 0, .int .i64 0, .int .i64 0, .int .i64 0, .int .i64 0, .int .i64 0, .int .i64 0, .int .i64 0, .int .i64 0, .int .i64 0, .int .i64 0, .int .i64 0, .int .i64 0, .int .i64 0, .int .i64 0, .int .i64 0, .int .i64 0, .int .i64 0, .int .i64 0, .int .i64 0, .int .i64 0, .int .i64 0, .int .i64 0, .int .i64 0, .int .i64 0, .int .i64 0, .int .i64 0, .int .i64 0, .int .i64 0, .int .i64 0, .int .i64 0, .int .i64 0, .int .i64 0, .int .i64 0, .int .i64 0, .int .i64 0, .int .i64 0, .int .i64 0, .int .i64 0, .int .i64 0, .int .i64 0, .int .i64 0, .int .i64 0, .int .i64 0, .int .i64 0, .int .i64 0, .int .i64 0, .int .i64 0, .int .i64 0, .int .i64 0, .int .i64 0, .int .i64 0, .int .i64 0, .int .i64 0, .int .i64 0, .int .i64 0, .int .i64 0, .int .i64 0, .int .i64 0, .int .i64 0, .int .i64 0, .int .i64 0, .int .i64 0, .int .i64 0, .int .i64 0, .int .i64 0, .int .i64 0, .int .i64 0, .int .i64 0, .int .i64 0, .int .i64 0, .int .i64 0, .int .i64 0, .int .i64 0, .int .i64 0, .int .i64 0, .int .i64 0, .int .i64 0, .int .i64 0, .int .i64 0, .int .i64 0, .int .i64 0, .int .i64 0, .int .i64 0, .int .i64 0, .int .i64 0, .int .i64 0, .int .i64 0, .int .i64 0, .int .i64 0, .int .i64 0, .int .i64 0, .int .i64 0, .int .i64 0, .int .i64 0, .int .i64 0, .int .i64 0, .int .i64 0, .int .i64 0, .int .i64 0, .int .i64 0, .int .i64 0, .int .i64 0, .int .i64 0, .int .i64 0, .int .i64 0, .int .i64 0, .int .i64 0, .int .i64 0, .int .i64 0, .int .i64 0, .int .i64 0, .int .i64 0, .int .i64 0, .bool false, .int .i64 0, .int .i64 0, .int .i64 0, .int .i64 0, .bool false, .int .i64 0, .int .i64 0, .int .i64 0, .int .i64 0, .bool false, .int .i64 0, .int .i64 0, .int .i64 0, .int .i64 0, .bool false, .int .i64 0, .int .i64 0, .int .i64 0, .int .i64 0, .bool false, .int .i64 0, .int .i64 0, .int .i64 0, .int .i64 0, .bool false, .int .i64 0, .int .i64 0, .int .i64 0, .int .i64 0, .bool false, .int .i64 0, .int .i64 0, .int .i64 0, .int .i64 0, .bool false, .int .i64 0, .int .i64 0, .int .i64 0, .int .i64 0, .bool false, .int .i64 0, .int .i64 0, .int .i64 0, .int .i64 0, .bool false, .int .i64 0, .int .i64 0, .int .i64 0, .int .i64 0, .bool false, .int .i64 0, .int .i64 0, .int .i64 0, .int .i64 0, .bool false, .int .i64 0, .int .i64 0, .int .i64 0, .int .i64 0, .bool false, .int .i64 0, .int .i64 0, .int .i64 0, .int .i64 0, .bool false, .int .i64 0, .int .i64 0, .int .i64 0, .int .i64 0, .bool false, .int .i64 0, .int .i64 0, .int .i64 0, .int .i64 0, .bool false, .int .i64 0, .int .i64 0, .int .i64 0, .int .i64 0, .bool false, .int .i64 0, .int .i64 0, .int .i64 0, .int .i64 0, .bool false, .int .i64 0, .int .i64 0, .int .i64 0, .int .i64 0, .bool false, .int .i64 0, .int .i64 0, .int .i64 0, .int .i64 0, .bool false, .int .i64 0, .int .i64 0, .int .i64 0, .int .i64 0, .bool false, .int .i64 0, .int .i64 0, .int .i64 0, .int .i64 0, .bool false, .int .i64 0, .int .i64 0, .int .i64 0, .int .i64 0, .bool false, .int .i64 0, .int .i64 0, .int .i64 0, .int .i64 0, .bool false, .int .i64 0, .int .i64 0, .int .i64 0, .int .i64 0, .bool false, .int .i64 0, .int .i64 0, .int .i64 0, .int .i64 0, .bool false, .int .i64 0, .int .i64 0, .int .i64 0, .int .i64 0, .bool false, .int .i64 0, .int .i64 0, .int .i64 0, .int .i64 0, .bool false, .int .i64 0, .int .i64 0, .int .i64 0, .int .i64 0, .bool false, .int .i64 0, .int .i64 0, .int .i64 0, .int .i64 0, .bool false, .int .i64 0, .int .i64 0, .int .i64 0, .int .i64 0, .bool false, .int .i64 0, .int .i64 0, .int .i64 0, .int .i64 0, .bool false, .int .i64 0, .int .i64 0, .int .i64 0, .int .i64 0, .bool false, .int .i64 0, .int .i64 0, .int .i64 0, .int .i64 0, .bool false, .int .i64 0, .int .i64 0, .int .i64 0, .int .i64 0, .bool false, .int .i64 0, .int .i64 0, .int .i64 0, .int .i64 0, .bool false, .int .i64 0, .int .i64 0, .int .i64 0, .int .i64 0, .bool false, .int .i64 0, .int .i64 0, .int .i64 0, .int .i64 0, .bool false, .int .i64 0, .int .i64 0, .int .i64 0, .int .i64 0, .bool false, .int .i64 0, .int .i64 0, .int .i64 0, .int .i64 0, .bool false, .int .i64 0, .int .i64 0, .int .i64 0, .int .i64 0, .bool false, .int .i64 0, .int .i64 0, .int .i64 0, .int .i64 0, .bool false, .int .i64 0, .int .i64 0, .int .i64 0, .int .i64 0, .bool false, .int .i64 0, .int .i64 0, .int .i64 0, .int .i64 0, .bool false, .int .i64 0, .int .i64 0, .int .i64 0, .int .i64 0, .bool false, .int .i64 0, .int .i64 0, .int .i64 0, .int .i64 0, .bool false, .int .i64 0, .int .i64 0, .int .i64 0, .int .i64 0, .bool false, .int .i64 0, .int .i64 0, .int .i64 0, .int .i64 0, .bool false, .int .i64 0, .int .i64 0, .int .i64 0, .int .i64 0, .bool false, .int .i64 0, .int .i64 0, .int .i64 0, .int .i64 0, .bool false, .int .i64 0, .int .i64 0, .int .i64 0, .int .i64 0, .bool false, .int .i64 0, .int .i64 0, .int .i64 0, .int .i64 0, .bool false, .int .i64 0, .int .i64 0, .int .i64 0, .int .i64 0, .bool false, .int .i64 0, .int .i64 0, .int .i64 0, .int .i64 0, .bool false, .int .i64 0, .int .i64 0, .int .i64 0, .int .i64 0, .bool false, .int .i64 0, .int .i64 0, .int .i64 0, .int .i64 0, .bool false, .int .i64 0, .int .i64 0, .int .i64 0, .int .i64 0, .bool false, .int .i64 0, .int .i64 0, .int .i64 0, .int .i64 0, .bool false, .int .i64 0, .int .i64 0, .int .i64 0, .int .i64 0, .bool false, .int .i64 0, .int .i64 0, .int .i64 0, .int .i64 0, .bool false, .int .i64 0, .int .i64 0, .int .i64 0, .int .i64 0, .bool false, .int .i64 0, .int .i64 0, .int .i64 0, .int .i64 0, .bool false, .int .i64 0, .int .i64 0, .int .i64 0, .int .i64 0, .bool false, .int .i64 0, .int .i64 0, .int .i64 0, .int .i64 0, .bool false, .int .i64 0, .int .i64 0, .int .i64 0, .int .i64 0, .bool false, .int .i64 0, .int .i64 0, .int .i64 0, .int .i64 0, .bool false, .int .i64 0, .int .i64 0, .int .i64 0, .int .i64 0, .bool false, .int .i64 0, .int .i64 0, .int .i64 0, .int .i64 0, .bool false, .int .i64 0, .int .i64 0, .int .i64 0, .int .i64 0, .bool false, .int .i64 0, .int .i64 0, .int .i64 0, .int .i64 0, .bool false, .int .i64 0, .int .i64 0, .int .i64 0, .int .i64 0, .bool false, .int .i64 0, .int .i64 0, .int .i64 0, .int .i64 0, .bool false, .int .i64 0, .int .i64 0, .int .i64 0, .int .i64 0, .bool false, .int .i64 0, .int .i64 0, .int .i64 0, .int .i64 0, .bool false, .int .i64 0, .int .i64 0, .int .i64 0, .int .i64 0, .bool false, .int .i64 0, .int .i64 0, .int .i64 0, .int .i64 0, .bool false, .int .i64 0, .int .i64 0, .int .i64 0, .int .i64 0, .bool false, .int .i64 0, .int .i64 0, .int .i64 0, .int .i64 0, .bool false, .int .i64 0, .int .i64 0, .int .i64 0, .int .i64 0, .bool false, .int .i64 0, .int .i64 0, .int .i64 0, .int .i64 0, .bool false, .int .i64 0, .int .i64 0, .int .i64 0, .int .i64 0, .bool false, .int .i64 0, .int .i64 0, .int .i64 0, .int .i64 0, .bool false, .int .i64 0, .int .i64 0, .int .i64 0, .int .i64 0, .bool false, .int .i64 0, .int .i64 0, .int .i64 0, .int .i64 0, .bool false, .int .i64 0, .int .i64 0, .int .i64 0, .int .i64 0, .bool false, .int .i64 0, .int .i64 0, .int .i64 0, .int .i64 0, .bool false, .int .i64 0, .int .i64 0, .int .i64 0, .int .i64 0, .bool false, .int .i64 0, .int .i64 0, .int .i64 0, .int .i64 0, .bool false, .int .i64 0, .int .i64 0, .int .i64 0, .int .i64 0, .bool false, .int .i64 0, .int .i64 0, .int .i64 0, .int .i64 0, .bool false, .int .i64 0, .int .i64 0, .int .i64 0, .int .i64 0, .bool false, .int .i64 0, .int .i64 0, .int .i64 0, .int .i64 0, .bool false, .int .i64 0, .int .i64 0, .int .i64 0, .int .i64 0, .bool false, .int .i64 0, .int .i64 0, .int .i64 0, .int .i64 0, .bool false, .int .i64 0, .int .i64 0, .int .i64 0, .int .i64 0, .bool false, .int .i64 0, .int .i64 0, .int .i64 0, .int .i64 0, .bool false, .int .i64 0, .int .i64 0, .int .i64 0, .int .i64 0, .bool false, .int .i64 0, .int .i64 0, .int .i64 0, .int .i64 0, .bool false, .int .i64 0, .int .i64 0, .int .i64 0, .int .i64 0, .bool false, .int .i64 0, .int .i64 0, .int .i64 0, .int .i64 0, .bool false, .int .i64 0, .int .i64 0, .int .i64 0, .int .i64 0, .bool false, .int .i64 0, .int .i64 0, .int .i64 0, .int .i64 0, .bool false, .int .i64 0, .int .i64 0, .int .i64 0, .int .i64 0, .bool false, .int .i64 0, .int .i64 0, .int .i64 0, .int .i64 0, .bool false, .int .i64 0, .int .i64 0, .int .i64 0, .int .i64 0, .bool false, .int .i64 0, .int .i64 0, .int .i64 0, .int .i64 0, .bool false, .int .i64 0, .int .i64 0, .int .i64 0, .int .i64 0, .bool false, .int .i64 0, .int .i64 0, .int .i64 0, .int .i64 0, .bool false, .int .i64 0, .int .i64 0, .int .i64 0, .int .i64 0, .bool false, .int .i64 0, .int .i64 0, .int .i64 0, .int .i64 0, .bool false, .int .i64 0, .int .i64 0, .int .i64 0, .int .i64 0, .bool false, .int .i64 0, .int .i64 0, .int .i64 0, .int .i64 0, .bool false, .int .i64 0, .int .i64 0, .int .i64 0, .int .i64 0, .bool false, .int .i64 0, .int .i64 0, .int .i64 0, .int .i64 0, .bool false, .int .i64 0, .int .i64 0, .int .i64 0, .int .i64 0, .bool false, .int .i64 0, .int .i64 0, .int .i64 0, .int .i64 0, .bool false, .int .i64 0, .int .i64 0, .int .i64 0, .int .i64 0, .bool false, .int .i64 0, .int .i64 0, .int .i64 0, .int .i64 0, .bool false, .int .i64 0, .int .i64 0, .int .i64 0, .int .i64 0, .bool false, .int .i64 0, .int .i64 0, .int .i64 0, .int .i64 0, .bool false, .int .i64 0, .int .i64 0, .int .i64 0, .int .i64 0, .bool false, .int .i64 0, .int .i64 0, .int .i64 0, .int .i64 0, .bool false, .int .i64 0, .int .i64 0, .int .i64 0, .int .i64 0, .bool false, .int .i64 0, .int .i64 0, .int .i64 0, .int .i64 0, .bool false, .int .i64 0, .int .i64 0, .int .i64 0, .int .i64 0, .bool false, .int .i64 0, .int .i64 0, .int .i64 0, .int .i64 0, .bool false, .int .i64 0, .int .i64 0, .int .i64 0, .int .i64 0, .bool false, .int .i64 0, .int .i64 0, .int .i64 0, .int .i64 0, .bool false, .int .i64 0, .int .i64 0, .int .i64 0, .int .i64 0, .bool false, .int .i64 0, .int .i64 0, .int .i64 0, .int .i64 0, .bool false, .int .i64 0, .int .i64 0, .int .i64 0, .int .i64 0, .bool false, .int .i64 0, .int .i64 0, .int .i64 0, .int .i64 0, .bool false, .int .i64 0, .int .i64 0, .int .i64 0, .int .i64 0, .bool false, .int .i64 0, .int .i64 0, .int .i64 0, .int .i64 0, .bool false, .int .i64 0, .int .i64 0, .int .i64 0, .int .i64 0, .bool false, .int .i64 0, .int .i64 0, .int .i64 0, .int .i64 0, .bool false, .int .i64 0, .int .i64 0, .int .i64 0, .int .i64 0, .bool false, .int .i64 0, .int .i64 0, .int .i64 0, .int .i64 0, .bool false, .int .i64 0, .int .i64 0, .int .i64 0, .int .i64 0, .bool false, .int .i64 0, .int .i64 0, .int .i64 0, .int .i64 0, .bool false, .int .i64 0, .int .i64 0, .int .i64 0, .int .i64 0, .bool false, .int .i64 0, .int .i64 0, .int .i64 0, .int .i64 0, .bool false, .int .i64 0, .int .i64 0, .int .i64 0, .int .i64 0, .bool false, .int .i64 0, .int .i64 0, .int .i64 0, .int .i64 0, .bool false, .int .i64 0, .int .i64 0, .int .i64 0, .int .i64 0, .bool false, .int .i64 0, .int .i64 0, .int .i64 0, .int .i64 0, .bool false, .int .i64 0, .int .i64 0, .int .i64 0, .int .i64 0, .bool false, .int .i64 0, .int .i64 0, .int .i64 0, .int .i64 0, .bool false, .int .i64 0, .int .i64 0, .int .i64 0, .int .i64 0, .bool false, .int .i64 0, .int .i64 0, .int .i64 0, .int .i64 0, .bool false, .int .i64 0, .int .i64 0, .int .i64 0, .int .i64 0, .bool false, .int .i64 0, .int .i64 0, .int .i64 0, .int .i64 0, .bool false, .int .i64 0, .int .i64 0, .int .i64 0, .int .i64 0, .bool false, .int .i64 0, .int .i64 0, .int .i64 0, .int .i64 0, .bool false, .int .i64 0, .int .i64 0, .int .i64 0, .int .i64 0, .bool false, .int .i64 0, .int .i64 0, .int .i64 0, .int .i64 0, .bool false, .int .i64 0, .int .i64 0, .int .i64 0, .int .i64 0, .bool false, .int .i64 0, .int .i64 0, .int .i64 0, .int .i64 0, .bool false, .int .i64 0, .int .i64 0, .int .i64 0, .int .i64 0, .bool false, .int .i64 0, .int .i64 0, .int .i64 0, .int .i64 0, .bool false, .int .i64 0, .int .i64 0, .int .i64 0, .int .i64 0, .bool false, .int .i64 0, .int .i64 0, .int .i64 0, .int .i64 0, .bool false, .int .i64 0, .int .i64 0, .int .i64 0, .int .i64 0, .bool false, .int .i64 0, .int .i64 0, .int .i64 0, .int .i64 0, .bool false, .int .i64 0, .int .i64 0, .int .i64 0, .int .i64 0, .bool false, .int .i64 0, .int .i64 0, .int .i64 0, .int .i64 0, .bool false, .int .i64 0, .int .i64 0, .int .i64 0, .int .i64 0, .bool false, .int .i64 0, .int .i64 0, .int .i64 0, .int .i64 0, .bool false, .int .i64 0, .int .i64 0, .int .i64 0, .int .i64 0, .bool false, .int .i64 0, .int .i64 0, .int .i64 0, .int .i64 0, .bool false, .int .i64 0, .int .i64 0, .int .i64 0, .int .i64 0, .bool false, .int .i64 0, .int .i64 0, .int .i64 0, .int .i64 0, .bool false, .int .i64 0, .int .i64 0, .int .i64 0, .int .i64 0, .bool false, .int .i64 0, .int .i64 0, .int .i64 0, .int .i64 0, .bool false, .int .i64 0, .int .i64 0, .int .i64 0, .int .i64 0, .bool false, .int .i64 0, .int .i64 0, .int .i64 0, .int .i64 0, .bool false, .int .i64 0, .int .i64 0, .int .i64 0, .int .i64 0, .bool false, .int .i64 0, .int .i64 0, .int .i64 0, .int .i64 0, .bool false, .int .i64 0, .int .i64 0, .int .i64 0, .int .i64 0, .bool false, .int .i64 0, .int .i64 0, .int .i64 0, .int .i64 0, .bool false, .int .i64 0, .int .i64 0, .int .i64 0, .int .i64 0, .bool false, .int .i64 0, .int .i64 0, .int .i64 0, .int .i64 0, .bool false, .int .i64 0, .int .i64 0, .int .i64 0, .int .i64 0, .bool false, .int .i64 0, .int .i64 0, .int .i64 0, .int .i64 0, .bool false, .int .i64 0, .int .i64 0, .int .i64 0, .int .i64 0, .bool false, .int .i64 0, .int .i64 0, .int .i64 0, .int .i64 0, .bool false, .int .i64 0, .int .i64 0, .int .i64 0, .int .i64 0, .bool false, .int .i64 0, .int .i64 0, .int .i64 0, .int .i64 0, .bool false, .int .i64 0, .int .i64 0, .int .i64 0, .int .i64 0, .bool false, .int .i64 0, .int .i64 0, .int .i64 0, .int .i64 0, .bool false, .int .i64 0, .int .i64 0, .int .i64 0, .int .i64 0, .bool false, .int .i64 0, .int .i64 0, .int .i64 0, .int .i64 0, .bool false, .int .i64 0, .int .i64 0, .int .i64 0, .int .i64 0, .bool false, .int .i64 0, .int .i64 0, .int .i64 0, .int .i64 0, .bool false, .int .i64 0, .int .i64 0, .int .i64 0, .int .i64 0, .bool false, .int .i64 0, .int .i64 0, .int .i64 0, .int .i64 0, .bool false, .int .i64 0, .int .i64 0, .int .i64 0, .int .i64 0, .bool false, .int .i64 0, .int .i64 0, .int .i64 0, .int .i64 0, .bool false, .int .i64 0, .int .i64 0, .int .i64 0, .int .i64 0, .bool false, .int .i64 0, .int .i64 0, .int .i64 0, .int .i64 0, .bool false, .int .i64 0, .int .i64 0, .int .i64 0, .int .i64 0, .bool false, .int .i64 0, .int .i64 0, .int .i64 0, .int .i64 0, .bool false, .int .i64 0, .int .i64 0, .int .i64 0, .int .i64 0, .bool false, .int .i64 0, .int .i64 0, .int .i64 0, .int .i64 0, .bool false, .int .i64 0, .int .i64 0, .int .i64 0, .int .i64 0, .bool false, .int .i64 0, .int .i64 0, .int .i64 0, .int .i64 0, .bool false, .int .i64 0, .int .i64 0, .int .i64 0, .int .i64 0, .bool false, .int .i64 0, .int .i64 0, .int .i64 0, .int .i64 0, .bool false, .int .i64 0, .int .i64 0, .int .i64 0, .int .i64 0, .bool false, .int .i64 0, .int .i64 0, .int .i64 0, .int .i64 0, .bool false, .int .i64 0, .int .i64 0, .int .i64 0, .int .i64 0, .bool false, .int .i64 0, .int .i64 0, .int .i64 0, .int .i64 0, .bool false, .int .i64 0, .int .i64 0, .int .i64 0, .int .i64 0, .bool false, .int .i64 0, .int .i64 0, .int .i64 0, .int .i64 0, .bool false, .int .i64 0, .int .i64 0, .int .i64 0, .int .i64 0, .bool false, .int .i64 0, .int .i64 0, .int .i64 0, .int .i64 0, .bool false, .int .i64 0, .int .i64 0, .int .i64 0, .int .i64 0, .bool false, .int .i64 0, .int .i64 0, .int .i64 0, .int .i64 0, .bool false, .int .i64 0, .int .i64 0, .int .i64 0, .int .i64 0, .bool false, .int .i64 0, .int .i64 0, .int .i64 0, .int .i64 0, .bool false, .int .i64 0, .int .i64 0, .int .i64 0, .int .i64 0, .bool false, .int .i64 0, .int .i64 0, .int .i64 0, .int .i64 0, .bool false, .int .i64 0, .int .i64 0, .int .i64 0, .int .i64 0, .bool false, .int .i64 0, .int .i64 0, .int .i64 0, .int .i64 0, .bool false, .int .i64 0, .int .i64 0, .int .i64 0, .int .i64 0, .bool false, .int .i64 0, .int .i64 0, .int .i64 0, .int .i64 0, .bool false, .int .i64 0, .int .i64 0, .int .i64 0, .int .i64 0, .bool false, .int .i64 0, .int .i64 0, .int .i64 0, .int .i64 0, .bool false, .int .i64 0, .int .i64 0, .int .i64 0, .int .i64 0, .bool false, .int .i64 0, .int .i64 0, .int .i64 0, .int .i64 0, .bool false, .int .i64 0, .int .i64 0, .int .i64 0, .int .i64 0, .bool false, .int .i64 0, .int .i64 0, .int .i64 0, .int .i64 0, .bool false, .int .i64 0, .int .i64 0, .int .i64 0, .int .i64 0, .bool false, .int .i64 0, .int .i64 0, .int .i64 0, .int .i64 0, .bool false, .int .i64 0, .int .i64 0, .int .i64 0, .int .i64 0, .bool false, .int .i64 0, .int .i64 0, .int .i64 0, .int .i64 0, .bool false, .int .i64 0, .int .i64 0, .int .i64 0, .int .i64 0, .bool false, .int .i64 0, .int .i64 0, .int .i64 0, .int .i64 0, .bool false, .int .i64 0, .int .i64 0, .int .i64 0, .int .i64 0, .bool false, .int .i64 0, .int .i64 0, .int .i64 0, .int .i64 0, .bool false, .int .i64 0, .int .i64 0, .int .i64 0, .int .i64 0, .bool false, .int .i64 0, .int .i64 0, .int .i64 0, .int .i64 0, .bool false, .int .i64 0, .int .i64 0, .int .i64 0, .int .i64 0, .bool false, .int .i64 0, .int .i64 0, .int .i64 0, .int .i64 0, .bool false, .int .i64 0, .int .i64 0, .int .i64 0, .int .i64 0, .bool false, .int .i64 0, .int .i64 0, .int .i64 0, .int .i64 0, .bool false, .int .i64 0, .int .i64 0, .int .i64 0, .int .i64 0, .bool false, .int .i64 0, .int .i64 0, .int .i64 0, .int .i64 0, .bool false, .int .i64 0, .int .i64 0, .int .i64 0, .int .i64 0, .bool false, .int .i64 0, .int .i64 0, .int .i64 0, .int .i64 0, .bool false, .int .i64 0, .int .i64 0, .int .i64 0, .int .i64 0, .bool false, .int .i64 0, .int .i64 0, .int .i64 0, .int .i64 0, .bool false, .int .i64 0, .int .i64 0, .int .i64 0, .int .i64 0, .bool false, .int .i64 0, .int .i64 0, .int .i64 0, .int .i64 0, .bool false, .int .i64 0, .int .i64 0, .int .i64 0, .int .i64 0, .bool false, .int .i64 0, .int .i64 0, .int .i64 0, .int .i64 0, .bool false, .int .u64 0, .int .u64 0, .int .u64 0, .int .u64 0, .int .i64 0] []) fun v7 =>
  bx 54 v7 fun v8 =>
  ready_New_j2 R v8
theorem ready_New_den (R : ER) : den Pg R (cd Go.Proofs.Try.f9 []) (argsEnv []) (kont Pg R Go.Proofs.Try.f9) = ready_New R :=
  have h : ∀ e, den Pg R (cd Go.Proofs.Try.f9 []) e (kont Pg R Go.Proofs.Try.f9) = ready_New R := fun e => (den_join Pg R 2 (cd Go.Proofs.Try.f9 []) (cd Go.Proofs.Try.f9 [1, 1, 1]) e (kont Pg R Go.Proofs.Try.f9) (fun e => ready_New_j1 R (e 1)) _ (by kernel_rfl) (fun e => ready_New_j1_ok R e) (den_join Pg R 1 (pre 2 (cd Go.Proofs.Try.f9 [])) (cd Go.Proofs.Try.f9 [1, 1, 0]) e (setN (kont Pg R Go.Proofs.Try.f9) (fun e => ready_New_j1 R (e 1))) (fun e => ready_New_j2 R (e 1)) _ (by kernel_rfl) (fun e => ready_New_j2_ok R e) (by kernel_rfl)))
  h _
theorem ready_New_calls {R : ER} {w : World} (h : ready_New R w) : Calls Pg 9 ⟨[]⟩ w R :=
  calls_of_den Go.Proofs.Try.func9 (by kernel_rfl) (by kernel_rfl) (ready_New_den R) h
/-! ### 10: ready_Queue_Add -/
def ready_Queue_Add (R : ER) (x0 x1 x2 x3 x4 : Value) : WP :=
  pv (eqNilP x0) fun v1 =>
  cnd v1 (
   R (.returned (.int .i64 35))) (
   cal Pg R 23 ⟨[x1]⟩ fun v2 =>
   pv (unO .not v2) fun v3 =>
   gd v3 false (pv (some x2)) fun v4 =>
   gd v3 false (cal Pg R 24 ⟨[v4]⟩) fun v5 =>
   gd v3 false (pv (unO .not v5)) fun v6 =>
   pv (pickO v3 (.bool true) v6) fun v7 =>
   gd v7 false (pv (some x3)) fun v8 =>
   gd v7 false (cal Pg R 25 ⟨[v8]⟩) fun v9 =>
   gd v7 false (pv (unO .not v9)) fun v10 =>
   pv (pickO v7 (.bool true) v10) fun v11 =>
   cnd v11 (
    R (.returned (.int .i64 34))) (
    pv (nilO x0) fun v12 =>
    pv (faO 0 v12) fun v13 =>
    pv (faO 256 v13) fun v14 =>
    pv (ixA 256 5 v14 x1) fun v15 =>
    pv (faO 4 v15) fun v16 =>
    ld1 v16 fun v17 =>
    cnd v17 (
     R (.returned (.int .i64 10))) (
     pv (bldO [.int .i64 0, .int .i64 0, .int .i64 0, .int .i64 0, .bool false] [(2, 1, x2), (3, 1, x3), (4, 1, (.bool true))]) fun v18 =>
  pv (nilO x0) fun v19 =>
  pv (faO 0 v19) fun v20 =>
  pv (faO 256 v20) fun v21 =>
  pv (ixA 256 5 v21 x1) fun v22 =>
  stN 5 v22 v18 fun _ =>
  pv (nilO x0) fun v23 =>
  pv (faO 0 v23) fun v24 =>
  cal Pg R 26 ⟨[v24, x1, x4]⟩ fun v25 =>
  pv (nilO x0) fun v26 =>
  pv (faO 1540 v26) fun v27 =>
  ld1 v27 fun v28 =>
  pv (bin .add v28 (.int .i64 1)) fun v29 =>
  pv (nilO x0) fun v30 =>
  pv (faO 1540 v30) fun v31 =>
  st1 v31 v29 fun _ =>
  R (.returned (.int .i64 0)))))
theorem ready_Queue_Add_den (R : ER) (x0 x1 x2 x3 x4 : Value) : den Pg R (cd Go.Proofs.Try.f10 []) (argsEnv [x0, x1, x2, x3, x4]) (kont Pg R Go.Proofs.Try.f10) = ready_Queue_Add R x0 x1 x2 x3 x4 :=
  have h : ∀ e, den Pg R (cd Go.Proofs.Try.f10 []) e (kont Pg R Go.Proofs.Try.f10) = ready_Queue_Add R (e 0) (e 1) (e 2) (e 3) (e 4) := fun e => by kernel_rfl
  h _
theorem ready_Queue_Add_calls {R : ER} {x0 x1 x2 x3 x4 : Value} {w : World} (h : ready_Queue_Add R x0 x1 x2 x3 x4 w) : Calls Pg 10 ⟨[x0, x1, x2, x3, x4]⟩ w R :=
  calls_of_den Go.Proofs.Try.func10 (by kernel_rfl) (by kernel_rfl) (ready_Queue_Add_den R x0 x1 x2 x3 x4) h
/-! ### 11: ready_Queue_Order -/
def ready_Queue_Order_j1 (R : ER) (x3 : Value) : WP :=
  R (.returned x3)
theorem ready_Queue_Order_j1_ok (R : ER) (e : Env) : den Pg R (cd Go.Proofs.Try.f11 [1, 1, 1, 1]) e (kont Pg R Go.Proofs.Try.f11) = (ready_Queue_Order_j1 R (e 3)) := by kernel_rfl
def ready_Queue_Order_j5 (R : ER) (k1 : Value → Value → Value → WP) (x0 x3 x4 : Value) : WP :=
  pv (nilO x0) fun v1 =>
  pv (faO 0 v1) fun v2 =>
  cal Pg R 27 ⟨[v2, x4]⟩ fun v3 =>
  k1 x0 x3 v3
theorem ready_Queue_Order_j5_ok (R : ER) (k1 : Value → Value → Value → WP) (e : Env) : den Pg R (cd Go.Proofs.Try.f11 [1, 1, 1, 0, 1, 0, 0, 1, 1]) e (setN (inB 0 (setN (kont Pg R Go.Proofs.Try.f11) (fun e => ready_Queue_Order_j1 R (e 3)))) (fun e => k1 (e 0) (e 3) (e 4))) = (ready_Queue_Order_j5 R k1 (e 0) (e 3) (e 4)) := by kernel_rfl
def ready_Queue_Order_b8 (R : ER) (k1 : Value → Value → Value → WP) (k2 : Value → Value → Value → Value → Value → WP) (x0 x3 x4 x5 x6 : Value) : WP :=
  pv (bin .eql x6 (.int .i64 0)) fun v4 =>
  gd v4 false (pv (some x5)) fun v5 =>
  gd v4 false (pv (some x0)) fun v6 =>
  gd v4 false (pv (some x4)) fun v7 =>
  gd v4 false (pv (nilO v6)) fun v8 =>
  gd v4 false (pv (faO 0 v8)) fun v9 =>
  gd v4 false (pv (faO 0 v9)) fun v10 =>
  gd v4 false (pv (ixA 256 1 v10 v7)) fun v11 =>
  gd v4 false (ld1 v11) fun v12 =>
  gd v4 false (pv (bin .neq v5 v12)) fun v13 =>
  pv (pickO v4 (.bool true) v13) fun v14 =>
  cnd v14 (
   valV Pg R (Instr.buildSlice 30 1 ⟨[(0, x5)]⟩) fun v15 =>
  blt Pg R .append ⟨[30, 30]⟩ 30 ⟨[false, false]⟩ ⟨[x3, v15]⟩ fun v16 =>
  pv (nilO x0) fun v17 =>
  pv (faO 0 v17) fun v18 =>
  pv (faO 256 v18) fun v19 =>
  pv (ixA 256 5 v19 x5) fun v20 =>
  pv (faO 1 v20) fun v21 =>
  ld1 v21 fun v22 =>
  pv (bin .add x6 (.int .i64 1)) fun v23 =>
  k2 x0 v16 x4 v22 v23) (
   ready_Queue_Order_j5 R k1 x0 x3 x4)
theorem ready_Queue_Order_b8_ok (R : ER) (k1 : Value → Value → Value → WP) (k2 : Value → Value → Value → Value → Value → WP) (e : Env) : den Pg R (cd Go.Proofs.Try.f11 [1, 1, 1, 0, 1, 0, 0, 1, 0, 0, 1, 0, 0]) e (setN (inB 2 (inB 1 (setN (setN (inB 0 (setN (kont Pg R Go.Proofs.Try.f11) (fun e => ready_Queue_Order_j1 R (e 3)))) (fun e => k1 (e 0) (e 3) (e 4))) (fun e => ready_Queue_Order_j5 R k1 (e 0) (e 3) (e 4))))) (fun e => k2 (e 0) (e 3) (e 4) (e 5) (e 6))) = (ready_Queue_Order_b8 R k1 k2 (e 0) (e 3) (e 4) (e 5) (e 6)) := by kernel_rfl
noncomputable def ready_Queue_Order_l9 (R : ER) (k1 : Value → Value → Value → WP) (n : Nat) : Value → Value → Value → Value → Value → WP := Nat.rec (motive := fun _ => Value → Value → Value → Value → Value → WP) (fun _ _ _ _ _ => fun _ => False) (fun _ ih => fun x0 x3 x4 x5 x6 => ready_Queue_Order_b8 R k1 ih x0 x3 x4 x5 x6) n
theorem ready_Queue_Order_l9_succ (R : ER) (k1 : Value → Value → Value → WP) (n : Nat) (x0 x3 x4 x5 x6 : Value) : ready_Queue_Order_l9 R k1 (n + 1) x0 x3 x4 x5 x6 = ready_Queue_Order_b8 R k1 (ready_Queue_Order_l9 R k1 n) x0 x3 x4 x5 x6 := rfl
theorem ready_Queue_Order_l9_ok (R : ER) (k1 : Value → Value → Value → WP) : ∀ (n : Nat) (e : Env), iterL (den Pg R (cd Go.Proofs.Try.f11 [1, 1, 1, 0, 1, 0, 0, 1, 0, 0, 1, 0, 0])) n e (inB 2 (inB 1 (setN (setN (inB 0 (setN (kont Pg R Go.Proofs.Try.f11) (fun e => ready_Queue_Order_j1 R (e 3)))) (fun e => k1 (e 0) (e 3) (e 4))) (fun e => ready_Queue_Order_j5 R k1 (e 0) (e 3) (e 4))))) = ready_Queue_Order_l9 R k1 n (e 0) (e 3) (e 4) (e 5) (e 6) :=
  iterL_join (den Pg R (cd Go.Proofs.Try.f11 [1, 1, 1, 0, 1, 0, 0, 1, 0, 0, 1, 0, 0])) (inB 2 (inB 1 (setN (setN (inB 0 (setN (kont Pg R Go.Proofs.Try.f11) (fun e => ready_Queue_Order_j1 R (e 3)))) (fun e => k1 (e 0) (e 3) (e 4))) (fun e => ready_Queue_Order_j5 R k1 (e 0) (e 3) (e 4))))) (fun n e => ready_Queue_Order_l9 R k1 n (e 0) (e 3) (e 4) (e 5) (e 6)) (fun _ => rfl) (fun n e => (ready_Queue_Order_b8_ok R k1 (ready_Queue_Order_l9 R k1 n) e).trans (ready_Queue_Order_l9_succ R k1 n (e 0) (e 3) (e 4) (e 5) (e 6)).symm)
def ready_Queue_Order_j7 (R : ER) (k1 : Value → Value → Value → WP) (x0 x3 x4 x5 x6 : Value) : WP :=
  exN fun n => ready_Queue_Order_l9 R k1 n x0 x3 x4 x5 x6
theorem ready_Queue_Order_j7_ok (R : ER) (k1 : Value → Value → Value → WP) (e : Env) : den Pg R (cd Go.Proofs.Try.f11 [1, 1, 1, 0, 1, 0, 0, 1, 0, 0, 1]) e (inB 1 (setN (setN (inB 0 (setN (kont Pg R Go.Proofs.Try.f11) (fun e => ready_Queue_Order_j1 R (e 3)))) (fun e => k1 (e 0) (e 3) (e 4))) (fun e => ready_Queue_Order_j5 R k1 (e 0) (e 3) (e 4)))) = (ready_Queue_Order_j7 R k1 (e 0) (e 3) (e 4) (e 5) (e 6)) := (den_block Pg R (cd Go.Proofs.Try.f11 [1, 1, 1, 0, 1, 0, 0, 1, 0, 0, 1]) 2 (cd Go.Proofs.Try.f11 [1, 1, 1, 0, 1, 0, 0, 1, 0, 0, 1, 0]) e (inB 1 (setN (setN (inB 0 (setN (kont Pg R Go.Proofs.Try.f11) (fun e => ready_Queue_Order_j1 R (e 3)))) (fun e => k1 (e 0) (e 3) (e 4))) (fun e => ready_Queue_Order_j5 R k1 (e 0) (e 3) (e 4)))) _ (by kernel_rfl) (den_loop Pg R (cd Go.Proofs.Try.f11 [1, 1, 1, 0, 1, 0, 0, 1, 0, 0, 1, 0]) (cd Go.Proofs.Try.f11 [1, 1, 1, 0, 1, 0, 0, 1, 0, 0, 1, 0, 0]) e (inB 2 (inB 1 (setN (setN (inB 0 (setN (kont Pg R Go.Proofs.Try.f11) (fun e => ready_Queue_Order_j1 R (e 3)))) (fun e => k1 (e 0) (e 3) (e 4))) (fun e => ready_Queue_Order_j5 R k1 (e 0) (e 3) (e 4))))) (fun n e => ready_Queue_Order_l9 R k1 n (e 0) (e 3) (e 4) (e 5) (e 6)) _ (by kernel_rfl) (ready_Queue_Order_l9_ok R k1) (by kernel_rfl)))
def ready_Queue_Order_j6 (R : ER) (k1 : Value → Value → Value → WP) (x0 x3 x4 : Value) : WP :=
  pv (nilO x0) fun v24 =>
  pv (faO 0 v24) fun v25 =>
  pv (faO 0 v25) fun v26 =>
  pv (ixA 256 1 v26 x4) fun v27 =>
  ld1 v27 fun v28 =>
  ready_Queue_Order_j7 R k1 x0 x3 x4 v28 (.int .i64 0)
theorem ready_Queue_Order_j6_ok (R : ER) (k1 : Value → Value → Value → WP) (e : Env) : den Pg R (cd Go.Proofs.Try.f11 [1, 1, 1, 0, 1, 0, 0, 1, 0]) e (setN (setN (inB 0 (setN (kont Pg R Go.Proofs.Try.f11) (fun e => ready_Queue_Order_j1 R (e 3)))) (fun e => k1 (e 0) (e 3) (e 4))) (fun e => ready_Queue_Order_j5 R k1 (e 0) (e 3) (e 4))) = (ready_Queue_Order_j6 R k1 (e 0) (e 3) (e 4)) := (den_block Pg R (cd Go.Proofs.Try.f11 [1, 1, 1, 0, 1, 0, 0, 1, 0]) 1 (cd Go.Proofs.Try.f11 [1, 1, 1, 0, 1, 0, 0, 1, 0, 0]) e (setN (setN (inB 0 (setN (kont Pg R Go.Proofs.Try.f11) (fun e => ready_Queue_Order_j1 R (e 3)))) (fun e => k1 (e 0) (e 3) (e 4))) (fun e => ready_Queue_Order_j5 R k1 (e 0) (e 3) (e 4))) _ (by kernel_rfl) (den_join Pg R 0 (cd Go.Proofs.Try.f11 [1, 1, 1, 0, 1, 0, 0, 1, 0, 0]) (cd Go.Proofs.Try.f11 [1, 1, 1, 0, 1, 0, 0, 1, 0, 0, 1]) e (inB 1 (setN (setN (inB 0 (setN (kont Pg R Go.Proofs.Try.f11) (fun e => ready_Queue_Order_j1 R (e 3)))) (fun e => k1 (e 0) (e 3) (e 4))) (fun e => ready_Queue_Order_j5 R k1 (e 0) (e 3) (e 4)))) (fun e => ready_Queue_Order_j7 R k1 (e 0) (e 3) (e 4) (e 5) (e 6)) _ (by kernel_rfl) (fun e => ready_Queue_Order_j7_ok R k1 e) (by kernel_rfl)))
def ready_Queue_Order_b4 (R : ER) (k1 : Value → Value → Value → WP) (x0 x3 x4 : Value) : WP :=
  pv (bin .neq x4 (.int .i64 (-1))) fun v29 =>
  cnd v29 (
   ready_Queue_Order_j6 R k1 x0 x3 x4) (
   ready_Queue_Order_j1 R x3)
theorem ready_Queue_Order_b4_ok (R : ER) (k1 : Value → Value → Value → WP) (e : Env) : den Pg R (cd Go.Proofs.Try.f11 [1, 1, 1, 0, 1, 0, 0]) e (setN (inB 0 (setN (kont Pg R Go.Proofs.Try.f11) (fun e => ready_Queue_Order_j1 R (e 3)))) (fun e => k1 (e 0) (e 3) (e 4))) = (ready_Queue_Order_b4 R k1 (e 0) (e 3) (e 4)) := (den_join Pg R 1 (cd Go.Proofs.Try.f11 [1, 1, 1, 0, 1, 0, 0]) (cd Go.Proofs.Try.f11 [1, 1, 1, 0, 1, 0, 0, 1, 1]) e (setN (inB 0 (setN (kont Pg R Go.Proofs.Try.f11) (fun e => ready_Queue_Order_j1 R (e 3)))) (fun e => k1 (e 0) (e 3) (e 4))) (fun e => ready_Queue_Order_j5 R k1 (e 0) (e 3) (e 4)) _ (by kernel_rfl) (fun e => ready_Queue_Order_j5_ok R k1 e) (den_join Pg R 0 (pre 1 (cd Go.Proofs.Try.f11 [1, 1, 1, 0, 1, 0, 0])) (cd Go.Proofs.Try.f11 [1, 1, 1, 0, 1, 0, 0, 1, 0]) e (setN (setN (inB 0 (setN (kont Pg R Go.Proofs.Try.f11) (fun e => ready_Queue_Order_j1 R (e 3)))) (fun e => k1 (e 0) (e 3) (e 4))) (fun e => ready_Queue_Order_j5 R k1 (e 0) (e 3) (e 4))) (fun e => ready_Queue_Order_j6 R k1 (e 0) (e 3) (e 4)) _ (by kernel_rfl) (fun e => ready_Queue_Order_j6_ok R k1 e) (by kernel_rfl)))
noncomputable def ready_Queue_Order_l10 (R : ER) (n : Nat) : Value → Value → Value → WP := Nat.rec (motive := fun _ => Value → Value → Value → WP) (fun _ _ _ => fun _ => False) (fun _ ih => fun x0 x3 x4 => ready_Queue_Order_b4 R ih x0 x3 x4) n
theorem ready_Queue_Order_l10_succ (R : ER) (n : Nat) (x0 x3 x4 : Value) : ready_Queue_Order_l10 R (n + 1) x0 x3 x4 = ready_Queue_Order_b4 R (ready_Queue_Order_l10 R n) x0 x3 x4 := rfl
theorem ready_Queue_Order_l10_ok (R : ER) : ∀ (n : Nat) (e : Env), iterL (den Pg R (cd Go.Proofs.Try.f11 [1, 1, 1, 0, 1, 0, 0])) n e (inB 0 (setN (kont Pg R Go.Proofs.Try.f11) (fun e => ready_Queue_Order_j1 R (e 3)))) = ready_Queue_Order_l10 R n (e 0) (e 3) (e 4) :=
  iterL_join (den Pg R (cd Go.Proofs.Try.f11 [1, 1, 1, 0, 1, 0, 0])) (inB 0 (setN (kont Pg R Go.Proofs.Try.f11) (fun e => ready_Queue_Order_j1 R (e 3)))) (fun n e => ready_Queue_Order_l10 R n (e 0) (e 3) (e 4)) (fun _ => rfl) (fun n e => (ready_Queue_Order_b4_ok R (ready_Queue_Order_l10 R n) e).trans (ready_Queue_Order_l10_succ R n (e 0) (e 3) (e 4)).symm)
def ready_Queue_Order_j3 (R : ER) (x0 x3 x4 : Value) : WP :=
  exN fun n => ready_Queue_Order_l10 R n x0 x3 x4
theorem ready_Queue_Order_j3_ok (R : ER) (e : Env) : den Pg R (cd Go.Proofs.Try.f11 [1, 1, 1, 0, 1]) e (setN (kont Pg R Go.Proofs.Try.f11) (fun e => ready_Queue_Order_j1 R (e 3))) = (ready_Queue_Order_j3 R (e 0) (e 3) (e 4)) := (den_block Pg R (cd Go.Proofs.Try.f11 [1, 1, 1, 0, 1]) 0 (cd Go.Proofs.Try.f11 [1, 1, 1, 0, 1, 0]) e (setN (kont Pg R Go.Proofs.Try.f11) (fun e => ready_Queue_Order_j1 R (e 3))) _ (by kernel_rfl) (den_loop Pg R (cd Go.Proofs.Try.f11 [1, 1, 1, 0, 1, 0]) (cd Go.Proofs.Try.f11 [1, 1, 1, 0, 1, 0, 0]) e (inB 0 (setN (kont Pg R Go.Proofs.Try.f11) (fun e => ready_Queue_Order_j1 R (e 3)))) (fun n e => ready_Queue_Order_l10 R n (e 0) (e 3) (e 4)) _ (by kernel_rfl) (ready_Queue_Order_l10_ok R) (by kernel_rfl)))
def ready_Queue_Order_j2 (R : ER) (x0 x3 : Value) : WP :=
  cal Pg R 17 ⟨[x0]⟩ fun v30 =>
  ready_Queue_Order_j3 R x0 x3 v30
theorem ready_Queue_Order_j2_ok (R : ER) (e : Env) : den Pg R (cd Go.Proofs.Try.f11 [1, 1, 1, 0]) e (setN (kont Pg R Go.Proofs.Try.f11) (fun e => ready_Queue_Order_j1 R (e 3))) = (ready_Queue_Order_j2 R (e 0) (e 3)) := (den_join Pg R 0 (cd Go.Proofs.Try.f11 [1, 1, 1, 0]) (cd Go.Proofs.Try.f11 [1, 1, 1, 0, 1]) e (setN (kont Pg R Go.Proofs.Try.f11) (fun e => ready_Queue_Order_j1 R (e 3))) (fun e => ready_Queue_Order_j3 R (e 0) (e 3) (e 4)) _ (by kernel_rfl) (fun e => ready_Queue_Order_j3_ok R e) (by kernel_rfl))
def ready_Queue_Order (R : ER) (x0 : Value) : WP :=
  pv (eqNilP x0) fun v31 =>
  cnd v31 (
   R (.returned (.slice none 0 0))) (
   ready_Queue_Order_j2 R x0 (.slice none 0 0))
theorem ready_Queue_Order_den (R : ER) (x0 : Value) : den Pg R (cd Go.Proofs.Try.f11 []) (argsEnv [x0]) (kont Pg R Go.Proofs.Try.f11) = ready_Queue_Order R x0 :=
  have h : ∀ e, den Pg R (cd Go.Proofs.Try.f11 []) e (kont Pg R Go.Proofs.Try.f11) = ready_Queue_Order R (e 0) := fun e => (den_join Pg R 3 (cd Go.Proofs.Try.f11 []) (cd Go.Proofs.Try.f11 [1, 1, 1, 1]) e (kont Pg R Go.Proofs.Try.f11) (fun e => ready_Queue_Order_j1 R (e 3)) _ (by kernel_rfl) (fun e => ready_Queue_Order_j1_ok R e) (den_join Pg R 2 (pre 3 (cd Go.Proofs.Try.f11 [])) (cd Go.Proofs.Try.f11 [1, 1, 1, 0]) e (setN (kont Pg R Go.Proofs.Try.f11) (fun e => ready_Queue_Order_j1 R (e 3))) (fun e => ready_Queue_Order_j2 R (e 0) (e 3)) _ (by kernel_rfl) (fun e => ready_Queue_Order_j2_ok R e) (by kernel_rfl)))
  h _
theorem ready_Queue_Order_calls {R : ER} {x0 : Value} {w : World} (h : ready_Queue_Order R x0 w) : Calls Pg 11 ⟨[x0]⟩ w R :=
  calls_of_den Go.Proofs.Try.func11 (by kernel_rfl) (by kernel_rfl) (ready_Queue_Order_den R x0) h
/-! ### 12: ready_Queue_Rotate -/
def ready_Queue_Rotate (R : ER) (x0 x1 : Value) : WP :=
  pv (eqNilP x0) fun v1 =>
  cnd v1 (
   R (.returned (.int .i64 35))) (
   cal Pg R 24 ⟨[x1]⟩ fun v2 =>
   pv (unO .not v2) fun v3 =>
   cnd v3 (
    R (.returned (.int .i64 34))) (
    pv (nilO x0) fun v4 =>
    pv (faO 0 v4) fun v5 =>
    pv (faO 0 v5) fun v6 =>
    pv (ixA 256 1 v6 x1) fun v7 =>
    ld1 v7 fun v8 =>
    pv (bin .eql v8 (.int .i64 (-1))) fun v9 =>
    cnd v9 (
     R (.returned (.int .i64 22))) (
     drewV (
  pv (nilO x0) fun v10 =>
  pv (faO 0 v10) fun v11 =>
  pv (faO 0 v11) fun v12 =>
  pv (ixA 256 1 v12 x1) fun v13 =>
  ld1 v13 fun v14 =>
  pv (nilO x0) fun v15 =>
  pv (faO 0 v15) fun v16 =>
  pv (faO 256 v16) fun v17 =>
  pv (ixA 256 5 v17 v14) fun v18 =>
  pv (faO 1 v18) fun v19 =>
  ld1 v19 fun v20 =>
  pv (nilO x0) fun v21 =>
  pv (faO 0 v21) fun v22 =>
  pv (faO 0 v22) fun v23 =>
  pv (ixA 256 1 v23 x1) fun v24 =>
  mem fun w25 => st1 v24 v20 fun _ =>
  R (.returned (.int .i64 0))))))
theorem ready_Queue_Rotate_den (R : ER) (x0 x1 : Value) : den Pg R (cd Go.Proofs.Try.f12 []) (argsEnv [x0, x1]) (kont Pg R Go.Proofs.Try.f12) = ready_Queue_Rotate R x0 x1 :=
  have h : ∀ e, den Pg R (cd Go.Proofs.Try.f12 []) e (kont Pg R Go.Proofs.Try.f12) = ready_Queue_Rotate R (e 0) (e 1) := fun e => by kernel_rfl
  h _
theorem ready_Queue_Rotate_calls {R : ER} {x0 x1 : Value} {w : World} (h : ready_Queue_Rotate R x0 x1 w) : Calls Pg 12 ⟨[x0, x1]⟩ w R :=
  calls_of_den Go.Proofs.Try.func12 (by kernel_rfl) (by kernel_rfl) (ready_Queue_Rotate_den R x0 x1) h
/-! ### 13: orpimentlaw02_Equal -/
def orpimentlaw02_Equal_j1 (R : ER) : WP :=
  R (.returned (.bool true))
theorem orpimentlaw02_Equal_j1_ok (R : ER) (e : Env) : den Pg R (cd Go.Proofs.Try.f13 [1, 1, 1]) e (kont Pg R Go.Proofs.Try.f13) = (orpimentlaw02_Equal_j1 R) := by kernel_rfl
def orpimentlaw02_Equal_b4 (R : ER) (k1 : Value → Value → Value → WP) (x0 x1 x5 : Value) : WP :=
  pv (lenS x0) fun v1 =>
  pv (bin .lss x5 v1) fun v2 =>
  cnd v2 (
   drewV (
  pv (ixS 1 x0 x5) fun v3 =>
  ld1 v3 fun v4 =>
  pv (ixS 1 x1 x5) fun v5 =>
  ld1 v5 fun v6 =>
  pv (bin .neq v4 v6) fun v7 =>
  cnd v7 (
   R (.returned (.bool false))) (
   pv (bin .add x5 (.int .i64 1)) fun v8 =>
  k1 x0 x1 v8))) (
   orpimentlaw02_Equal_j1 R)
theorem orpimentlaw02_Equal_b4_ok (R : ER) (k1 : Value → Value → Value → WP) (e : Env) : den Pg R (cd Go.Proofs.Try.f13 [1, 1, 0, 1, 0, 0]) e (setN (inB 0 (setN (kont Pg R Go.Proofs.Try.f13) (fun e => orpimentlaw02_Equal_j1 R))) (fun e => k1 (e 0) (e 1) (e 5))) = (orpimentlaw02_Equal_b4 R k1 (e 0) (e 1) (e 5)) := by kernel_rfl
noncomputable def orpimentlaw02_Equal_l5 (R : ER) (n : Nat) : Value → Value → Value → WP := Nat.rec (motive := fun _ => Value → Value → Value → WP) (fun _ _ _ => fun _ => False) (fun _ ih => fun x0 x1 x5 => orpimentlaw02_Equal_b4 R ih x0 x1 x5) n
theorem orpimentlaw02_Equal_l5_succ (R : ER) (n : Nat) (x0 x1 x5 : Value) : orpimentlaw02_Equal_l5 R (n + 1) x0 x1 x5 = orpimentlaw02_Equal_b4 R (orpimentlaw02_Equal_l5 R n) x0 x1 x5 := rfl
theorem orpimentlaw02_Equal_l5_ok (R : ER) : ∀ (n : Nat) (e : Env), iterL (den Pg R (cd Go.Proofs.Try.f13 [1, 1, 0, 1, 0, 0])) n e (inB 0 (setN (kont Pg R Go.Proofs.Try.f13) (fun e => orpimentlaw02_Equal_j1 R))) = orpimentlaw02_Equal_l5 R n (e 0) (e 1) (e 5) :=
  iterL_join (den Pg R (cd Go.Proofs.Try.f13 [1, 1, 0, 1, 0, 0])) (inB 0 (setN (kont Pg R Go.Proofs.Try.f13) (fun e => orpimentlaw02_Equal_j1 R))) (fun n e => orpimentlaw02_Equal_l5 R n (e 0) (e 1) (e 5)) (fun _ => rfl) (fun n e => (orpimentlaw02_Equal_b4_ok R (orpimentlaw02_Equal_l5 R n) e).trans (orpimentlaw02_Equal_l5_succ R n (e 0) (e 1) (e 5)).symm)
def orpimentlaw02_Equal_j3 (R : ER) (x0 x1 x5 : Value) : WP :=
  exN fun n => orpimentlaw02_Equal_l5 R n x0 x1 x5
theorem orpimentlaw02_Equal_j3_ok (R : ER) (e : Env) : den Pg R (cd Go.Proofs.Try.f13 [1, 1, 0, 1]) e (setN (kont Pg R Go.Proofs.Try.f13) (fun e => orpimentlaw02_Equal_j1 R)) = (orpimentlaw02_Equal_j3 R (e 0) (e 1) (e 5)) := (den_block Pg R (cd Go.Proofs.Try.f13 [1, 1, 0, 1]) 0 (cd Go.Proofs.Try.f13 [1, 1, 0, 1, 0]) e (setN (kont Pg R Go.Proofs.Try.f13) (fun e => orpimentlaw02_Equal_j1 R)) _ (by kernel_rfl) (den_loop Pg R (cd Go.Proofs.Try.f13 [1, 1, 0, 1, 0]) (cd Go.Proofs.Try.f13 [1, 1, 0, 1, 0, 0]) e (inB 0 (setN (kont Pg R Go.Proofs.Try.f13) (fun e => orpimentlaw02_Equal_j1 R))) (fun n e => orpimentlaw02_Equal_l5 R n (e 0) (e 1) (e 5)) _ (by kernel_rfl) (orpimentlaw02_Equal_l5_ok R) (by kernel_rfl)))
def orpimentlaw02_Equal_j2 (R : ER) (x0 x1 : Value) : WP :=
  orpimentlaw02_Equal_j3 R x0 x1 (.int .i64 0)
theorem orpimentlaw02_Equal_j2_ok (R : ER) (e : Env) : den Pg R (cd Go.Proofs.Try.f13 [1, 1, 0]) e (setN (kont Pg R Go.Proofs.Try.f13) (fun e => orpimentlaw02_Equal_j1 R)) = (orpimentlaw02_Equal_j2 R (e 0) (e 1)) := (den_join Pg R 0 (cd Go.Proofs.Try.f13 [1, 1, 0]) (cd Go.Proofs.Try.f13 [1, 1, 0, 1]) e (setN (kont Pg R Go.Proofs.Try.f13) (fun e => orpimentlaw02_Equal_j1 R)) (fun e => orpimentlaw02_Equal_j3 R (e 0) (e 1) (e 5)) _ (by kernel_rfl) (fun e => orpimentlaw02_Equal_j3_ok R e) (by kernel_rfl))
def orpimentlaw02_Equal (R : ER) (x0 x1 : Value) : WP :=
  pv (lenS x0) fun v9 =>
  pv (lenS x1) fun v10 =>
  pv (bin .neq v9 v10) fun v11 =>
  cnd v11 (
   R (.returned (.bool false))) (
   orpimentlaw02_Equal_j2 R x0 x1)
theorem orpimentlaw02_Equal_den (R : ER) (x0 x1 : Value) : den Pg R (cd Go.Proofs.Try.f13 []) (argsEnv [x0, x1]) (kont Pg R Go.Proofs.Try.f13) = orpimentlaw02_Equal R x0 x1 :=
  have h : ∀ e, den Pg R (cd Go.Proofs.Try.f13 []) e (kont Pg R Go.Proofs.Try.f13) = orpimentlaw02_Equal R (e 0) (e 1) := fun e => (den_join Pg R 2 (cd Go.Proofs.Try.f13 []) (cd Go.Proofs.Try.f13 [1, 1, 1]) e (kont Pg R Go.Proofs.Try.f13) (fun e => orpimentlaw02_Equal_j1 R) _ (by kernel_rfl) (fun e => orpimentlaw02_Equal_j1_ok R e) (den_join Pg R 1 (pre 2 (cd Go.Proofs.Try.f13 [])) (cd Go.Proofs.Try.f13 [1, 1, 0]) e (setN (kont Pg R Go.Proofs.Try.f13) (fun e => orpimentlaw02_Equal_j1 R)) (fun e => orpimentlaw02_Equal_j2 R (e 0) (e 1)) _ (by kernel_rfl) (fun e => orpimentlaw02_Equal_j2_ok R e) (by kernel_rfl)))
  h _
theorem orpimentlaw02_Equal_calls {R : ER} {x0 x1 : Value} {w : World} (h : orpimentlaw02_Equal R x0 x1 w) : Calls Pg 13 ⟨[x0, x1]⟩ w R :=
  calls_of_den Go.Proofs.Try.func13 (by kernel_rfl) (by kernel_rfl) (orpimentlaw02_Equal_den R x0 x1) h
/-! ### 14: ready_Queue_Priority -/
def ready_Queue_Priority (R : ER) (x0 x1 : Value) : WP :=
  cal Pg R 28 ⟨[x0, x1, (.bool true)]⟩ fun v1 =>
  pv (bin .neq v1 (.int .i64 0)) fun v2 =>
  cnd v2 (
   R (.returned (.tuple ⟨[(.int .i64 0), v1]⟩))) (
   pv (nilO x0) fun v3 =>
  pv (faO 0 v3) fun v4 =>
  pv (faO 256 v4) fun v5 =>
  pv (ixA 256 5 v5 x1) fun v6 =>
  pv (faO 2 v6) fun v7 =>
  ld1 v7 fun v8 =>
  R (.returned (.tuple ⟨[v8, (.int .i64 0)]⟩)))
theorem ready_Queue_Priority_den (R : ER) (x0 x1 : Value) : den Pg R (cd Go.Proofs.Try.f14 []) (argsEnv [x0, x1]) (kont Pg R Go.Proofs.Try.f14) = ready_Queue_Priority R x0 x1 :=
  have h : ∀ e, den Pg R (cd Go.Proofs.Try.f14 []) e (kont Pg R Go.Proofs.Try.f14) = ready_Queue_Priority R (e 0) (e 1) := fun e => by kernel_rfl
  h _
theorem ready_Queue_Priority_calls {R : ER} {x0 x1 : Value} {w : World} (h : ready_Queue_Priority R x0 x1 w) : Calls Pg 14 ⟨[x0, x1]⟩ w R :=
  calls_of_den Go.Proofs.Try.func14 (by kernel_rfl) (by kernel_rfl) (ready_Queue_Priority_den R x0 x1) h
/-! ### 15: ready_Queue_Remove -/
def ready_Queue_Remove (R : ER) (x0 x1 : Value) : WP :=
  cal Pg R 28 ⟨[x0, x1, (.bool true)]⟩ fun v1 =>
  pv (bin .neq v1 (.int .i64 0)) fun v2 =>
  cnd v2 (
   R (.returned v1)) (
   pv (nilO x0) fun v3 =>
  pv (faO 0 v3) fun v4 =>
  cal Pg R 29 ⟨[v4, x1]⟩ fun v5 =>
  pv (nilO x0) fun v6 =>
  pv (faO 0 v6) fun v7 =>
  pv (faO 256 v7) fun v8 =>
  pv (ixA 256 5 v8 x1) fun v9 =>
  pv (faO 4 v9) fun v10 =>
  st1 v10 (.bool false) fun _ =>
  pv (nilO x0) fun v11 =>
  pv (faO 1540 v11) fun v12 =>
  ld1 v12 fun v13 =>
  pv (bin .sub v13 (.int .i64 1)) fun v14 =>
  pv (nilO x0) fun v15 =>
  pv (faO 1540 v15) fun v16 =>
  st1 v16 v14 fun _ =>
  R (.returned (.int .i64 0)))
theorem ready_Queue_Remove_den (R : ER) (x0 x1 : Value) : den Pg R (cd Go.Proofs.Try.f15 []) (argsEnv [x0, x1]) (kont Pg R Go.Proofs.Try.f15) = ready_Queue_Remove R x0 x1 :=
  have h : ∀ e, den Pg R (cd Go.Proofs.Try.f15 []) e (kont Pg R Go.Proofs.Try.f15) = ready_Queue_Remove R (e 0) (e 1) := fun e => by kernel_rfl
  h _
theorem ready_Queue_Remove_calls {R : ER} {x0 x1 : Value} {w : World} (h : ready_Queue_Remove R x0 x1 w) : Calls Pg 15 ⟨[x0, x1]⟩ w R :=
  calls_of_den Go.Proofs.Try.func15 (by kernel_rfl) (by kernel_rfl) (ready_Queue_Remove_den R x0 x1) h
/-! ### 16: ready_Queue_Take -/
def ready_Queue_Take (R : ER) (x0 x1 : Value) : WP :=
  cal Pg R 19 ⟨[x0, x1]⟩ fun v1 =>
  pv (extO 0 v1) fun v2 =>
  pv (extO 1 v1) fun v3 =>
  pv (bin .neq v3 (.int .i64 0)) fun v4 =>
  cnd v4 (
   R (.returned (.tuple ⟨[(.int .i64 0), v3]⟩))) (
   cal Pg R 15 ⟨[x0, v2]⟩ fun v5 =>
  R (.returned (.tuple ⟨[v2, v5]⟩)))
theorem ready_Queue_Take_den (R : ER) (x0 x1 : Value) : den Pg R (cd Go.Proofs.Try.f16 []) (argsEnv [x0, x1]) (kont Pg R Go.Proofs.Try.f16) = ready_Queue_Take R x0 x1 :=
  have h : ∀ e, den Pg R (cd Go.Proofs.Try.f16 []) e (kont Pg R Go.Proofs.Try.f16) = ready_Queue_Take R (e 0) (e 1) := fun e => by kernel_rfl
  h _
theorem ready_Queue_Take_calls {R : ER} {x0 x1 : Value} {w : World} (h : ready_Queue_Take R x0 x1 w) : Calls Pg 16 ⟨[x0, x1]⟩ w R :=
  calls_of_den Go.Proofs.Try.func16 (by kernel_rfl) (by kernel_rfl) (ready_Queue_Take_den R x0 x1) h
/-! ### 17: ready_Queue_Greatest -/
def ready_Queue_Greatest (R : ER) (x0 : Value) : WP :=
  pv (eqNilP x0) fun v1 =>
  cnd v1 (
   R (.returned (.int .i64 (-1)))) (
   pv (nilO x0) fun v2 =>
  pv (faO 0 v2) fun v3 =>
  cal Pg R 27 ⟨[v3, (.int .i64 256)]⟩ fun v4 =>
  R (.returned v4))
theorem ready_Queue_Greatest_den (R : ER) (x0 : Value) : den Pg R (cd Go.Proofs.Try.f17 []) (argsEnv [x0]) (kont Pg R Go.Proofs.Try.f17) = ready_Queue_Greatest R x0 :=
  have h : ∀ e, den Pg R (cd Go.Proofs.Try.f17 []) e (kont Pg R Go.Proofs.Try.f17) = ready_Queue_Greatest R (e 0) := fun e => by kernel_rfl
  h _
theorem ready_Queue_Greatest_calls {R : ER} {x0 : Value} {w : World} (h : ready_Queue_Greatest R x0 w) : Calls Pg 17 ⟨[x0]⟩ w R :=
  calls_of_den Go.Proofs.Try.func17 (by kernel_rfl) (by kernel_rfl) (ready_Queue_Greatest_den R x0) h
/-! ### 18: ready_Queue_Len -/
def ready_Queue_Len (R : ER) (x0 : Value) : WP :=
  pv (eqNilP x0) fun v1 =>
  cnd v1 (
   R (.returned (.int .i64 0))) (
   pv (nilO x0) fun v2 =>
  pv (faO 1540 v2) fun v3 =>
  ld1 v3 fun v4 =>
  R (.returned v4))
theorem ready_Queue_Len_den (R : ER) (x0 : Value) : den Pg R (cd Go.Proofs.Try.f18 []) (argsEnv [x0]) (kont Pg R Go.Proofs.Try.f18) = ready_Queue_Len R x0 :=
  have h : ∀ e, den Pg R (cd Go.Proofs.Try.f18 []) e (kont Pg R Go.Proofs.Try.f18) = ready_Queue_Len R (e 0) := fun e => by kernel_rfl
  h _
theorem ready_Queue_Len_calls {R : ER} {x0 : Value} {w : World} (h : ready_Queue_Len R x0 w) : Calls Pg 18 ⟨[x0]⟩ w R :=
  calls_of_den Go.Proofs.Try.func18 (by kernel_rfl) (by kernel_rfl) (ready_Queue_Len_den R x0) h
/-! ### 19: ready_Queue_Best -/
def ready_Queue_Best_j1 (R : ER) : WP :=
  R (.returned (.tuple ⟨[(.int .i64 0), (.int .i64 22)]⟩))
theorem ready_Queue_Best_j1_ok (R : ER) (e : Env) : den Pg R (cd Go.Proofs.Try.f19 [1, 1, 1]) e (kont Pg R Go.Proofs.Try.f19) = (ready_Queue_Best_j1 R) := by kernel_rfl
def ready_Queue_Best_j5 (R : ER) (k1 : Value → Value → Value → WP) (x0 x1 x6 : Value) : WP :=
  pv (nilO x0) fun v1 =>
  pv (faO 0 v1) fun v2 =>
  cal Pg R 27 ⟨[v2, x6]⟩ fun v3 =>
  k1 x0 x1 v3
theorem ready_Queue_Best_j5_ok (R : ER) (k1 : Value → Value → Value → WP) (e : Env) : den Pg R (cd Go.Proofs.Try.f19 [1, 1, 0, 1, 0, 0, 1, 1]) e (setN (inB 1 (setN (kont Pg R Go.Proofs.Try.f19) (fun e => ready_Queue_Best_j1 R))) (fun e => k1 (e 0) (e 1) (e 6))) = (ready_Queue_Best_j5 R k1 (e 0) (e 1) (e 6)) := by kernel_rfl
def ready_Queue_Best_b8 (R : ER) (k1 : Value → Value → Value → WP) (k2 : Value → Value → Value → Value → Value → WP) (x0 x1 x6 x7 x8 : Value) : WP :=
  pv (nilO x0) fun v4 =>
  pv (faO 0 v4) fun v5 =>
  pv (faO 256 v5) fun v6 =>
  pv (ixA 256 5 v6 x8) fun v7 =>
  pv (faO 3 v7) fun v8 =>
  ld1 v8 fun v9 =>
  pv (bin .shr v9 x1) fun v10 =>
  pv (bin .and v10 (.int .i64 1)) fun v11 =>
  pv (bin .eql v11 (.int .i64 1)) fun v12 =>
  cnd v12 (
   R (.returned (.tuple ⟨[x8, (.int .i64 0)]⟩))) (
   pv (nilO x0) fun v13 =>
  pv (faO 0 v13) fun v14 =>
  pv (faO 256 v14) fun v15 =>
  pv (ixA 256 5 v15 x8) fun v16 =>
  pv (faO 1 v16) fun v17 =>
  ld1 v17 fun v18 =>
  pv (bin .eql v18 x7) fun v19 =>
  cnd v19 (
   ready_Queue_Best_j5 R k1 x0 x1 x6) (
   k2 x0 x1 x6 x7 v18))
theorem ready_Queue_Best_b8_ok (R : ER) (k1 : Value → Value → Value → WP) (k2 : Value → Value → Value → Value → Value → WP) (e : Env) : den Pg R (cd Go.Proofs.Try.f19 [1, 1, 0, 1, 0, 0, 1, 0, 0, 1, 1, 0, 0]) e (setN (inB 3 (inB 2 (setN (setN (inB 1 (setN (kont Pg R Go.Proofs.Try.f19) (fun e => ready_Queue_Best_j1 R))) (fun e => k1 (e 0) (e 1) (e 6))) (fun e => ready_Queue_Best_j5 R k1 (e 0) (e 1) (e 6))))) (fun e => k2 (e 0) (e 1) (e 6) (e 7) (e 8))) = (ready_Queue_Best_b8 R k1 k2 (e 0) (e 1) (e 6) (e 7) (e 8)) := by kernel_rfl
noncomputable def ready_Queue_Best_l9 (R : ER) (k1 : Value → Value → Value → WP) (n : Nat) : Value → Value → Value → Value → Value → WP := Nat.rec (motive := fun _ => Value → Value → Value → Value → Value → WP) (fun _ _ _ _ _ => fun _ => False) (fun _ ih => fun x0 x1 x6 x7 x8 => ready_Queue_Best_b8 R k1 ih x0 x1 x6 x7 x8) n
theorem ready_Queue_Best_l9_succ (R : ER) (k1 : Value → Value → Value → WP) (n : Nat) (x0 x1 x6 x7 x8 : Value) : ready_Queue_Best_l9 R k1 (n + 1) x0 x1 x6 x7 x8 = ready_Queue_Best_b8 R k1 (ready_Queue_Best_l9 R k1 n) x0 x1 x6 x7 x8 := rfl
theorem ready_Queue_Best_l9_ok (R : ER) (k1 : Value → Value → Value → WP) : ∀ (n : Nat) (e : Env), iterL (den Pg R (cd Go.Proofs.Try.f19 [1, 1, 0, 1, 0, 0, 1, 0, 0, 1, 1, 0, 0])) n e (inB 3 (inB 2 (setN (setN (inB 1 (setN (kont Pg R Go.Proofs.Try.f19) (fun e => ready_Queue_Best_j1 R))) (fun e => k1 (e 0) (e 1) (e 6))) (fun e => ready_Queue_Best_j5 R k1 (e 0) (e 1) (e 6))))) = ready_Queue_Best_l9 R k1 n (e 0) (e 1) (e 6) (e 7) (e 8) :=
  iterL_join (den Pg R (cd Go.Proofs.Try.f19 [1, 1, 0, 1, 0, 0, 1, 0, 0, 1, 1, 0, 0])) (inB 3 (inB 2 (setN (setN (inB 1 (setN (kont Pg R Go.Proofs.Try.f19) (fun e => ready_Queue_Best_j1 R))) (fun e => k1 (e 0) (e 1) (e 6))) (fun e => ready_Queue_Best_j5 R k1 (e 0) (e 1) (e 6))))) (fun n e => ready_Queue_Best_l9 R k1 n (e 0) (e 1) (e 6) (e 7) (e 8)) (fun _ => rfl) (fun n e => (ready_Queue_Best_b8_ok R k1 (ready_Queue_Best_l9 R k1 n) e).trans (ready_Queue_Best_l9_succ R k1 n (e 0) (e 1) (e 6) (e 7) (e 8)).symm)
def ready_Queue_Best_j7 (R : ER) (k1 : Value → Value → Value → WP) (x0 x1 x6 x7 x8 : Value) : WP :=
  exN fun n => ready_Queue_Best_l9 R k1 n x0 x1 x6 x7 x8
theorem ready_Queue_Best_j7_ok (R : ER) (k1 : Value → Value → Value → WP) (e : Env) : den Pg R (cd Go.Proofs.Try.f19 [1, 1, 0, 1, 0, 0, 1, 0, 0, 1, 1]) e (inB 2 (setN (setN (inB 1 (setN (kont Pg R Go.Proofs.Try.f19) (fun e => ready_Queue_Best_j1 R))) (fun e => k1 (e 0) (e 1) (e 6))) (fun e => ready_Queue_Best_j5 R k1 (e 0) (e 1) (e 6)))) = (ready_Queue_Best_j7 R k1 (e 0) (e 1) (e 6) (e 7) (e 8)) := (den_block Pg R (cd Go.Proofs.Try.f19 [1, 1, 0, 1, 0, 0, 1, 0, 0, 1, 1]) 3 (cd Go.Proofs.Try.f19 [1, 1, 0, 1, 0, 0, 1, 0, 0, 1, 1, 0]) e (inB 2 (setN (setN (inB 1 (setN (kont Pg R Go.Proofs.Try.f19) (fun e => ready_Queue_Best_j1 R))) (fun e => k1 (e 0) (e 1) (e 6))) (fun e => ready_Queue_Best_j5 R k1 (e 0) (e 1) (e 6)))) _ (by kernel_rfl) (den_loop Pg R (cd Go.Proofs.Try.f19 [1, 1, 0, 1, 0, 0, 1, 0, 0, 1, 1, 0]) (cd Go.Proofs.Try.f19 [1, 1, 0, 1, 0, 0, 1, 0, 0, 1, 1, 0, 0]) e (inB 3 (inB 2 (setN (setN (inB 1 (setN (kont Pg R Go.Proofs.Try.f19) (fun e => ready_Queue_Best_j1 R))) (fun e => k1 (e 0) (e 1) (e 6))) (fun e => ready_Queue_Best_j5 R k1 (e 0) (e 1) (e 6))))) (fun n e => ready_Queue_Best_l9 R k1 n (e 0) (e 1) (e 6) (e 7) (e 8)) _ (by kernel_rfl) (ready_Queue_Best_l9_ok R k1) (by kernel_rfl)))
def ready_Queue_Best_j6 (R : ER) (k1 : Value → Value → Value → WP) (x0 x1 x6 : Value) : WP :=
  pv (nilO x0) fun v20 =>
  pv (faO 0 v20) fun v21 =>
  pv (faO 0 v21) fun v22 =>
  pv (ixA 256 1 v22 x6) fun v23 =>
  ld1 v23 fun v24 =>
  ready_Queue_Best_j7 R k1 x0 x1 x6 v24 v24
theorem ready_Queue_Best_j6_ok (R : ER) (k1 : Value → Value → Value → WP) (e : Env) : den Pg R (cd Go.Proofs.Try.f19 [1, 1, 0, 1, 0, 0, 1, 0]) e (setN (setN (inB 1 (setN (kont Pg R Go.Proofs.Try.f19) (fun e => ready_Queue_Best_j1 R))) (fun e => k1 (e 0) (e 1) (e 6))) (fun e => ready_Queue_Best_j5 R k1 (e 0) (e 1) (e 6))) = (ready_Queue_Best_j6 R k1 (e 0) (e 1) (e 6)) := (den_block Pg R (cd Go.Proofs.Try.f19 [1, 1, 0, 1, 0, 0, 1, 0]) 2 (cd Go.Proofs.Try.f19 [1, 1, 0, 1, 0, 0, 1, 0, 0]) e (setN (setN (inB 1 (setN (kont Pg R Go.Proofs.Try.f19) (fun e => ready_Queue_Best_j1 R))) (fun e => k1 (e 0) (e 1) (e 6))) (fun e => ready_Queue_Best_j5 R k1 (e 0) (e 1) (e 6))) _ (by kernel_rfl) (den_join Pg R 1 (cd Go.Proofs.Try.f19 [1, 1, 0, 1, 0, 0, 1, 0, 0]) (cd Go.Proofs.Try.f19 [1, 1, 0, 1, 0, 0, 1, 0, 0, 1, 1]) e (inB 2 (setN (setN (inB 1 (setN (kont Pg R Go.Proofs.Try.f19) (fun e => ready_Queue_Best_j1 R))) (fun e => k1 (e 0) (e 1) (e 6))) (fun e => ready_Queue_Best_j5 R k1 (e 0) (e 1) (e 6)))) (fun e => ready_Queue_Best_j7 R k1 (e 0) (e 1) (e 6) (e 7) (e 8)) _ (by kernel_rfl) (fun e => ready_Queue_Best_j7_ok R k1 e) (by kernel_rfl)))
def ready_Queue_Best_b4 (R : ER) (k1 : Value → Value → Value → WP) (x0 x1 x6 : Value) : WP :=
  pv (bin .neq x6 (.int .i64 (-1))) fun v25 =>
  cnd v25 (
   ready_Queue_Best_j6 R k1 x0 x1 x6) (
   ready_Queue_Best_j1 R)
theorem ready_Queue_Best_b4_ok (R : ER) (k1 : Value → Value → Value → WP) (e : Env) : den Pg R (cd Go.Proofs.Try.f19 [1, 1, 0, 1, 0, 0]) e (setN (inB 1 (setN (kont Pg R Go.Proofs.Try.f19) (fun e => ready_Queue_Best_j1 R))) (fun e => k1 (e 0) (e 1) (e 6))) = (ready_Queue_Best_b4 R k1 (e 0) (e 1) (e 6)) := (den_join Pg R 1 (cd Go.Proofs.Try.f19 [1, 1, 0, 1, 0, 0]) (cd Go.Proofs.Try.f19 [1, 1, 0, 1, 0, 0, 1, 1]) e (setN (inB 1 (setN (kont Pg R Go.Proofs.Try.f19) (fun e => ready_Queue_Best_j1 R))) (fun e => k1 (e 0) (e 1) (e 6))) (fun e => ready_Queue_Best_j5 R k1 (e 0) (e 1) (e 6)) _ (by kernel_rfl) (fun e => ready_Queue_Best_j5_ok R k1 e) (den_join Pg R 0 (pre 1 (cd Go.Proofs.Try.f19 [1, 1, 0, 1, 0, 0])) (cd Go.Proofs.Try.f19 [1, 1, 0, 1, 0, 0, 1, 0]) e (setN (setN (inB 1 (setN (kont Pg R Go.Proofs.Try.f19) (fun e => ready_Queue_Best_j1 R))) (fun e => k1 (e 0) (e 1) (e 6))) (fun e => ready_Queue_Best_j5 R k1 (e 0) (e 1) (e 6))) (fun e => ready_Queue_Best_j6 R k1 (e 0) (e 1) (e 6)) _ (by kernel_rfl) (fun e => ready_Queue_Best_j6_ok R k1 e) (by kernel_rfl)))
noncomputable def ready_Queue_Best_l10 (R : ER) (n : Nat) : Value → Value → Value → WP := Nat.rec (motive := fun _ => Value → Value → Value → WP) (fun _ _ _ => fun _ => False) (fun _ ih => fun x0 x1 x6 => ready_Queue_Best_b4 R ih x0 x1 x6) n
theorem ready_Queue_Best_l10_succ (R : ER) (n : Nat) (x0 x1 x6 : Value) : ready_Queue_Best_l10 R (n + 1) x0 x1 x6 = ready_Queue_Best_b4 R (ready_Queue_Best_l10 R n) x0 x1 x6 := rfl
theorem ready_Queue_Best_l10_ok (R : ER) : ∀ (n : Nat) (e : Env), iterL (den Pg R (cd Go.Proofs.Try.f19 [1, 1, 0, 1, 0, 0])) n e (inB 1 (setN (kont Pg R Go.Proofs.Try.f19) (fun e => ready_Queue_Best_j1 R))) = ready_Queue_Best_l10 R n (e 0) (e 1) (e 6) :=
  iterL_join (den Pg R (cd Go.Proofs.Try.f19 [1, 1, 0, 1, 0, 0])) (inB 1 (setN (kont Pg R Go.Proofs.Try.f19) (fun e => ready_Queue_Best_j1 R))) (fun n e => ready_Queue_Best_l10 R n (e 0) (e 1) (e 6)) (fun _ => rfl) (fun n e => (ready_Queue_Best_b4_ok R (ready_Queue_Best_l10 R n) e).trans (ready_Queue_Best_l10_succ R n (e 0) (e 1) (e 6)).symm)
def ready_Queue_Best_j3 (R : ER) (x0 x1 x6 : Value) : WP :=
  exN fun n => ready_Queue_Best_l10 R n x0 x1 x6
theorem ready_Queue_Best_j3_ok (R : ER) (e : Env) : den Pg R (cd Go.Proofs.Try.f19 [1, 1, 0, 1]) e (setN (kont Pg R Go.Proofs.Try.f19) (fun e => ready_Queue_Best_j1 R)) = (ready_Queue_Best_j3 R (e 0) (e 1) (e 6)) := (den_block Pg R (cd Go.Proofs.Try.f19 [1, 1, 0, 1]) 1 (cd Go.Proofs.Try.f19 [1, 1, 0, 1, 0]) e (setN (kont Pg R Go.Proofs.Try.f19) (fun e => ready_Queue_Best_j1 R)) _ (by kernel_rfl) (den_loop Pg R (cd Go.Proofs.Try.f19 [1, 1, 0, 1, 0]) (cd Go.Proofs.Try.f19 [1, 1, 0, 1, 0, 0]) e (inB 1 (setN (kont Pg R Go.Proofs.Try.f19) (fun e => ready_Queue_Best_j1 R))) (fun n e => ready_Queue_Best_l10 R n (e 0) (e 1) (e 6)) _ (by kernel_rfl) (ready_Queue_Best_l10_ok R) (by kernel_rfl)))
def ready_Queue_Best_j2 (R : ER) (x0 x1 : Value) : WP :=
  pv (nilO x0) fun v26 =>
  pv (faO 0 v26) fun v27 =>
  cal Pg R 27 ⟨[v27, (.int .i64 256)]⟩ fun v28 =>
  ready_Queue_Best_j3 R x0 x1 v28
theorem ready_Queue_Best_j2_ok (R : ER) (e : Env) : den Pg R (cd Go.Proofs.Try.f19 [1, 1, 0]) e (setN (kont Pg R Go.Proofs.Try.f19) (fun e => ready_Queue_Best_j1 R)) = (ready_Queue_Best_j2 R (e 0) (e 1)) := (den_join Pg R 0 (cd Go.Proofs.Try.f19 [1, 1, 0]) (cd Go.Proofs.Try.f19 [1, 1, 0, 1]) e (setN (kont Pg R Go.Proofs.Try.f19) (fun e => ready_Queue_Best_j1 R)) (fun e => ready_Queue_Best_j3 R (e 0) (e 1) (e 6)) _ (by kernel_rfl) (fun e => ready_Queue_Best_j3_ok R e) (by kernel_rfl))
def ready_Queue_Best (R : ER) (x0 x1 : Value) : WP :=
  pv (eqNilP x0) fun v29 =>
  cnd v29 (
   R (.returned (.tuple ⟨[(.int .i64 0), (.int .i64 35)]⟩))) (
   pv (bin .lss x1 (.int .i64 0)) fun v30 =>
   gd v30 false (pv (some x1)) fun v31 =>
   gd v30 false (pv (bin .geq v31 (.int .i64 8))) fun v32 =>
   pv (pickO v30 (.bool true) v32) fun v33 =>
   cnd v33 (
    R (.returned (.tuple ⟨[(.int .i64 0), (.int .i64 34)]⟩))) (
    ready_Queue_Best_j2 R x0 x1))
theorem ready_Queue_Best_den (R : ER) (x0 x1 : Value) : den Pg R (cd Go.Proofs.Try.f19 []) (argsEnv [x0, x1]) (kont Pg R Go.Proofs.Try.f19) = ready_Queue_Best R x0 x1 :=
  have h : ∀ e, den Pg R (cd Go.Proofs.Try.f19 []) e (kont Pg R Go.Proofs.Try.f19) = ready_Queue_Best R (e 0) (e 1) := fun e => (den_join Pg R 2 (cd Go.Proofs.Try.f19 []) (cd Go.Proofs.Try.f19 [1, 1, 1]) e (kont Pg R Go.Proofs.Try.f19) (fun e => ready_Queue_Best_j1 R) _ (by kernel_rfl) (fun e => ready_Queue_Best_j1_ok R e) (den_join Pg R 1 (pre 2 (cd Go.Proofs.Try.f19 [])) (cd Go.Proofs.Try.f19 [1, 1, 0]) e (setN (kont Pg R Go.Proofs.Try.f19) (fun e => ready_Queue_Best_j1 R)) (fun e => ready_Queue_Best_j2 R (e 0) (e 1)) _ (by kernel_rfl) (fun e => ready_Queue_Best_j2_ok R e) (by kernel_rfl)))
  h _
theorem ready_Queue_Best_calls {R : ER} {x0 x1 : Value} {w : World} (h : ready_Queue_Best R x0 x1 w) : Calls Pg 19 ⟨[x0, x1]⟩ w R :=
  calls_of_den Go.Proofs.Try.func19 (by kernel_rfl) (by kernel_rfl) (ready_Queue_Best_den R x0 x1) h
/-! ### 20: orpimentlaw02_change -/
def orpimentlaw02_change_j1 (R : ER) (x0 x1 x5 : Value) : WP :=
  pv (faO 1 x5) fun v1 =>
  ld1 v1 fun v2 =>
  cal Pg R 14 ⟨[x0, v2]⟩ fun v3 =>
  pv (extO 0 v3) fun v4 =>
  pv (extO 1 v3) fun v5 =>
  pv (faO 1 x5) fun v6 =>
  ld1 v6 fun v7 =>
  cal Pg R 39 ⟨[x1, v7]⟩ fun v8 =>
  pv (extO 0 v8) fun v9 =>
  pv (extO 1 v8) fun v10 =>
  pv (bin .eql v4 v9) fun v11 =>
  gd v11 true (pv (some v5)) fun v12 =>
  gd v11 true (pv (some v10)) fun v13 =>
  gd v11 true (pv (bin .eql v12 v13)) fun v14 =>
  pv (pickO v11 v14 (.bool false)) fun v15 =>
  R (.returned v15)
theorem orpimentlaw02_change_j1_ok (R : ER) (e : Env) : den Pg R (cd Go.Proofs.Try.f20 [1, 1]) e (kont Pg R Go.Proofs.Try.f20) = (orpimentlaw02_change_j1 R (e 0) (e 1) (e 5)) := by kernel_rfl
def orpimentlaw02_change_j4 (R : ER) (x0 x1 x5 x21 x22 : Value) : WP :=
  cnd x22 (
   drewV (
   pv (faO 1 x5) fun v16 =>
   ld1 v16 fun v17 =>
   pv (faO 2 x5) fun v18 =>
   ld1 v18 fun v19 =>
   pv (faO 3 x5) fun v20 =>
   ld1 v20 fun v21 =>
   pv (faO 5 x5) fun v22 =>
   ld1 v22 fun v23 =>
   mem fun w24 => cal Pg noR 10 ⟨[x0, v17, v19, v21, v23]⟩ fun v25 =>
   pv (faO 1 x5) fun v26 =>
   ld1S [w24] v26 fun v27 =>
   pv (faO 2 x5) fun v28 =>
   ld1S [w24] v28 fun v29 =>
   pv (faO 3 x5) fun v30 =>
   ld1S [w24] v30 fun v31 =>
   pv (faO 5 x5) fun v32 =>
   ld1S [w24] v32 fun v33 =>
   mem fun w34 => cal Pg noR 30 ⟨[x1, v27, v29, v31, v33]⟩ fun v35 =>
   pv (bin .eql v25 v35) fun v36 =>
   R (.returned v36))) (
   pv (bin .eql x21 (.int .u8 2)) fun v37 =>
   cnd v37 (
    drewV (
    pv (faO 1 x5) fun v38 =>
    ld1 v38 fun v39 =>
    mem fun w40 => cal Pg noR 15 ⟨[x0, v39]⟩ fun v41 =>
    pv (faO 1 x5) fun v42 =>
    ld1S [w40] v42 fun v43 =>
    mem fun w44 => cal Pg noR 31 ⟨[x1, v43]⟩ fun v45 =>
    pv (bin .eql v41 v45) fun v46 =>
    R (.returned v46))) (
    pv (bin .eql x21 (.int .u8 3)) fun v47 =>
    cnd v47 (
     drewV (
     pv (faO 1 x5) fun v48 =>
     ld1 v48 fun v49 =>
     pv (faO 2 x5) fun v50 =>
     ld1 v50 fun v51 =>
     pv (faO 5 x5) fun v52 =>
     ld1 v52 fun v53 =>
     mem fun w54 => cal Pg noR 32 ⟨[x0, v49, v51, v53]⟩ fun v55 =>
     pv (faO 1 x5) fun v56 =>
     ld1S [w54] v56 fun v57 =>
     pv (faO 2 x5) fun v58 =>
     ld1S [w54] v58 fun v59 =>
     pv (faO 5 x5) fun v60 =>
     ld1S [w54] v60 fun v61 =>
     mem fun w62 => cal Pg noR 33 ⟨[x1, v57, v59, v61]⟩ fun v63 =>
     pv (bin .eql v55 v63) fun v64 =>
     R (.returned v64))) (
     pv (bin .eql x21 (.int .u8 4)) fun v65 =>
     cnd v65 (
      drewV (
      pv (faO 1 x5) fun v66 =>
      ld1 v66 fun v67 =>
      pv (faO 3 x5) fun v68 =>
      ld1 v68 fun v69 =>
      mem fun w70 => cal Pg noR 34 ⟨[x0, v67, v69]⟩ fun v71 =>
      pv (faO 1 x5) fun v72 =>
      ld1S [w70] v72 fun v73 =>
      pv (faO 3 x5) fun v74 =>
      ld1S [w70] v74 fun v75 =>
      mem fun w76 => cal Pg noR 35 ⟨[x1, v73, v75]⟩ fun v77 =>
      pv (bin .eql v71 v77) fun v78 =>
      R (.returned v78))) (
      pv (bin .eql x21 (.int .u8 5)) fun v79 =>
      cnd v79 (
       drewV (
       pv (faO 2 x5) fun v80 =>
       ld1 v80 fun v81 =>
       mem fun w82 => cal Pg noR 12 ⟨[x0, v81]⟩ fun v83 =>
       pv (faO 2 x5) fun v84 =>
       ld1S [w82] v84 fun v85 =>
       mem fun w86 => cal Pg noR 36 ⟨[x1, v85]⟩ fun v87 =>
       pv (bin .eql v83 v87) fun v88 =>
       R (.returned v88))) (
       pv (bin .eql x21 (.int .u8 6)) fun v89 =>
       cnd v89 (
        pv (faO 4 x5) fun v90 =>
        ld1 v90 fun v91 =>
        cal Pg R 16 ⟨[x0, v91]⟩ fun v92 =>
        pv (extO 0 v92) fun v93 =>
        pv (extO 1 v92) fun v94 =>
        pv (faO 4 x5) fun v95 =>
        ld1 v95 fun v96 =>
        cal Pg R 37 ⟨[x1, v96]⟩ fun v97 =>
        pv (extO 0 v97) fun v98 =>
        pv (extO 1 v97) fun v99 =>
        pv (bin .eql v93 v98) fun v100 =>
        gd v100 true (pv (some v94)) fun v101 =>
        gd v100 true (pv (some v99)) fun v102 =>
        gd v100 true (pv (bin .eql v101 v102)) fun v103 =>
        pv (pickO v100 v103 (.bool false)) fun v104 =>
        R (.returned v104)) (
        pv (bin .eql x21 (.int .u8 7)) fun v105 =>
        cnd v105 (
         pv (faO 4 x5) fun v106 =>
         ld1 v106 fun v107 =>
         cal Pg R 19 ⟨[x0, v107]⟩ fun v108 =>
         pv (extO 0 v108) fun v109 =>
         pv (extO 1 v108) fun v110 =>
         pv (faO 4 x5) fun v111 =>
         ld1 v111 fun v112 =>
         cal Pg R 38 ⟨[x1, v112]⟩ fun v113 =>
         pv (extO 0 v113) fun v114 =>
         pv (extO 1 v113) fun v115 =>
         pv (bin .eql v109 v114) fun v116 =>
         gd v116 true (pv (some v110)) fun v117 =>
         gd v116 true (pv (some v115)) fun v118 =>
         gd v116 true (pv (bin .eql v117 v118)) fun v119 =>
         pv (pickO v116 v119 (.bool false)) fun v120 =>
         R (.returned v120)) (
         orpimentlaw02_change_j1 R x0 x1 x5)))))))
theorem orpimentlaw02_change_j4_ok (R : ER) (e : Env) : den Pg R (cd Go.Proofs.Try.f20 [1, 0, 1, 0, 1]) e (inB 0 (setN (kont Pg R Go.Proofs.Try.f20) (fun e => orpimentlaw02_change_j1 R (e 0) (e 1) (e 5)))) = (orpimentlaw02_change_j4 R (e 0) (e 1) (e 5) (e 21) (e 22)) := by kernel_rfl
def orpimentlaw02_change_j3 (R : ER) (x0 x1 x5 x21 : Value) : WP :=
  pv (bin .eql x21 (.int .u8 0)) fun v121 =>
  cnd v121 (
   orpimentlaw02_change_j4 R x0 x1 x5 x21 v121) (
   pv (bin .eql x21 (.int .u8 1)) fun v122 =>
   orpimentlaw02_change_j4 R x0 x1 x5 x21 v122)
theorem orpimentlaw02_change_j3_ok (R : ER) (e : Env) : den Pg R (cd Go.Proofs.Try.f20 [1, 0, 1]) e (setN (kont Pg R Go.Proofs.Try.f20) (fun e => orpimentlaw02_change_j1 R (e 0) (e 1) (e 5))) = (orpimentlaw02_change_j3 R (e 0) (e 1) (e 5) (e 21)) := (den_block Pg R (cd Go.Proofs.Try.f20 [1, 0, 1]) 0 (cd Go.Proofs.Try.f20 [1, 0, 1, 0]) e (setN (kont Pg R Go.Proofs.Try.f20) (fun e => orpimentlaw02_change_j1 R (e 0) (e 1) (e 5))) _ (by kernel_rfl) (den_join Pg R 0 (cd Go.Proofs.Try.f20 [1, 0, 1, 0]) (cd Go.Proofs.Try.f20 [1, 0, 1, 0, 1]) e (inB 0 (setN (kont Pg R Go.Proofs.Try.f20) (fun e => orpimentlaw02_change_j1 R (e 0) (e 1) (e 5)))) (fun e => orpimentlaw02_change_j4 R (e 0) (e 1) (e 5) (e 21) (e 22)) _ (by kernel_rfl) (fun e => orpimentlaw02_change_j4_ok R e) (by kernel_rfl)))
def orpimentlaw02_change_j2 (R : ER) (x0 x1 x5 : Value) : WP :=
  pv (faO 0 x5) fun v123 =>
  ld1 v123 fun v124 =>
  pv (bin .rem v124 (.int .u8 9)) fun v125 =>
  orpimentlaw02_change_j3 R x0 x1 x5 v125
theorem orpimentlaw02_change_j2_ok (R : ER) (e : Env) : den Pg R (cd Go.Proofs.Try.f20 [1, 0]) e (setN (kont Pg R Go.Proofs.Try.f20) (fun e => orpimentlaw02_change_j1 R (e 0) (e 1) (e 5))) = (orpimentlaw02_change_j2 R (e 0) (e 1) (e 5)) := (den_join Pg R 0 (cd Go.Proofs.Try.f20 [1, 0]) (cd Go.Proofs.Try.f20 [1, 0, 1]) e (setN (kont Pg R Go.Proofs.Try.f20) (fun e => orpimentlaw02_change_j1 R (e 0) (e 1) (e 5))) (fun e => orpimentlaw02_change_j3 R (e 0) (e 1) (e 5) (e 21)) _ (by kernel_rfl) (fun e => orpimentlaw02_change_j3_ok R e) (by kernel_rfl))
def orpimentlaw02_change (R : ER) (x0 x1 x2 : Value) : WP :=
  bx 27 x2 fun v126 =>
  orpimentlaw02_change_j2 R x0 x1 v126
theorem orpimentlaw02_change_den (R : ER) (x0 x1 x2 : Value) : den Pg R (cd Go.Proofs.Try.f20 []) (argsEnv [x0, x1, x2]) (kont Pg R Go.Proofs.Try.f20) = orpimentlaw02_change R x0 x1 x2 :=
  have h : ∀ e, den Pg R (cd Go.Proofs.Try.f20 []) e (kont Pg R Go.Proofs.Try.f20) = orpimentlaw02_change R (e 0) (e 1) (e 2) := fun e => (den_join Pg R 1 (cd Go.Proofs.Try.f20 []) (cd Go.Proofs.Try.f20 [1, 1]) e (kont Pg R Go.Proofs.Try.f20) (fun e => orpimentlaw02_change_j1 R (e 0) (e 1) (e 5)) _ (by kernel_rfl) (fun e => orpimentlaw02_change_j1_ok R e) (den_join Pg R 0 (pre 1 (cd Go.Proofs.Try.f20 [])) (cd Go.Proofs.Try.f20 [1, 0]) e (setN (kont Pg R Go.Proofs.Try.f20) (fun e => orpimentlaw02_change_j1 R (e 0) (e 1) (e 5))) (fun e => orpimentlaw02_change_j2 R (e 0) (e 1) (e 5)) _ (by kernel_rfl) (fun e => orpimentlaw02_change_j2_ok R e) (by kernel_rfl)))
  h _
theorem orpimentlaw02_change_calls {R : ER} {x0 x1 x2 : Value} {w : World} (h : orpimentlaw02_change R x0 x1 x2 w) : Calls Pg 20 ⟨[x0, x1, x2]⟩ w R :=
  calls_of_den Go.Proofs.Try.func20 (by kernel_rfl) (by kernel_rfl) (orpimentlaw02_change_den R x0 x1 x2) h
/-! ### 21: orpimentref02_Queue_Order -/
def orpimentref02_Queue_Order_j1 (R : ER) (x3 : Value) : WP :=
  R (.returned x3)
theorem orpimentref02_Queue_Order_j1_ok (R : ER) (e : Env) : den Pg R (cd Go.Proofs.Try.f21 [1, 1, 1]) e (kont Pg R Go.Proofs.Try.f21) = (orpimentref02_Queue_Order_j1 R (e 3)) := by kernel_rfl
def orpimentref02_Queue_Order_b4 (R : ER) (k1 : Value → Value → Value → WP) (x0 x3 x4 : Value) : WP :=
  pv (neNilP x0) fun v1 =>
  gd v1 true (pv (some x4)) fun v2 =>
  gd v1 true (pv (some x0)) fun v3 =>
  gd v1 true (pv (nilO v3)) fun v4 =>
  gd v1 true (pv (faO 0 v4)) fun v5 =>
  gd v1 true (ld1 v5) fun v6 =>
  gd v1 true (pv (lenS v6)) fun v7 =>
  gd v1 true (pv (bin .lss v2 v7)) fun v8 =>
  pv (pickO v1 v8 (.bool false)) fun v9 =>
  cnd v9 (
   pv (nilO x0) fun v10 =>
  pv (faO 0 v10) fun v11 =>
  ld1 v11 fun v12 =>
  pv (ixS 3 v12 x4) fun v13 =>
  pv (faO 0 v13) fun v14 =>
  ld1 v14 fun v15 =>
  valV Pg R (Instr.buildSlice 30 1 ⟨[(0, v15)]⟩) fun v16 =>
  blt Pg R .append ⟨[30, 30]⟩ 30 ⟨[false, false]⟩ ⟨[x3, v16]⟩ fun v17 =>
  pv (bin .add x4 (.int .i64 1)) fun v18 =>
  k1 x0 v17 v18) (
   orpimentref02_Queue_Order_j1 R x3)
theorem orpimentref02_Queue_Order_b4_ok (R : ER) (k1 : Value → Value → Value → WP) (e : Env) : den Pg R (cd Go.Proofs.Try.f21 [1, 1, 0, 1, 0, 0]) e (setN (inB 0 (setN (kont Pg R Go.Proofs.Try.f21) (fun e => orpimentref02_Queue_Order_j1 R (e 3)))) (fun e => k1 (e 0) (e 3) (e 4))) = (orpimentref02_Queue_Order_b4 R k1 (e 0) (e 3) (e 4)) := by kernel_rfl
noncomputable def orpimentref02_Queue_Order_l5 (R : ER) (n : Nat) : Value → Value → Value → WP := Nat.rec (motive := fun _ => Value → Value → Value → WP) (fun _ _ _ => fun _ => False) (fun _ ih => fun x0 x3 x4 => orpimentref02_Queue_Order_b4 R ih x0 x3 x4) n
theorem orpimentref02_Queue_Order_l5_succ (R : ER) (n : Nat) (x0 x3 x4 : Value) : orpimentref02_Queue_Order_l5 R (n + 1) x0 x3 x4 = orpimentref02_Queue_Order_b4 R (orpimentref02_Queue_Order_l5 R n) x0 x3 x4 := rfl
theorem orpimentref02_Queue_Order_l5_ok (R : ER) : ∀ (n : Nat) (e : Env), iterL (den Pg R (cd Go.Proofs.Try.f21 [1, 1, 0, 1, 0, 0])) n e (inB 0 (setN (kont Pg R Go.Proofs.Try.f21) (fun e => orpimentref02_Queue_Order_j1 R (e 3)))) = orpimentref02_Queue_Order_l5 R n (e 0) (e 3) (e 4) :=
  iterL_join (den Pg R (cd Go.Proofs.Try.f21 [1, 1, 0, 1, 0, 0])) (inB 0 (setN (kont Pg R Go.Proofs.Try.f21) (fun e => orpimentref02_Queue_Order_j1 R (e 3)))) (fun n e => orpimentref02_Queue_Order_l5 R n (e 0) (e 3) (e 4)) (fun _ => rfl) (fun n e => (orpimentref02_Queue_Order_b4_ok R (orpimentref02_Queue_Order_l5 R n) e).trans (orpimentref02_Queue_Order_l5_succ R n (e 0) (e 3) (e 4)).symm)
def orpimentref02_Queue_Order_j3 (R : ER) (x0 x3 x4 : Value) : WP :=
  exN fun n => orpimentref02_Queue_Order_l5 R n x0 x3 x4
theorem orpimentref02_Queue_Order_j3_ok (R : ER) (e : Env) : den Pg R (cd Go.Proofs.Try.f21 [1, 1, 0, 1]) e (setN (kont Pg R Go.Proofs.Try.f21) (fun e => orpimentref02_Queue_Order_j1 R (e 3))) = (orpimentref02_Queue_Order_j3 R (e 0) (e 3) (e 4)) := (den_block Pg R (cd Go.Proofs.Try.f21 [1, 1, 0, 1]) 0 (cd Go.Proofs.Try.f21 [1, 1, 0, 1, 0]) e (setN (kont Pg R Go.Proofs.Try.f21) (fun e => orpimentref02_Queue_Order_j1 R (e 3))) _ (by kernel_rfl) (den_loop Pg R (cd Go.Proofs.Try.f21 [1, 1, 0, 1, 0]) (cd Go.Proofs.Try.f21 [1, 1, 0, 1, 0, 0]) e (inB 0 (setN (kont Pg R Go.Proofs.Try.f21) (fun e => orpimentref02_Queue_Order_j1 R (e 3)))) (fun n e => orpimentref02_Queue_Order_l5 R n (e 0) (e 3) (e 4)) _ (by kernel_rfl) (orpimentref02_Queue_Order_l5_ok R) (by kernel_rfl)))
def orpimentref02_Queue_Order_j2 (R : ER) (x0 x3 : Value) : WP :=
  orpimentref02_Queue_Order_j3 R x0 x3 (.int .i64 0)
theorem orpimentref02_Queue_Order_j2_ok (R : ER) (e : Env) : den Pg R (cd Go.Proofs.Try.f21 [1, 1, 0]) e (setN (kont Pg R Go.Proofs.Try.f21) (fun e => orpimentref02_Queue_Order_j1 R (e 3))) = (orpimentref02_Queue_Order_j2 R (e 0) (e 3)) := (den_join Pg R 0 (cd Go.Proofs.Try.f21 [1, 1, 0]) (cd Go.Proofs.Try.f21 [1, 1, 0, 1]) e (setN (kont Pg R Go.Proofs.Try.f21) (fun e => orpimentref02_Queue_Order_j1 R (e 3))) (fun e => orpimentref02_Queue_Order_j3 R (e 0) (e 3) (e 4)) _ (by kernel_rfl) (fun e => orpimentref02_Queue_Order_j3_ok R e) (by kernel_rfl))
def orpimentref02_Queue_Order (R : ER) (x0 : Value) : WP :=
  orpimentref02_Queue_Order_j2 R x0 (.slice none 0 0)
theorem orpimentref02_Queue_Order_den (R : ER) (x0 : Value) : den Pg R (cd Go.Proofs.Try.f21 []) (argsEnv [x0]) (kont Pg R Go.Proofs.Try.f21) = orpimentref02_Queue_Order R x0 :=
  have h : ∀ e, den Pg R (cd Go.Proofs.Try.f21 []) e (kont Pg R Go.Proofs.Try.f21) = orpimentref02_Queue_Order R (e 0) := fun e => (den_join Pg R 2 (cd Go.Proofs.Try.f21 []) (cd Go.Proofs.Try.f21 [1, 1, 1]) e (kont Pg R Go.Proofs.Try.f21) (fun e => orpimentref02_Queue_Order_j1 R (e 3)) _ (by kernel_rfl) (fun e => orpimentref02_Queue_Order_j1_ok R e) (den_join Pg R 1 (pre 2 (cd Go.Proofs.Try.f21 [])) (cd Go.Proofs.Try.f21 [1, 1, 0]) e (setN (kont Pg R Go.Proofs.Try.f21) (fun e => orpimentref02_Queue_Order_j1 R (e 3))) (fun e => orpimentref02_Queue_Order_j2 R (e 0) (e 3)) _ (by kernel_rfl) (fun e => orpimentref02_Queue_Order_j2_ok R e) (by kernel_rfl)))
  h _
theorem orpimentref02_Queue_Order_calls {R : ER} {x0 : Value} {w : World} (h : orpimentref02_Queue_Order R x0 w) : Calls Pg 21 ⟨[x0]⟩ w R :=
  calls_of_den Go.Proofs.Try.func21 (by kernel_rfl) (by kernel_rfl) (orpimentref02_Queue_Order_den R x0) h
/-! ### 22: orpimentref02_Queue_Greatest -/
def orpimentref02_Queue_Greatest (R : ER) (x0 : Value) : WP :=
  pv (eqNilP x0) fun v1 =>
  gd v1 false (pv (some x0)) fun v2 =>
  gd v1 false (pv (nilO v2)) fun v3 =>
  gd v1 false (pv (faO 0 v3)) fun v4 =>
  gd v1 false (ld1 v4) fun v5 =>
  gd v1 false (pv (lenS v5)) fun v6 =>
  gd v1 false (pv (bin .eql v6 (.int .i64 0))) fun v7 =>
  pv (pickO v1 (.bool true) v7) fun v8 =>
  cnd v8 (
   R (.returned (.int .i64 (-1)))) (
   pv (nilO x0) fun v9 =>
  pv (faO 0 v9) fun v10 =>
  ld1 v10 fun v11 =>
  pv (ixS 3 v11 (.int .i64 0)) fun v12 =>
  pv (faO 1 v12) fun v13 =>
  ld1 v13 fun v14 =>
  R (.returned v14))
theorem orpimentref02_Queue_Greatest_den (R : ER) (x0 : Value) : den Pg R (cd Go.Proofs.Try.f22 []) (argsEnv [x0]) (kont Pg R Go.Proofs.Try.f22) = orpimentref02_Queue_Greatest R x0 :=
  have h : ∀ e, den Pg R (cd Go.Proofs.Try.f22 []) e (kont Pg R Go.Proofs.Try.f22) = orpimentref02_Queue_Greatest R (e 0) := fun e => by kernel_rfl
  h _
theorem orpimentref02_Queue_Greatest_calls {R : ER} {x0 : Value} {w : World} (h : orpimentref02_Queue_Greatest R x0 w) : Calls Pg 22 ⟨[x0]⟩ w R :=
  calls_of_den Go.Proofs.Try.func22 (by kernel_rfl) (by kernel_rfl) (orpimentref02_Queue_Greatest_den R x0) h
/-! ### 23: ready_isThread -/
def ready_isThread (R : ER) (x0 : Value) : WP :=
  pv (bin .geq x0 (.int .i64 0)) fun v1 =>
  gd v1 true (pv (some x0)) fun v2 =>
  gd v1 true (pv (bin .lss v2 (.int .i64 256))) fun v3 =>
  pv (pickO v1 v3 (.bool false)) fun v4 =>
  R (.returned v4)
theorem ready_isThread_den (R : ER) (x0 : Value) : den Pg R (cd Go.Proofs.Try.f23 []) (argsEnv [x0]) (kont Pg R Go.Proofs.Try.f23) = ready_isThread R x0 :=
  have h : ∀ e, den Pg R (cd Go.Proofs.Try.f23 []) e (kont Pg R Go.Proofs.Try.f23) = ready_isThread R (e 0) := fun e => by kernel_rfl
  h _
theorem ready_isThread_calls {R : ER} {x0 : Value} {w : World} (h : ready_isThread R x0 w) : Calls Pg 23 ⟨[x0]⟩ w R :=
  calls_of_den Go.Proofs.Try.func23 (by kernel_rfl) (by kernel_rfl) (ready_isThread_den R x0) h
/-! ### 24: ready_isPriority -/
def ready_isPriority (R : ER) (x0 : Value) : WP :=
  pv (bin .geq x0 (.int .i64 0)) fun v1 =>
  gd v1 true (pv (some x0)) fun v2 =>
  gd v1 true (pv (bin .leq v2 (.int .i64 255))) fun v3 =>
  pv (pickO v1 v3 (.bool false)) fun v4 =>
  R (.returned v4)
theorem ready_isPriority_den (R : ER) (x0 : Value) : den Pg R (cd Go.Proofs.Try.f24 []) (argsEnv [x0]) (kont Pg R Go.Proofs.Try.f24) = ready_isPriority R x0 :=
  have h : ∀ e, den Pg R (cd Go.Proofs.Try.f24 []) e (kont Pg R Go.Proofs.Try.f24) = ready_isPriority R (e 0) := fun e => by kernel_rfl
  h _
theorem ready_isPriority_calls {R : ER} {x0 : Value} {w : World} (h : ready_isPriority R x0 w) : Calls Pg 24 ⟨[x0]⟩ w R :=
  calls_of_den Go.Proofs.Try.func24 (by kernel_rfl) (by kernel_rfl) (ready_isPriority_den R x0) h
/-! ### 25: ready_isMask -/
def ready_isMask (R : ER) (x0 : Value) : WP :=
  pv (bin .geq x0 (.int .i64 1)) fun v1 =>
  gd v1 true (pv (some x0)) fun v2 =>
  gd v1 true (pv (bin .leq v2 (.int .i64 255))) fun v3 =>
  pv (pickO v1 v3 (.bool false)) fun v4 =>
  R (.returned v4)
theorem ready_isMask_den (R : ER) (x0 : Value) : den Pg R (cd Go.Proofs.Try.f25 []) (argsEnv [x0]) (kont Pg R Go.Proofs.Try.f25) = ready_isMask R x0 :=
  have h : ∀ e, den Pg R (cd Go.Proofs.Try.f25 []) e (kont Pg R Go.Proofs.Try.f25) = ready_isMask R (e 0) := fun e => by kernel_rfl
  h _
theorem ready_isMask_calls {R : ER} {x0 : Value} {w : World} (h : ready_isMask R x0 w) : Calls Pg 25 ⟨[x0]⟩ w R :=
  calls_of_den Go.Proofs.Try.func25 (by kernel_rfl) (by kernel_rfl) (ready_isMask_den R x0) h
/-! ### 26: ready_ring_put -/
def ready_ring_put (R : ER) (x0 x1 x2 : Value) : WP :=
  pv (nilO x0) fun v1 =>
  pv (faO 256 v1) fun v2 =>
  pv (ixA 256 5 v2 x1) fun v3 =>
  pv (nilO v3) fun v4 =>
  pv (faO 2 v4) fun v5 =>
  ld1 v5 fun v6 =>
  pv (nilO x0) fun v7 =>
  pv (faO 0 v7) fun v8 =>
  pv (ixA 256 1 v8 v6) fun v9 =>
  ld1 v9 fun v10 =>
  pv (bin .eql v10 (.int .i64 (-1))) fun v11 =>
  cnd v11 (
   pv (nilO v3) fun v12 =>
   pv (faO 0 v12) fun v13 =>
   st1 v13 x1 fun _ =>
   pv (nilO v3) fun v14 =>
   pv (faO 1 v14) fun v15 =>
   st1 v15 x1 fun _ =>
   pv (nilO x0) fun v16 =>
   pv (faO 0 v16) fun v17 =>
   pv (ixA 256 1 v17 v6) fun v18 =>
   st1 v18 x1 fun _ =>
   drewV (
   pv (bin .quo v6 (.int .i64 64)) fun v19 =>
   pv (nilO x0) fun v20 =>
   pv (faO 1536 v20) fun v21 =>
   pv (ixA 4 1 v21 v19) fun v22 =>
   ld1 v22 fun v23 =>
   pv (bin .rem v6 (.int .i64 64)) fun v24 =>
   pv (bin .shl (.int .u64 1) v24) fun v25 =>
   pv (bin .or v23 v25) fun v26 =>
   pv (nilO x0) fun v27 =>
   pv (faO 1536 v27) fun v28 =>
   pv (ixA 4 1 v28 v19) fun v29 =>
   mem fun w30 => st1 v29 v26 fun _ =>
   R (.returned (.tuple ⟨[]⟩)))) (
   pv (nilO x0) fun v31 =>
  pv (faO 256 v31) fun v32 =>
  pv (ixA 256 5 v32 v10) fun v33 =>
  pv (faO 0 v33) fun v34 =>
  ld1 v34 fun v35 =>
  pv (nilO v3) fun v36 =>
  pv (faO 0 v36) fun v37 =>
  st1 v37 v35 fun _ =>
  pv (nilO v3) fun v38 =>
  pv (faO 1 v38) fun v39 =>
  st1 v39 v10 fun _ =>
  drewV (
  pv (nilO x0) fun v40 =>
  pv (faO 256 v40) fun v41 =>
  pv (ixA 256 5 v41 v35) fun v42 =>
  pv (faO 1 v42) fun v43 =>
  mem fun w44 => st1 v43 x1 fun _ =>
  pv (nilO x0) fun v45 =>
  pv (faO 256 v45) fun v46 =>
  pv (ixA 256 5 v46 v10) fun v47 =>
  pv (faO 0 v47) fun v48 =>
  mem fun w49 => st1 v48 x1 fun _ =>
  cnd x2 (
   pv (nilO x0) fun v50 =>
   pv (faO 0 v50) fun v51 =>
   pv (ixA 256 1 v51 v6) fun v52 =>
   st1 v52 x1 fun _ =>
   R (.returned (.tuple ⟨[]⟩))) (
   R (.returned (.tuple ⟨[]⟩)))))
theorem ready_ring_put_den (R : ER) (x0 x1 x2 : Value) : den Pg R (cd Go.Proofs.Try.f26 []) (argsEnv [x0, x1, x2]) (kont Pg R Go.Proofs.Try.f26) = ready_ring_put R x0 x1 x2 :=
  have h : ∀ e, den Pg R (cd Go.Proofs.Try.f26 []) e (kont Pg R Go.Proofs.Try.f26) = ready_ring_put R (e 0) (e 1) (e 2) := fun e => by kernel_rfl
  h _
theorem ready_ring_put_calls {R : ER} {x0 x1 x2 : Value} {w : World} (h : ready_ring_put R x0 x1 x2 w) : Calls Pg 26 ⟨[x0, x1, x2]⟩ w R :=
  calls_of_den Go.Proofs.Try.func26 (by kernel_rfl) (by kernel_rfl) (ready_ring_put_den R x0 x1 x2) h
/-! ### 27: ready_ring_greatest -/
def ready_ring_greatest_j1 (R : ER) : WP :=
  R (.returned (.int .i64 (-1)))
theorem ready_ring_greatest_j1_ok (R : ER) (e : Env) : den Pg R (cd Go.Proofs.Try.f27 [1, 1]) e (kont Pg R Go.Proofs.Try.f27) = (ready_ring_greatest_j1 R) := by kernel_rfl
def ready_ring_greatest_b4 (R : ER) (k1 : Value → Value → WP) (x0 x5 : Value) : WP :=
  pv (bin .geq x5 (.int .i64 0)) fun v1 =>
  cnd v1 (
   pv (bin .quo x5 (.int .i64 64)) fun v2 =>
  pv (nilO x0) fun v3 =>
  pv (faO 1536 v3) fun v4 =>
  pv (ixA 4 1 v4 v2) fun v5 =>
  ld1 v5 fun v6 =>
  pv (bin .rem x5 (.int .i64 64)) fun v7 =>
  pv (bin .sub (.int .i64 63) v7) fun v8 =>
  pv (bin .shl v6 v8) fun v9 =>
  pv (bin .neq v9 (.int .u64 0)) fun v10 =>
  cnd v10 (
   cal Pg R 40 ⟨[v9]⟩ fun v11 =>
   pv (bin .sub x5 v11) fun v12 =>
   R (.returned v12)) (
   pv (bin .rem x5 (.int .i64 64)) fun v13 =>
  pv (bin .add v13 (.int .i64 1)) fun v14 =>
  pv (bin .sub x5 v14) fun v15 =>
  k1 x0 v15)) (
   ready_ring_greatest_j1 R)
theorem ready_ring_greatest_b4_ok (R : ER) (k1 : Value → Value → WP) (e : Env) : den Pg R (cd Go.Proofs.Try.f27 [1, 0, 1, 0, 0]) e (setN (inB 0 (setN (kont Pg R Go.Proofs.Try.f27) (fun e => ready_ring_greatest_j1 R))) (fun e => k1 (e 0) (e 5))) = (ready_ring_greatest_b4 R k1 (e 0) (e 5)) := by kernel_rfl
noncomputable def ready_ring_greatest_l5 (R : ER) (n : Nat) : Value → Value → WP := Nat.rec (motive := fun _ => Value → Value → WP) (fun _ _ => fun _ => False) (fun _ ih => fun x0 x5 => ready_ring_greatest_b4 R ih x0 x5) n
theorem ready_ring_greatest_l5_succ (R : ER) (n : Nat) (x0 x5 : Value) : ready_ring_greatest_l5 R (n + 1) x0 x5 = ready_ring_greatest_b4 R (ready_ring_greatest_l5 R n) x0 x5 := rfl
theorem ready_ring_greatest_l5_ok (R : ER) : ∀ (n : Nat) (e : Env), iterL (den Pg R (cd Go.Proofs.Try.f27 [1, 0, 1, 0, 0])) n e (inB 0 (setN (kont Pg R Go.Proofs.Try.f27) (fun e => ready_ring_greatest_j1 R))) = ready_ring_greatest_l5 R n (e 0) (e 5) :=
  iterL_join (den Pg R (cd Go.Proofs.Try.f27 [1, 0, 1, 0, 0])) (inB 0 (setN (kont Pg R Go.Proofs.Try.f27) (fun e => ready_ring_greatest_j1 R))) (fun n e => ready_ring_greatest_l5 R n (e 0) (e 5)) (fun _ => rfl) (fun n e => (ready_ring_greatest_b4_ok R (ready_ring_greatest_l5 R n) e).trans (ready_ring_greatest_l5_succ R n (e 0) (e 5)).symm)
def ready_ring_greatest_j3 (R : ER) (x0 x5 : Value) : WP :=
  exN fun n => ready_ring_greatest_l5 R n x0 x5
theorem ready_ring_greatest_j3_ok (R : ER) (e : Env) : den Pg R (cd Go.Proofs.Try.f27 [1, 0, 1]) e (setN (kont Pg R Go.Proofs.Try.f27) (fun e => ready_ring_greatest_j1 R)) = (ready_ring_greatest_j3 R (e 0) (e 5)) := (den_block Pg R (cd Go.Proofs.Try.f27 [1, 0, 1]) 0 (cd Go.Proofs.Try.f27 [1, 0, 1, 0]) e (setN (kont Pg R Go.Proofs.Try.f27) (fun e => ready_ring_greatest_j1 R)) _ (by kernel_rfl) (den_loop Pg R (cd Go.Proofs.Try.f27 [1, 0, 1, 0]) (cd Go.Proofs.Try.f27 [1, 0, 1, 0, 0]) e (inB 0 (setN (kont Pg R Go.Proofs.Try.f27) (fun e => ready_ring_greatest_j1 R))) (fun n e => ready_ring_greatest_l5 R n (e 0) (e 5)) _ (by kernel_rfl) (ready_ring_greatest_l5_ok R) (by kernel_rfl)))
def ready_ring_greatest_j2 (R : ER) (x0 x1 : Value) : WP :=
  pv (bin .sub x1 (.int .i64 1)) fun v16 =>
  ready_ring_greatest_j3 R x0 v16
theorem ready_ring_greatest_j2_ok (R : ER) (e : Env) : den Pg R (cd Go.Proofs.Try.f27 [1, 0]) e (setN (kont Pg R Go.Proofs.Try.f27) (fun e => ready_ring_greatest_j1 R)) = (ready_ring_greatest_j2 R (e 0) (e 1)) := (den_join Pg R 0 (cd Go.Proofs.Try.f27 [1, 0]) (cd Go.Proofs.Try.f27 [1, 0, 1]) e (setN (kont Pg R Go.Proofs.Try.f27) (fun e => ready_ring_greatest_j1 R)) (fun e => ready_ring_greatest_j3 R (e 0) (e 5)) _ (by kernel_rfl) (fun e => ready_ring_greatest_j3_ok R e) (by kernel_rfl))
def ready_ring_greatest (R : ER) (x0 x1 : Value) : WP :=
  ready_ring_greatest_j2 R x0 x1
theorem ready_ring_greatest_den (R : ER) (x0 x1 : Value) : den Pg R (cd Go.Proofs.Try.f27 []) (argsEnv [x0, x1]) (kont Pg R Go.Proofs.Try.f27) = ready_ring_greatest R x0 x1 :=
  have h : ∀ e, den Pg R (cd Go.Proofs.Try.f27 []) e (kont Pg R Go.Proofs.Try.f27) = ready_ring_greatest R (e 0) (e 1) := fun e => (den_join Pg R 1 (cd Go.Proofs.Try.f27 []) (cd Go.Proofs.Try.f27 [1, 1]) e (kont Pg R Go.Proofs.Try.f27) (fun e => ready_ring_greatest_j1 R) _ (by kernel_rfl) (fun e => ready_ring_greatest_j1_ok R e) (den_join Pg R 0 (pre 1 (cd Go.Proofs.Try.f27 [])) (cd Go.Proofs.Try.f27 [1, 0]) e (setN (kont Pg R Go.Proofs.Try.f27) (fun e => ready_ring_greatest_j1 R)) (fun e => ready_ring_greatest_j2 R (e 0) (e 1)) _ (by kernel_rfl) (fun e => ready_ring_greatest_j2_ok R e) (by kernel_rfl)))
  h _
theorem ready_ring_greatest_calls {R : ER} {x0 x1 : Value} {w : World} (h : ready_ring_greatest R x0 x1 w) : Calls Pg 27 ⟨[x0, x1]⟩ w R :=
  calls_of_den Go.Proofs.Try.func27 (by kernel_rfl) (by kernel_rfl) (ready_ring_greatest_den R x0 x1) h
/-! ### 28: ready_Queue_has -/
def ready_Queue_has (R : ER) (x0 x1 x2 : Value) : WP :=
  pv (eqNilP x0) fun v1 =>
  cnd v1 (
   R (.returned (.int .i64 35))) (
   cal Pg R 23 ⟨[x1]⟩ fun v2 =>
   pv (unO .not v2) fun v3 =>
   gd v3 false (pv (some x2)) fun v4 =>
   gd v3 false (pv (unO .not v4)) fun v5 =>
   pv (pickO v3 (.bool true) v5) fun v6 =>
   cnd v6 (
    R (.returned (.int .i64 34))) (
    pv (nilO x0) fun v7 =>
    pv (faO 0 v7) fun v8 =>
    pv (faO 256 v8) fun v9 =>
    pv (ixA 256 5 v9 x1) fun v10 =>
    pv (faO 4 v10) fun v11 =>
    ld1 v11 fun v12 =>
    pv (unO .not v12) fun v13 =>
    cnd v13 (
     R (.returned (.int .i64 22))) (
     R (.returned (.int .i64 0)))))
theorem ready_Queue_has_den (R : ER) (x0 x1 x2 : Value) : den Pg R (cd Go.Proofs.Try.f28 []) (argsEnv [x0, x1, x2]) (kont Pg R Go.Proofs.Try.f28) = ready_Queue_has R x0 x1 x2 :=
  have h : ∀ e, den Pg R (cd Go.Proofs.Try.f28 []) e (kont Pg R Go.Proofs.Try.f28) = ready_Queue_has R (e 0) (e 1) (e 2) := fun e => by kernel_rfl
  h _
theorem ready_Queue_has_calls {R : ER} {x0 x1 x2 : Value} {w : World} (h : ready_Queue_has R x0 x1 x2 w) : Calls Pg 28 ⟨[x0, x1, x2]⟩ w R :=
  calls_of_den Go.Proofs.Try.func28 (by kernel_rfl) (by kernel_rfl) (ready_Queue_has_den R x0 x1 x2) h
/-! ### 29: ready_ring_cut -/
def ready_ring_cut (R : ER) (x0 x1 : Value) : WP :=
  pv (nilO x0) fun v1 =>
  pv (faO 256 v1) fun v2 =>
  pv (ixA 256 5 v2 x1) fun v3 =>
  pv (nilO v3) fun v4 =>
  pv (faO 2 v4) fun v5 =>
  ld1 v5 fun v6 =>
  pv (nilO v3) fun v7 =>
  pv (faO 1 v7) fun v8 =>
  ld1 v8 fun v9 =>
  pv (bin .eql v9 x1) fun v10 =>
  cnd v10 (
   pv (nilO x0) fun v11 =>
   pv (faO 0 v11) fun v12 =>
   pv (ixA 256 1 v12 v6) fun v13 =>
   st1 v13 (.int .i64 (-1)) fun _ =>
   drewV (
   pv (bin .quo v6 (.int .i64 64)) fun v14 =>
   pv (nilO x0) fun v15 =>
   pv (faO 1536 v15) fun v16 =>
   pv (ixA 4 1 v16 v14) fun v17 =>
   ld1 v17 fun v18 =>
   pv (bin .rem v6 (.int .i64 64)) fun v19 =>
   pv (bin .shl (.int .u64 1) v19) fun v20 =>
   pv (bin .andNot v18 v20) fun v21 =>
   pv (nilO x0) fun v22 =>
   pv (faO 1536 v22) fun v23 =>
   pv (ixA 4 1 v23 v14) fun v24 =>
   mem fun w25 => st1 v24 v21 fun _ =>
   R (.returned (.tuple ⟨[]⟩)))) (
   drewV (
  pv (nilO v3) fun v26 =>
  pv (faO 0 v26) fun v27 =>
  ld1 v27 fun v28 =>
  pv (nilO v3) fun v29 =>
  pv (faO 1 v29) fun v30 =>
  ld1 v30 fun v31 =>
  pv (nilO v3) fun v32 =>
  pv (faO 1 v32) fun v33 =>
  ld1 v33 fun v34 =>
  pv (nilO v3) fun v35 =>
  pv (faO 0 v35) fun v36 =>
  ld1 v36 fun v37 =>
  pv (nilO x0) fun v38 =>
  pv (faO 256 v38) fun v39 =>
  pv (ixA 256 5 v39 v28) fun v40 =>
  pv (faO 1 v40) fun v41 =>
  mem fun w42 => st1 v41 v34 fun _ =>
  pv (nilO x0) fun v43 =>
  pv (faO 256 v43) fun v44 =>
  pv (ixA 256 5 v44 v31) fun v45 =>
  pv (faO 0 v45) fun v46 =>
  mem fun w47 => st1 v46 v37 fun _ =>
  pv (nilO x0) fun v48 =>
  pv (faO 0 v48) fun v49 =>
  pv (ixA 256 1 v49 v6) fun v50 =>
  ld1 v50 fun v51 =>
  pv (bin .eql v51 x1) fun v52 =>
  cnd v52 (
   drewV (
   pv (nilO v3) fun v53 =>
   pv (faO 1 v53) fun v54 =>
   ld1 v54 fun v55 =>
   pv (nilO x0) fun v56 =>
   pv (faO 0 v56) fun v57 =>
   pv (ixA 256 1 v57 v6) fun v58 =>
   mem fun w59 => st1 v58 v55 fun _ =>
   R (.returned (.tuple ⟨[]⟩)))) (
   R (.returned (.tuple ⟨[]⟩)))))
theorem ready_ring_cut_den (R : ER) (x0 x1 : Value) : den Pg R (cd Go.Proofs.Try.f29 []) (argsEnv [x0, x1]) (kont Pg R Go.Proofs.Try.f29) = ready_ring_cut R x0 x1 :=
  have h : ∀ e, den Pg R (cd Go.Proofs.Try.f29 []) e (kont Pg R Go.Proofs.Try.f29) = ready_ring_cut R (e 0) (e 1) := fun e => by kernel_rfl
  h _
theorem ready_ring_cut_calls {R : ER} {x0 x1 : Value} {w : World} (h : ready_ring_cut R x0 x1 w) : Calls Pg 29 ⟨[x0, x1]⟩ w R :=
  calls_of_den Go.Proofs.Try.func29 (by kernel_rfl) (by kernel_rfl) (ready_ring_cut_den R x0 x1) h
/-! ### 30: orpimentref02_Queue_Add -/
def orpimentref02_Queue_Add (R : ER) (x0 x1 x2 x3 x4 : Value) : WP :=
  pv (eqNilP x0) fun v1 =>
  cnd v1 (
   R (.returned (.int .i64 35))) (
   cal Pg R 41 ⟨[x1]⟩ fun v2 =>
  pv (unO .not v2) fun v3 =>
  gd v3 false (pv (some x2)) fun v4 =>
  gd v3 false (cal Pg R 42 ⟨[v4]⟩) fun v5 =>
  gd v3 false (pv (unO .not v5)) fun v6 =>
  pv (pickO v3 (.bool true) v6) fun v7 =>
  gd v7 false (pv (some x3)) fun v8 =>
  gd v7 false (cal Pg R 43 ⟨[v8]⟩) fun v9 =>
  gd v7 false (pv (unO .not v9)) fun v10 =>
  pv (pickO v7 (.bool true) v10) fun v11 =>
  cnd v11 (
   R (.returned (.int .i64 34))) (
   cal Pg R 44 ⟨[x0, x1]⟩ fun v12 =>
  pv (bin .geq v12 (.int .i64 0)) fun v13 =>
  cnd v13 (
   R (.returned (.int .i64 10))) (
   pv (bldO [.int .i64 0, .int .i64 0, .int .i64 0] [(0, 1, x1), (1, 1, x2), (2, 1, x3)]) fun v14 =>
  cal Pg R 45 ⟨[x0, v14, x4]⟩ fun v15 =>
  R (.returned (.int .i64 0)))))
theorem orpimentref02_Queue_Add_den (R : ER) (x0 x1 x2 x3 x4 : Value) : den Pg R (cd Go.Proofs.Try.f30 []) (argsEnv [x0, x1, x2, x3, x4]) (kont Pg R Go.Proofs.Try.f30) = orpimentref02_Queue_Add R x0 x1 x2 x3 x4 :=
  have h : ∀ e, den Pg R (cd Go.Proofs.Try.f30 []) e (kont Pg R Go.Proofs.Try.f30) = orpimentref02_Queue_Add R (e 0) (e 1) (e 2) (e 3) (e 4) := fun e => by kernel_rfl
  h _
theorem orpimentref02_Queue_Add_calls {R : ER} {x0 x1 x2 x3 x4 : Value} {w : World} (h : orpimentref02_Queue_Add R x0 x1 x2 x3 x4 w) : Calls Pg 30 ⟨[x0, x1, x2, x3, x4]⟩ w R :=
  calls_of_den Go.Proofs.Try.func30 (by kernel_rfl) (by kernel_rfl) (orpimentref02_Queue_Add_den R x0 x1 x2 x3 x4) h
/-! ### 31: orpimentref02_Queue_Remove -/
def orpimentref02_Queue_Remove_j1 (R : ER) (x6 : Value) : WP :=
  R (.returned x6)
theorem orpimentref02_Queue_Remove_j1_ok (R : ER) (e : Env) : den Pg R (cd Go.Proofs.Try.f31 [1, 1, 1, 1]) e (kont Pg R Go.Proofs.Try.f31) = (orpimentref02_Queue_Remove_j1 R (e 6)) := by kernel_rfl
def orpimentref02_Queue_Remove (R : ER) (x0 x1 : Value) : WP :=
  pv (eqNilP x0) fun v1 =>
  cnd v1 (
   R (.returned (.int .i64 35))) (
   cal Pg R 46 ⟨[x0, x1]⟩ fun v2 =>
  pv (extO 0 v2) fun v3 =>
  pv (extO 1 v2) fun v4 =>
  pv (bin .eql v4 (.int .i64 0)) fun v5 =>
  cnd v5 (
   cal Pg R 47 ⟨[x0, v3]⟩ fun v6 =>
   orpimentref02_Queue_Remove_j1 R v4) (
   orpimentref02_Queue_Remove_j1 R v4))
theorem orpimentref02_Queue_Remove_den (R : ER) (x0 x1 : Value) : den Pg R (cd Go.Proofs.Try.f31 []) (argsEnv [x0, x1]) (kont Pg R Go.Proofs.Try.f31) = orpimentref02_Queue_Remove R x0 x1 :=
  have h : ∀ e, den Pg R (cd Go.Proofs.Try.f31 []) e (kont Pg R Go.Proofs.Try.f31) = orpimentref02_Queue_Remove R (e 0) (e 1) := fun e => (den_join Pg R 3 (cd Go.Proofs.Try.f31 []) (cd Go.Proofs.Try.f31 [1, 1, 1, 1]) e (kont Pg R Go.Proofs.Try.f31) (fun e => orpimentref02_Queue_Remove_j1 R (e 6)) _ (by kernel_rfl) (fun e => orpimentref02_Queue_Remove_j1_ok R e) (by kernel_rfl))
  h _
theorem orpimentref02_Queue_Remove_calls {R : ER} {x0 x1 : Value} {w : World} (h : orpimentref02_Queue_Remove R x0 x1 w) : Calls Pg 31 ⟨[x0, x1]⟩ w R :=
  calls_of_den Go.Proofs.Try.func31 (by kernel_rfl) (by kernel_rfl) (orpimentref02_Queue_Remove_den R x0 x1) h
/-! ### 32: ready_Queue_SetPriority -/
def ready_Queue_SetPriority_j1 (R : ER) : WP :=
  R (.returned (.int .i64 0))
theorem ready_Queue_SetPriority_j1_ok (R : ER) (e : Env) : den Pg R (cd Go.Proofs.Try.f32 [1, 1, 1]) e (kont Pg R Go.Proofs.Try.f32) = (ready_Queue_SetPriority_j1 R) := by kernel_rfl
def ready_Queue_SetPriority (R : ER) (x0 x1 x2 x3 : Value) : WP :=
  cal Pg R 24 ⟨[x2]⟩ fun v1 =>
  cal Pg R 28 ⟨[x0, x1, v1]⟩ fun v2 =>
  pv (bin .neq v2 (.int .i64 0)) fun v3 =>
  cnd v3 (
   R (.returned v2)) (
   pv (nilO x0) fun v4 =>
  pv (faO 0 v4) fun v5 =>
  pv (faO 256 v5) fun v6 =>
  pv (ixA 256 5 v6 x1) fun v7 =>
  pv (faO 2 v7) fun v8 =>
  ld1 v8 fun v9 =>
  pv (bin .neq v9 x2) fun v10 =>
  cnd v10 (
   pv (nilO x0) fun v11 =>
   pv (faO 0 v11) fun v12 =>
   cal Pg R 29 ⟨[v12, x1]⟩ fun v13 =>
   pv (nilO x0) fun v14 =>
   pv (faO 0 v14) fun v15 =>
   pv (faO 256 v15) fun v16 =>
   pv (ixA 256 5 v16 x1) fun v17 =>
   pv (faO 2 v17) fun v18 =>
   st1 v18 x2 fun _ =>
   pv (nilO x0) fun v19 =>
   pv (faO 0 v19) fun v20 =>
   cal Pg R 26 ⟨[v20, x1, x3]⟩ fun v21 =>
   ready_Queue_SetPriority_j1 R) (
   ready_Queue_SetPriority_j1 R))
theorem ready_Queue_SetPriority_den (R : ER) (x0 x1 x2 x3 : Value) : den Pg R (cd Go.Proofs.Try.f32 []) (argsEnv [x0, x1, x2, x3]) (kont Pg R Go.Proofs.Try.f32) = ready_Queue_SetPriority R x0 x1 x2 x3 :=
  have h : ∀ e, den Pg R (cd Go.Proofs.Try.f32 []) e (kont Pg R Go.Proofs.Try.f32) = ready_Queue_SetPriority R (e 0) (e 1) (e 2) (e 3) := fun e => (den_join Pg R 2 (cd Go.Proofs.Try.f32 []) (cd Go.Proofs.Try.f32 [1, 1, 1]) e (kont Pg R Go.Proofs.Try.f32) (fun e => ready_Queue_SetPriority_j1 R) _ (by kernel_rfl) (fun e => ready_Queue_SetPriority_j1_ok R e) (by kernel_rfl))
  h _
theorem ready_Queue_SetPriority_calls {R : ER} {x0 x1 x2 x3 : Value} {w : World} (h : ready_Queue_SetPriority R x0 x1 x2 x3 w) : Calls Pg 32 ⟨[x0, x1, x2, x3]⟩ w R :=
  calls_of_den Go.Proofs.Try.func32 (by kernel_rfl) (by kernel_rfl) (ready_Queue_SetPriority_den R x0 x1 x2 x3) h
/-! ### 33: orpimentref02_Queue_SetPriority -/
def orpimentref02_Queue_SetPriority (R : ER) (x0 x1 x2 x3 : Value) : WP :=
  pv (eqNilP x0) fun v1 =>
  cnd v1 (
   R (.returned (.int .i64 35))) (
   cal Pg R 42 ⟨[x2]⟩ fun v2 =>
  pv (unO .not v2) fun v3 =>
  cnd v3 (
   R (.returned (.int .i64 34))) (
   cal Pg R 46 ⟨[x0, x1]⟩ fun v4 =>
  pv (extO 0 v4) fun v5 =>
  pv (extO 1 v4) fun v6 =>
  pv (bin .neq v6 (.int .i64 0)) fun v7 =>
  gd v7 false (pv (some x0)) fun v8 =>
  gd v7 false (pv (nilO v8)) fun v9 =>
  gd v7 false (pv (faO 0 v9)) fun v10 =>
  gd v7 false (ld1 v10) fun v11 =>
  gd v7 false (pv (some v5)) fun v12 =>
  gd v7 false (pv (ixS 3 v11 v12)) fun v13 =>
  gd v7 false (pv (faO 1 v13)) fun v14 =>
  gd v7 false (ld1 v14) fun v15 =>
  gd v7 false (pv (some x2)) fun v16 =>
  gd v7 false (pv (bin .eql v15 v16)) fun v17 =>
  pv (pickO v7 (.bool true) v17) fun v18 =>
  cnd v18 (
   R (.returned v6)) (
   pv (nilO x0) fun v19 =>
  pv (faO 0 v19) fun v20 =>
  ld1 v20 fun v21 =>
  pv (ixS 3 v21 v5) fun v22 =>
  ldN 3 v22 fun v23 =>
  al Pg 63 fun v24 =>
  stN 3 v24 v23 fun _ =>
  cal Pg R 47 ⟨[x0, v5]⟩ fun v25 =>
  pv (faO 1 v24) fun v26 =>
  st1 v26 x2 fun _ =>
  ldN 3 v24 fun v27 =>
  cal Pg R 45 ⟨[x0, v27, x3]⟩ fun v28 =>
  R (.returned (.int .i64 0)))))
theorem orpimentref02_Queue_SetPriority_den (R : ER) (x0 x1 x2 x3 : Value) : den Pg R (cd Go.Proofs.Try.f33 []) (argsEnv [x0, x1, x2, x3]) (kont Pg R Go.Proofs.Try.f33) = orpimentref02_Queue_SetPriority R x0 x1 x2 x3 :=
  have h : ∀ e, den Pg R (cd Go.Proofs.Try.f33 []) e (kont Pg R Go.Proofs.Try.f33) = orpimentref02_Queue_SetPriority R (e 0) (e 1) (e 2) (e 3) := fun e => by kernel_rfl
  h _
theorem orpimentref02_Queue_SetPriority_calls {R : ER} {x0 x1 x2 x3 : Value} {w : World} (h : orpimentref02_Queue_SetPriority R x0 x1 x2 x3 w) : Calls Pg 33 ⟨[x0, x1, x2, x3]⟩ w R :=
  calls_of_den Go.Proofs.Try.func33 (by kernel_rfl) (by kernel_rfl) (orpimentref02_Queue_SetPriority_den R x0 x1 x2 x3) h
/-! ### 34: ready_Queue_SetMask -/
def ready_Queue_SetMask (R : ER) (x0 x1 x2 : Value) : WP :=
  cal Pg R 25 ⟨[x2]⟩ fun v1 =>
  cal Pg R 28 ⟨[x0, x1, v1]⟩ fun v2 =>
  pv (bin .neq v2 (.int .i64 0)) fun v3 =>
  cnd v3 (
   R (.returned v2)) (
   pv (nilO x0) fun v4 =>
  pv (faO 0 v4) fun v5 =>
  pv (faO 256 v5) fun v6 =>
  pv (ixA 256 5 v6 x1) fun v7 =>
  pv (faO 3 v7) fun v8 =>
  st1 v8 x2 fun _ =>
  R (.returned (.int .i64 0)))
theorem ready_Queue_SetMask_den (R : ER) (x0 x1 x2 : Value) : den Pg R (cd Go.Proofs.Try.f34 []) (argsEnv [x0, x1, x2]) (kont Pg R Go.Proofs.Try.f34) = ready_Queue_SetMask R x0 x1 x2 :=
  have h : ∀ e, den Pg R (cd Go.Proofs.Try.f34 []) e (kont Pg R Go.Proofs.Try.f34) = ready_Queue_SetMask R (e 0) (e 1) (e 2) := fun e => by kernel_rfl
  h _
theorem ready_Queue_SetMask_calls {R : ER} {x0 x1 x2 : Value} {w : World} (h : ready_Queue_SetMask R x0 x1 x2 w) : Calls Pg 34 ⟨[x0, x1, x2]⟩ w R :=
  calls_of_den Go.Proofs.Try.func34 (by kernel_rfl) (by kernel_rfl) (ready_Queue_SetMask_den R x0 x1 x2) h
/-! ### 35: orpimentref02_Queue_SetMask -/
def orpimentref02_Queue_SetMask_j1 (R : ER) (x8 : Value) : WP :=
  R (.returned x8)
theorem orpimentref02_Queue_SetMask_j1_ok (R : ER) (e : Env) : den Pg R (cd Go.Proofs.Try.f35 [1, 1, 1, 1, 1]) e (kont Pg R Go.Proofs.Try.f35) = (orpimentref02_Queue_SetMask_j1 R (e 8)) := by kernel_rfl
def orpimentref02_Queue_SetMask (R : ER) (x0 x1 x2 : Value) : WP :=
  pv (eqNilP x0) fun v1 =>
  cnd v1 (
   R (.returned (.int .i64 35))) (
   cal Pg R 43 ⟨[x2]⟩ fun v2 =>
  pv (unO .not v2) fun v3 =>
  cnd v3 (
   R (.returned (.int .i64 34))) (
   cal Pg R 46 ⟨[x0, x1]⟩ fun v4 =>
  pv (extO 0 v4) fun v5 =>
  pv (extO 1 v4) fun v6 =>
  pv (bin .eql v6 (.int .i64 0)) fun v7 =>
  cnd v7 (
   pv (nilO x0) fun v8 =>
   pv (faO 0 v8) fun v9 =>
   ld1 v9 fun v10 =>
   pv (ixS 3 v10 v5) fun v11 =>
   pv (faO 2 v11) fun v12 =>
   st1 v12 x2 fun _ =>
   orpimentref02_Queue_SetMask_j1 R v6) (
   orpimentref02_Queue_SetMask_j1 R v6)))
theorem orpimentref02_Queue_SetMask_den (R : ER) (x0 x1 x2 : Value) : den Pg R (cd Go.Proofs.Try.f35 []) (argsEnv [x0, x1, x2]) (kont Pg R Go.Proofs.Try.f35) = orpimentref02_Queue_SetMask R x0 x1 x2 :=
  have h : ∀ e, den Pg R (cd Go.Proofs.Try.f35 []) e (kont Pg R Go.Proofs.Try.f35) = orpimentref02_Queue_SetMask R (e 0) (e 1) (e 2) := fun e => (den_join Pg R 4 (cd Go.Proofs.Try.f35 []) (cd Go.Proofs.Try.f35 [1, 1, 1, 1, 1]) e (kont Pg R Go.Proofs.Try.f35) (fun e => orpimentref02_Queue_SetMask_j1 R (e 8)) _ (by kernel_rfl) (fun e => orpimentref02_Queue_SetMask_j1_ok R e) (by kernel_rfl))
  h _
theorem orpimentref02_Queue_SetMask_calls {R : ER} {x0 x1 x2 : Value} {w : World} (h : orpimentref02_Queue_SetMask R x0 x1 x2 w) : Calls Pg 35 ⟨[x0, x1, x2]⟩ w R :=
  calls_of_den Go.Proofs.Try.func35 (by kernel_rfl) (by kernel_rfl) (orpimentref02_Queue_SetMask_den R x0 x1 x2) h
/-! ### 36: orpimentref02_Queue_Rotate -/
def orpimentref02_Queue_Rotate_j1 (R : ER) : WP :=
  R (.returned (.int .i64 22))
theorem orpimentref02_Queue_Rotate_j1_ok (R : ER) (e : Env) : den Pg R (cd Go.Proofs.Try.f36 [1, 1, 1, 1]) e (kont Pg R Go.Proofs.Try.f36) = (orpimentref02_Queue_Rotate_j1 R) := by kernel_rfl
def orpimentref02_Queue_Rotate_b4 (R : ER) (k1 : Value → Value → Value → WP) (x0 x1 x5 : Value) : WP :=
  pv (nilO x0) fun v1 =>
  pv (faO 0 v1) fun v2 =>
  ld1 v2 fun v3 =>
  pv (lenS v3) fun v4 =>
  pv (bin .lss x5 v4) fun v5 =>
  cnd v5 (
   pv (nilO x0) fun v6 =>
  pv (faO 0 v6) fun v7 =>
  ld1 v7 fun v8 =>
  pv (ixS 3 v8 x5) fun v9 =>
  pv (faO 1 v9) fun v10 =>
  ld1 v10 fun v11 =>
  pv (bin .eql v11 x1) fun v12 =>
  cnd v12 (
   pv (nilO x0) fun v13 =>
   pv (faO 0 v13) fun v14 =>
   ld1 v14 fun v15 =>
   pv (ixS 3 v15 x5) fun v16 =>
   ldN 3 v16 fun v17 =>
   al Pg 63 fun v18 =>
   stN 3 v18 v17 fun _ =>
   cal Pg R 47 ⟨[x0, x5]⟩ fun v19 =>
   ldN 3 v18 fun v20 =>
   cal Pg R 45 ⟨[x0, v20, (.bool false)]⟩ fun v21 =>
   R (.returned (.int .i64 0))) (
   pv (bin .add x5 (.int .i64 1)) fun v22 =>
  k1 x0 x1 v22)) (
   orpimentref02_Queue_Rotate_j1 R)
theorem orpimentref02_Queue_Rotate_b4_ok (R : ER) (k1 : Value → Value → Value → WP) (e : Env) : den Pg R (cd Go.Proofs.Try.f36 [1, 1, 1, 0, 1, 0, 0]) e (setN (inB 0 (setN (kont Pg R Go.Proofs.Try.f36) (fun e => orpimentref02_Queue_Rotate_j1 R))) (fun e => k1 (e 0) (e 1) (e 5))) = (orpimentref02_Queue_Rotate_b4 R k1 (e 0) (e 1) (e 5)) := by kernel_rfl
noncomputable def orpimentref02_Queue_Rotate_l5 (R : ER) (n : Nat) : Value → Value → Value → WP := Nat.rec (motive := fun _ => Value → Value → Value → WP) (fun _ _ _ => fun _ => False) (fun _ ih => fun x0 x1 x5 => orpimentref02_Queue_Rotate_b4 R ih x0 x1 x5) n
theorem orpimentref02_Queue_Rotate_l5_succ (R : ER) (n : Nat) (x0 x1 x5 : Value) : orpimentref02_Queue_Rotate_l5 R (n + 1) x0 x1 x5 = orpimentref02_Queue_Rotate_b4 R (orpimentref02_Queue_Rotate_l5 R n) x0 x1 x5 := rfl
theorem orpimentref02_Queue_Rotate_l5_ok (R : ER) : ∀ (n : Nat) (e : Env), iterL (den Pg R (cd Go.Proofs.Try.f36 [1, 1, 1, 0, 1, 0, 0])) n e (inB 0 (setN (kont Pg R Go.Proofs.Try.f36) (fun e => orpimentref02_Queue_Rotate_j1 R))) = orpimentref02_Queue_Rotate_l5 R n (e 0) (e 1) (e 5) :=
  iterL_join (den Pg R (cd Go.Proofs.Try.f36 [1, 1, 1, 0, 1, 0, 0])) (inB 0 (setN (kont Pg R Go.Proofs.Try.f36) (fun e => orpimentref02_Queue_Rotate_j1 R))) (fun n e => orpimentref02_Queue_Rotate_l5 R n (e 0) (e 1) (e 5)) (fun _ => rfl) (fun n e => (orpimentref02_Queue_Rotate_b4_ok R (orpimentref02_Queue_Rotate_l5 R n) e).trans (orpimentref02_Queue_Rotate_l5_succ R n (e 0) (e 1) (e 5)).symm)
def orpimentref02_Queue_Rotate_j3 (R : ER) (x0 x1 x5 : Value) : WP :=
  exN fun n => orpimentref02_Queue_Rotate_l5 R n x0 x1 x5
theorem orpimentref02_Queue_Rotate_j3_ok (R : ER) (e : Env) : den Pg R (cd Go.Proofs.Try.f36 [1, 1, 1, 0, 1]) e (setN (kont Pg R Go.Proofs.Try.f36) (fun e => orpimentref02_Queue_Rotate_j1 R)) = (orpimentref02_Queue_Rotate_j3 R (e 0) (e 1) (e 5)) := (den_block Pg R (cd Go.Proofs.Try.f36 [1, 1, 1, 0, 1]) 0 (cd Go.Proofs.Try.f36 [1, 1, 1, 0, 1, 0]) e (setN (kont Pg R Go.Proofs.Try.f36) (fun e => orpimentref02_Queue_Rotate_j1 R)) _ (by kernel_rfl) (den_loop Pg R (cd Go.Proofs.Try.f36 [1, 1, 1, 0, 1, 0]) (cd Go.Proofs.Try.f36 [1, 1, 1, 0, 1, 0, 0]) e (inB 0 (setN (kont Pg R Go.Proofs.Try.f36) (fun e => orpimentref02_Queue_Rotate_j1 R))) (fun n e => orpimentref02_Queue_Rotate_l5 R n (e 0) (e 1) (e 5)) _ (by kernel_rfl) (orpimentref02_Queue_Rotate_l5_ok R) (by kernel_rfl)))
def orpimentref02_Queue_Rotate_j2 (R : ER) (x0 x1 : Value) : WP :=
  orpimentref02_Queue_Rotate_j3 R x0 x1 (.int .i64 0)
theorem orpimentref02_Queue_Rotate_j2_ok (R : ER) (e : Env) : den Pg R (cd Go.Proofs.Try.f36 [1, 1, 1, 0]) e (setN (kont Pg R Go.Proofs.Try.f36) (fun e => orpimentref02_Queue_Rotate_j1 R)) = (orpimentref02_Queue_Rotate_j2 R (e 0) (e 1)) := (den_join Pg R 0 (cd Go.Proofs.Try.f36 [1, 1, 1, 0]) (cd Go.Proofs.Try.f36 [1, 1, 1, 0, 1]) e (setN (kont Pg R Go.Proofs.Try.f36) (fun e => orpimentref02_Queue_Rotate_j1 R)) (fun e => orpimentref02_Queue_Rotate_j3 R (e 0) (e 1) (e 5)) _ (by kernel_rfl) (fun e => orpimentref02_Queue_Rotate_j3_ok R e) (by kernel_rfl))
def orpimentref02_Queue_Rotate (R : ER) (x0 x1 : Value) : WP :=
  pv (eqNilP x0) fun v23 =>
  cnd v23 (
   R (.returned (.int .i64 35))) (
   cal Pg R 42 ⟨[x1]⟩ fun v24 =>
  pv (unO .not v24) fun v25 =>
  cnd v25 (
   R (.returned (.int .i64 34))) (
   orpimentref02_Queue_Rotate_j2 R x0 x1))
theorem orpimentref02_Queue_Rotate_den (R : ER) (x0 x1 : Value) : den Pg R (cd Go.Proofs.Try.f36 []) (argsEnv [x0, x1]) (kont Pg R Go.Proofs.Try.f36) = orpimentref02_Queue_Rotate R x0 x1 :=
  have h : ∀ e, den Pg R (cd Go.Proofs.Try.f36 []) e (kont Pg R Go.Proofs.Try.f36) = orpimentref02_Queue_Rotate R (e 0) (e 1) := fun e => (den_join Pg R 3 (cd Go.Proofs.Try.f36 []) (cd Go.Proofs.Try.f36 [1, 1, 1, 1]) e (kont Pg R Go.Proofs.Try.f36) (fun e => orpimentref02_Queue_Rotate_j1 R) _ (by kernel_rfl) (fun e => orpimentref02_Queue_Rotate_j1_ok R e) (den_join Pg R 2 (pre 3 (cd Go.Proofs.Try.f36 [])) (cd Go.Proofs.Try.f36 [1, 1, 1, 0]) e (setN (kont Pg R Go.Proofs.Try.f36) (fun e => orpimentref02_Queue_Rotate_j1 R)) (fun e => orpimentref02_Queue_Rotate_j2 R (e 0) (e 1)) _ (by kernel_rfl) (fun e => orpimentref02_Queue_Rotate_j2_ok R e) (by kernel_rfl)))
  h _
theorem orpimentref02_Queue_Rotate_calls {R : ER} {x0 x1 : Value} {w : World} (h : orpimentref02_Queue_Rotate R x0 x1 w) : Calls Pg 36 ⟨[x0, x1]⟩ w R :=
  calls_of_den Go.Proofs.Try.func36 (by kernel_rfl) (by kernel_rfl) (orpimentref02_Queue_Rotate_den R x0 x1) h
/-! ### 37: orpimentref02_Queue_Take -/
def orpimentref02_Queue_Take (R : ER) (x0 x1 : Value) : WP :=
  cal Pg R 48 ⟨[x0, x1]⟩ fun v1 =>
  pv (extO 0 v1) fun v2 =>
  pv (extO 1 v1) fun v3 =>
  pv (bin .neq v3 (.int .i64 0)) fun v4 =>
  cnd v4 (
   R (.returned (.tuple ⟨[(.int .i64 0), v3]⟩))) (
   pv (nilO x0) fun v5 =>
  pv (faO 0 v5) fun v6 =>
  ld1 v6 fun v7 =>
  pv (ixS 3 v7 v2) fun v8 =>
  pv (faO 0 v8) fun v9 =>
  ld1 v9 fun v10 =>
  cal Pg R 47 ⟨[x0, v2]⟩ fun v11 =>
  R (.returned (.tuple ⟨[v10, (.int .i64 0)]⟩)))
theorem orpimentref02_Queue_Take_den (R : ER) (x0 x1 : Value) : den Pg R (cd Go.Proofs.Try.f37 []) (argsEnv [x0, x1]) (kont Pg R Go.Proofs.Try.f37) = orpimentref02_Queue_Take R x0 x1 :=
  have h : ∀ e, den Pg R (cd Go.Proofs.Try.f37 []) e (kont Pg R Go.Proofs.Try.f37) = orpimentref02_Queue_Take R (e 0) (e 1) := fun e => by kernel_rfl
  h _
theorem orpimentref02_Queue_Take_calls {R : ER} {x0 x1 : Value} {w : World} (h : orpimentref02_Queue_Take R x0 x1 w) : Calls Pg 37 ⟨[x0, x1]⟩ w R :=
  calls_of_den Go.Proofs.Try.func37 (by kernel_rfl) (by kernel_rfl) (orpimentref02_Queue_Take_den R x0 x1) h
/-! ### 38: orpimentref02_Queue_Best -/
def orpimentref02_Queue_Best (R : ER) (x0 x1 : Value) : WP :=
  cal Pg R 48 ⟨[x0, x1]⟩ fun v1 =>
  pv (extO 0 v1) fun v2 =>
  pv (extO 1 v1) fun v3 =>
  pv (bin .neq v3 (.int .i64 0)) fun v4 =>
  cnd v4 (
   R (.returned (.tuple ⟨[(.int .i64 0), v3]⟩))) (
   pv (nilO x0) fun v5 =>
  pv (faO 0 v5) fun v6 =>
  ld1 v6 fun v7 =>
  pv (ixS 3 v7 v2) fun v8 =>
  pv (faO 0 v8) fun v9 =>
  ld1 v9 fun v10 =>
  R (.returned (.tuple ⟨[v10, (.int .i64 0)]⟩)))
theorem orpimentref02_Queue_Best_den (R : ER) (x0 x1 : Value) : den Pg R (cd Go.Proofs.Try.f38 []) (argsEnv [x0, x1]) (kont Pg R Go.Proofs.Try.f38) = orpimentref02_Queue_Best R x0 x1 :=
  have h : ∀ e, den Pg R (cd Go.Proofs.Try.f38 []) e (kont Pg R Go.Proofs.Try.f38) = orpimentref02_Queue_Best R (e 0) (e 1) := fun e => by kernel_rfl
  h _
theorem orpimentref02_Queue_Best_calls {R : ER} {x0 x1 : Value} {w : World} (h : orpimentref02_Queue_Best R x0 x1 w) : Calls Pg 38 ⟨[x0, x1]⟩ w R :=
  calls_of_den Go.Proofs.Try.func38 (by kernel_rfl) (by kernel_rfl) (orpimentref02_Queue_Best_den R x0 x1) h
/-! ### 39: orpimentref02_Queue_Priority -/
def orpimentref02_Queue_Priority (R : ER) (x0 x1 : Value) : WP :=
  pv (eqNilP x0) fun v1 =>
  cnd v1 (
   R (.returned (.tuple ⟨[(.int .i64 0), (.int .i64 35)]⟩))) (
   cal Pg R 46 ⟨[x0, x1]⟩ fun v2 =>
  pv (extO 0 v2) fun v3 =>
  pv (extO 1 v2) fun v4 =>
  pv (bin .neq v4 (.int .i64 0)) fun v5 =>
  cnd v5 (
   R (.returned (.tuple ⟨[(.int .i64 0), v4]⟩))) (
   pv (nilO x0) fun v6 =>
  pv (faO 0 v6) fun v7 =>
  ld1 v7 fun v8 =>
  pv (ixS 3 v8 v3) fun v9 =>
  pv (faO 1 v9) fun v10 =>
  ld1 v10 fun v11 =>
  R (.returned (.tuple ⟨[v11, (.int .i64 0)]⟩))))
theorem orpimentref02_Queue_Priority_den (R : ER) (x0 x1 : Value) : den Pg R (cd Go.Proofs.Try.f39 []) (argsEnv [x0, x1]) (kont Pg R Go.Proofs.Try.f39) = orpimentref02_Queue_Priority R x0 x1 :=
  have h : ∀ e, den Pg R (cd Go.Proofs.Try.f39 []) e (kont Pg R Go.Proofs.Try.f39) = orpimentref02_Queue_Priority R (e 0) (e 1) := fun e => by kernel_rfl
  h _
theorem orpimentref02_Queue_Priority_calls {R : ER} {x0 x1 : Value} {w : World} (h : orpimentref02_Queue_Priority R x0 x1 w) : Calls Pg 39 ⟨[x0, x1]⟩ w R :=
  calls_of_den Go.Proofs.Try.func39 (by kernel_rfl) (by kernel_rfl) (orpimentref02_Queue_Priority_den R x0 x1) h
/-! ### 40: bits_LeadingZeros64 -/
def bits_LeadingZeros64 (R : ER) (x0 : Value) : WP :=
  cal Pg R 49 ⟨[x0]⟩ fun v1 =>
  pv (bin .sub (.int .i64 64) v1) fun v2 =>
  R (.returned v2)
theorem bits_LeadingZeros64_den (R : ER) (x0 : Value) : den Pg R (cd Go.Proofs.Try.f40 []) (argsEnv [x0]) (kont Pg R Go.Proofs.Try.f40) = bits_LeadingZeros64 R x0 :=
  have h : ∀ e, den Pg R (cd Go.Proofs.Try.f40 []) e (kont Pg R Go.Proofs.Try.f40) = bits_LeadingZeros64 R (e 0) := fun e => by kernel_rfl
  h _
theorem bits_LeadingZeros64_calls {R : ER} {x0 : Value} {w : World} (h : bits_LeadingZeros64 R x0 w) : Calls Pg 40 ⟨[x0]⟩ w R :=
  calls_of_den Go.Proofs.Try.func40 (by kernel_rfl) (by kernel_rfl) (bits_LeadingZeros64_den R x0) h
/-! ### 41: orpimentref02_thread -/
def orpimentref02_thread (R : ER) (x0 : Value) : WP :=
  pv (bin .geq x0 (.int .i64 0)) fun v1 =>
  gd v1 true (pv (some x0)) fun v2 =>
  gd v1 true (pv (bin .lss v2 (.int .i64 256))) fun v3 =>
  pv (pickO v1 v3 (.bool false)) fun v4 =>
  R (.returned v4)
theorem orpimentref02_thread_den (R : ER) (x0 : Value) : den Pg R (cd Go.Proofs.Try.f41 []) (argsEnv [x0]) (kont Pg R Go.Proofs.Try.f41) = orpimentref02_thread R x0 :=
  have h : ∀ e, den Pg R (cd Go.Proofs.Try.f41 []) e (kont Pg R Go.Proofs.Try.f41) = orpimentref02_thread R (e 0) := fun e => by kernel_rfl
  h _
theorem orpimentref02_thread_calls {R : ER} {x0 : Value} {w : World} (h : orpimentref02_thread R x0 w) : Calls Pg 41 ⟨[x0]⟩ w R :=
  calls_of_den Go.Proofs.Try.func41 (by kernel_rfl) (by kernel_rfl) (orpimentref02_thread_den R x0) h
/-! ### 42: orpimentref02_priority -/
def orpimentref02_priority (R : ER) (x0 : Value) : WP :=
  pv (bin .geq x0 (.int .i64 0)) fun v1 =>
  gd v1 true (pv (some x0)) fun v2 =>
  gd v1 true (pv (bin .leq v2 (.int .i64 255))) fun v3 =>
  pv (pickO v1 v3 (.bool false)) fun v4 =>
  R (.returned v4)
theorem orpimentref02_priority_den (R : ER) (x0 : Value) : den Pg R (cd Go.Proofs.Try.f42 []) (argsEnv [x0]) (kont Pg R Go.Proofs.Try.f42) = orpimentref02_priority R x0 :=
  have h : ∀ e, den Pg R (cd Go.Proofs.Try.f42 []) e (kont Pg R Go.Proofs.Try.f42) = orpimentref02_priority R (e 0) := fun e => by kernel_rfl
  h _
theorem orpimentref02_priority_calls {R : ER} {x0 : Value} {w : World} (h : orpimentref02_priority R x0 w) : Calls Pg 42 ⟨[x0]⟩ w R :=
  calls_of_den Go.Proofs.Try.func42 (by kernel_rfl) (by kernel_rfl) (orpimentref02_priority_den R x0) h
/-! ### 43: orpimentref02_mask -/
def orpimentref02_mask (R : ER) (x0 : Value) : WP :=
  pv (bin .geq x0 (.int .i64 1)) fun v1 =>
  gd v1 true (pv (some x0)) fun v2 =>
  gd v1 true (pv (bin .leq v2 (.int .i64 255))) fun v3 =>
  pv (pickO v1 v3 (.bool false)) fun v4 =>
  R (.returned v4)
theorem orpimentref02_mask_den (R : ER) (x0 : Value) : den Pg R (cd Go.Proofs.Try.f43 []) (argsEnv [x0]) (kont Pg R Go.Proofs.Try.f43) = orpimentref02_mask R x0 :=
  have h : ∀ e, den Pg R (cd Go.Proofs.Try.f43 []) e (kont Pg R Go.Proofs.Try.f43) = orpimentref02_mask R (e 0) := fun e => by kernel_rfl
  h _
theorem orpimentref02_mask_calls {R : ER} {x0 : Value} {w : World} (h : orpimentref02_mask R x0 w) : Calls Pg 43 ⟨[x0]⟩ w R :=
  calls_of_den Go.Proofs.Try.func43 (by kernel_rfl) (by kernel_rfl) (orpimentref02_mask_den R x0) h
/-! ### 44: orpimentref02_Queue_index -/
def orpimentref02_Queue_index_j1 (R : ER) : WP :=
  R (.returned (.int .i64 (-1)))
theorem orpimentref02_Queue_index_j1_ok (R : ER) (e : Env) : den Pg R (cd Go.Proofs.Try.f44 [1, 1]) e (kont Pg R Go.Proofs.Try.f44) = (orpimentref02_Queue_index_j1 R) := by kernel_rfl
def orpimentref02_Queue_index_b4 (R : ER) (k1 : Value → Value → Value → WP) (x0 x1 x5 : Value) : WP :=
  pv (nilO x0) fun v1 =>
  pv (faO 0 v1) fun v2 =>
  ld1 v2 fun v3 =>
  pv (lenS v3) fun v4 =>
  pv (bin .lss x5 v4) fun v5 =>
  cnd v5 (
   pv (nilO x0) fun v6 =>
  pv (faO 0 v6) fun v7 =>
  ld1 v7 fun v8 =>
  pv (ixS 3 v8 x5) fun v9 =>
  pv (faO 0 v9) fun v10 =>
  ld1 v10 fun v11 =>
  pv (bin .eql v11 x1) fun v12 =>
  cnd v12 (
   R (.returned x5)) (
   pv (bin .add x5 (.int .i64 1)) fun v13 =>
  k1 x0 x1 v13)) (
   orpimentref02_Queue_index_j1 R)
theorem orpimentref02_Queue_index_b4_ok (R : ER) (k1 : Value → Value → Value → WP) (e : Env) : den Pg R (cd Go.Proofs.Try.f44 [1, 0, 1, 0, 0]) e (setN (inB 0 (setN (kont Pg R Go.Proofs.Try.f44) (fun e => orpimentref02_Queue_index_j1 R))) (fun e => k1 (e 0) (e 1) (e 5))) = (orpimentref02_Queue_index_b4 R k1 (e 0) (e 1) (e 5)) := by kernel_rfl
noncomputable def orpimentref02_Queue_index_l5 (R : ER) (n : Nat) : Value → Value → Value → WP := Nat.rec (motive := fun _ => Value → Value → Value → WP) (fun _ _ _ => fun _ => False) (fun _ ih => fun x0 x1 x5 => orpimentref02_Queue_index_b4 R ih x0 x1 x5) n
theorem orpimentref02_Queue_index_l5_succ (R : ER) (n : Nat) (x0 x1 x5 : Value) : orpimentref02_Queue_index_l5 R (n + 1) x0 x1 x5 = orpimentref02_Queue_index_b4 R (orpimentref02_Queue_index_l5 R n) x0 x1 x5 := rfl
theorem orpimentref02_Queue_index_l5_ok (R : ER) : ∀ (n : Nat) (e : Env), iterL (den Pg R (cd Go.Proofs.Try.f44 [1, 0, 1, 0, 0])) n e (inB 0 (setN (kont Pg R Go.Proofs.Try.f44) (fun e => orpimentref02_Queue_index_j1 R))) = orpimentref02_Queue_index_l5 R n (e 0) (e 1) (e 5) :=
  iterL_join (den Pg R (cd Go.Proofs.Try.f44 [1, 0, 1, 0, 0])) (inB 0 (setN (kont Pg R Go.Proofs.Try.f44) (fun e => orpimentref02_Queue_index_j1 R))) (fun n e => orpimentref02_Queue_index_l5 R n (e 0) (e 1) (e 5)) (fun _ => rfl) (fun n e => (orpimentref02_Queue_index_b4_ok R (orpimentref02_Queue_index_l5 R n) e).trans (orpimentref02_Queue_index_l5_succ R n (e 0) (e 1) (e 5)).symm)
def orpimentref02_Queue_index_j3 (R : ER) (x0 x1 x5 : Value) : WP :=
  exN fun n => orpimentref02_Queue_index_l5 R n x0 x1 x5
theorem orpimentref02_Queue_index_j3_ok (R : ER) (e : Env) : den Pg R (cd Go.Proofs.Try.f44 [1, 0, 1]) e (setN (kont Pg R Go.Proofs.Try.f44) (fun e => orpimentref02_Queue_index_j1 R)) = (orpimentref02_Queue_index_j3 R (e 0) (e 1) (e 5)) := (den_block Pg R (cd Go.Proofs.Try.f44 [1, 0, 1]) 0 (cd Go.Proofs.Try.f44 [1, 0, 1, 0]) e (setN (kont Pg R Go.Proofs.Try.f44) (fun e => orpimentref02_Queue_index_j1 R)) _ (by kernel_rfl) (den_loop Pg R (cd Go.Proofs.Try.f44 [1, 0, 1, 0]) (cd Go.Proofs.Try.f44 [1, 0, 1, 0, 0]) e (inB 0 (setN (kont Pg R Go.Proofs.Try.f44) (fun e => orpimentref02_Queue_index_j1 R))) (fun n e => orpimentref02_Queue_index_l5 R n (e 0) (e 1) (e 5)) _ (by kernel_rfl) (orpimentref02_Queue_index_l5_ok R) (by kernel_rfl)))
def orpimentref02_Queue_index_j2 (R : ER) (x0 x1 : Value) : WP :=
  orpimentref02_Queue_index_j3 R x0 x1 (.int .i64 0)
theorem orpimentref02_Queue_index_j2_ok (R : ER) (e : Env) : den Pg R (cd Go.Proofs.Try.f44 [1, 0]) e (setN (kont Pg R Go.Proofs.Try.f44) (fun e => orpimentref02_Queue_index_j1 R)) = (orpimentref02_Queue_index_j2 R (e 0) (e 1)) := (den_join Pg R 0 (cd Go.Proofs.Try.f44 [1, 0]) (cd Go.Proofs.Try.f44 [1, 0, 1]) e (setN (kont Pg R Go.Proofs.Try.f44) (fun e => orpimentref02_Queue_index_j1 R)) (fun e => orpimentref02_Queue_index_j3 R (e 0) (e 1) (e 5)) _ (by kernel_rfl) (fun e => orpimentref02_Queue_index_j3_ok R e) (by kernel_rfl))
def orpimentref02_Queue_index (R : ER) (x0 x1 : Value) : WP :=
  orpimentref02_Queue_index_j2 R x0 x1
theorem orpimentref02_Queue_index_den (R : ER) (x0 x1 : Value) : den Pg R (cd Go.Proofs.Try.f44 []) (argsEnv [x0, x1]) (kont Pg R Go.Proofs.Try.f44) = orpimentref02_Queue_index R x0 x1 :=
  have h : ∀ e, den Pg R (cd Go.Proofs.Try.f44 []) e (kont Pg R Go.Proofs.Try.f44) = orpimentref02_Queue_index R (e 0) (e 1) := fun e => (den_join Pg R 1 (cd Go.Proofs.Try.f44 []) (cd Go.Proofs.Try.f44 [1, 1]) e (kont Pg R Go.Proofs.Try.f44) (fun e => orpimentref02_Queue_index_j1 R) _ (by kernel_rfl) (fun e => orpimentref02_Queue_index_j1_ok R e) (den_join Pg R 0 (pre 1 (cd Go.Proofs.Try.f44 [])) (cd Go.Proofs.Try.f44 [1, 0]) e (setN (kont Pg R Go.Proofs.Try.f44) (fun e => orpimentref02_Queue_index_j1 R)) (fun e => orpimentref02_Queue_index_j2 R (e 0) (e 1)) _ (by kernel_rfl) (fun e => orpimentref02_Queue_index_j2_ok R e) (by kernel_rfl)))
  h _
theorem orpimentref02_Queue_index_calls {R : ER} {x0 x1 : Value} {w : World} (h : orpimentref02_Queue_index R x0 x1 w) : Calls Pg 44 ⟨[x0, x1]⟩ w R :=
  calls_of_den Go.Proofs.Try.func44 (by kernel_rfl) (by kernel_rfl) (orpimentref02_Queue_index_den R x0 x1) h
/-! ### 45: orpimentref02_Queue_insert -/
def orpimentref02_Queue_insert_j2 (R : ER) (x0 x6 : Value) : WP :=
  pv (nilO x0) fun v1 =>
  pv (faO 0 v1) fun v2 =>
  st1 v2 x6 fun _ =>
  R (.returned (.tuple ⟨[]⟩))
theorem orpimentref02_Queue_insert_j2_ok (R : ER) (e : Env) : den Pg R (cd Go.Proofs.Try.f45 [1, 1, 1, 1, 1]) e (kont Pg R Go.Proofs.Try.f45) = (orpimentref02_Queue_insert_j2 R (e 0) (e 6)) := by kernel_rfl
def orpimentref02_Queue_insert_j1 (R : ER) (x0 x4 x6 x7 : Value) : WP :=
  pv (unO .not x7) fun v3 =>
  cnd v3 (
   ldN 3 x4 fun v4 =>
   valV Pg R (Instr.buildSlice 39 1 ⟨[(0, v4)]⟩) fun v5 =>
   blt Pg R .append ⟨[39, 39]⟩ 39 ⟨[false, false]⟩ ⟨[x6, v5]⟩ fun v6 =>
   orpimentref02_Queue_insert_j2 R x0 v6) (
   orpimentref02_Queue_insert_j2 R x0 x6)
theorem orpimentref02_Queue_insert_j1_ok (R : ER) (e : Env) : den Pg R (cd Go.Proofs.Try.f45 [1, 1, 1, 1]) e (kont Pg R Go.Proofs.Try.f45) = (orpimentref02_Queue_insert_j1 R (e 0) (e 4) (e 6) (e 7)) := (den_join Pg R 0 (cd Go.Proofs.Try.f45 [1, 1, 1, 1]) (cd Go.Proofs.Try.f45 [1, 1, 1, 1, 1]) e (kont Pg R Go.Proofs.Try.f45) (fun e => orpimentref02_Queue_insert_j2 R (e 0) (e 6)) _ (by kernel_rfl) (fun e => orpimentref02_Queue_insert_j2_ok R e) (by kernel_rfl))
def orpimentref02_Queue_insert_j6 (R : ER) (k1 : Value → Value → Value → Value → Value → Value → WP) (x0 x2 x4 x6 x7 x8 : Value) : WP :=
  pv (bin .add x8 (.int .i64 1)) fun v7 =>
  k1 x0 x2 x4 x6 x7 v7
theorem orpimentref02_Queue_insert_j6_ok (R : ER) (k1 : Value → Value → Value → Value → Value → Value → WP) (e : Env) : den Pg R (cd Go.Proofs.Try.f45 [1, 1, 1, 0, 1, 0, 0, 1, 1]) e (setN (inB 0 (setN (kont Pg R Go.Proofs.Try.f45) (fun e => orpimentref02_Queue_insert_j1 R (e 0) (e 4) (e 6) (e 7)))) (fun e => k1 (e 0) (e 2) (e 4) (e 6) (e 7) (e 8))) = (orpimentref02_Queue_insert_j6 R k1 (e 0) (e 2) (e 4) (e 6) (e 7) (e 8)) := by kernel_rfl
def orpimentref02_Queue_insert_j8 (R : ER) (k1 : Value → Value → Value → Value → Value → Value → WP) (x0 x2 x4 x6 x7 x8 x9 : Value) : WP :=
  ldN 3 x9 fun v8 =>
  valV Pg R (Instr.buildSlice 39 1 ⟨[(0, v8)]⟩) fun v9 =>
  blt Pg R .append ⟨[39, 39]⟩ 39 ⟨[false, false]⟩ ⟨[x6, v9]⟩ fun v10 =>
  orpimentref02_Queue_insert_j6 R k1 x0 x2 x4 v10 x7 x8
theorem orpimentref02_Queue_insert_j8_ok (R : ER) (k1 : Value → Value → Value → Value → Value → Value → WP) (e : Env) : den Pg R (cd Go.Proofs.Try.f45 [1, 1, 1, 0, 1, 0, 0, 1, 0, 0, 1, 1]) e (inB 1 (setN (setN (inB 0 (setN (kont Pg R Go.Proofs.Try.f45) (fun e => orpimentref02_Queue_insert_j1 R (e 0) (e 4) (e 6) (e 7)))) (fun e => k1 (e 0) (e 2) (e 4) (e 6) (e 7) (e 8))) (fun e => orpimentref02_Queue_insert_j6 R k1 (e 0) (e 2) (e 4) (e 6) (e 7) (e 8)))) = (orpimentref02_Queue_insert_j8 R k1 (e 0) (e 2) (e 4) (e 6) (e 7) (e 8) (e 9)) := by kernel_rfl
def orpimentref02_Queue_insert_j7 (R : ER) (k1 : Value → Value → Value → Value → Value → Value → WP) (x0 x2 x4 x6 x7 x8 : Value) : WP :=
  pv (nilO x0) fun v11 =>
  pv (faO 0 v11) fun v12 =>
  ld1 v12 fun v13 =>
  pv (ixS 3 v13 x8) fun v14 =>
  ldN 3 v14 fun v15 =>
  al Pg 63 fun v16 =>
  stN 3 v16 v15 fun _ =>
  pv (unO .not x7) fun v17 =>
  gd v17 true (pv (faO 1 v16)) fun v18 =>
  gd v17 true (ld1 v18) fun v19 =>
  gd v17 true (pv (faO 1 x4)) fun v20 =>
  gd v17 true (ld1 v20) fun v21 =>
  gd v17 true (pv (bin .lss v19 v21)) fun v22 =>
  gd v17 true (pv (some v22)) fun v23 =>
  gd v23 false (pv (some x2)) fun v24 =>
  gd v23 false (pv (some v24)) fun v25 =>
  gd v25 true (pv (faO 1 v16)) fun v26 =>
  gd v25 true (ld1 v26) fun v27 =>
  gd v25 true (pv (faO 1 x4)) fun v28 =>
  gd v25 true (ld1 v28) fun v29 =>
  gd v25 true (pv (bin .eql v27 v29)) fun v30 =>
  gd v23 false (pv (pickO v25 v30 (.bool false))) fun v31 =>
  gd v17 true (pv (pickO v23 (.bool true) v31)) fun v32 =>
  pv (pickO v17 v32 (.bool false)) fun v33 =>
  cnd v33 (
   ldN 3 x4 fun v34 =>
   valV Pg R (Instr.buildSlice 39 1 ⟨[(0, v34)]⟩) fun v35 =>
   blt Pg R .append ⟨[39, 39]⟩ 39 ⟨[false, false]⟩ ⟨[x6, v35]⟩ fun v36 =>
   orpimentref02_Queue_insert_j8 R k1 x0 x2 x4 v36 (.bool true) x8 v16) (
   orpimentref02_Queue_insert_j8 R k1 x0 x2 x4 x6 x7 x8 v16)
theorem orpimentref02_Queue_insert_j7_ok (R : ER) (k1 : Value → Value → Value → Value → Value → Value → WP) (e : Env) : den Pg R (cd Go.Proofs.Try.f45 [1, 1, 1, 0, 1, 0, 0, 1, 0]) e (setN (setN (inB 0 (setN (kont Pg R Go.Proofs.Try.f45) (fun e => orpimentref02_Queue_insert_j1 R (e 0) (e 4) (e 6) (e 7)))) (fun e => k1 (e 0) (e 2) (e 4) (e 6) (e 7) (e 8))) (fun e => orpimentref02_Queue_insert_j6 R k1 (e 0) (e 2) (e 4) (e 6) (e 7) (e 8))) = (orpimentref02_Queue_insert_j7 R k1 (e 0) (e 2) (e 4) (e 6) (e 7) (e 8)) := (den_block Pg R (cd Go.Proofs.Try.f45 [1, 1, 1, 0, 1, 0, 0, 1, 0]) 1 (cd Go.Proofs.Try.f45 [1, 1, 1, 0, 1, 0, 0, 1, 0, 0]) e (setN (setN (inB 0 (setN (kont Pg R Go.Proofs.Try.f45) (fun e => orpimentref02_Queue_insert_j1 R (e 0) (e 4) (e 6) (e 7)))) (fun e => k1 (e 0) (e 2) (e 4) (e 6) (e 7) (e 8))) (fun e => orpimentref02_Queue_insert_j6 R k1 (e 0) (e 2) (e 4) (e 6) (e 7) (e 8))) _ (by kernel_rfl) (den_join Pg R 1 (cd Go.Proofs.Try.f45 [1, 1, 1, 0, 1, 0, 0, 1, 0, 0]) (cd Go.Proofs.Try.f45 [1, 1, 1, 0, 1, 0, 0, 1, 0, 0, 1, 1]) e (inB 1 (setN (setN (inB 0 (setN (kont Pg R Go.Proofs.Try.f45) (fun e => orpimentref02_Queue_insert_j1 R (e 0) (e 4) (e 6) (e 7)))) (fun e => k1 (e 0) (e 2) (e 4) (e 6) (e 7) (e 8))) (fun e => orpimentref02_Queue_insert_j6 R k1 (e 0) (e 2) (e 4) (e 6) (e 7) (e 8)))) (fun e => orpimentref02_Queue_insert_j8 R k1 (e 0) (e 2) (e 4) (e 6) (e 7) (e 8) (e 9)) _ (by kernel_rfl) (fun e => orpimentref02_Queue_insert_j8_ok R k1 e) (by kernel_rfl)))
def orpimentref02_Queue_insert_b5 (R : ER) (k1 : Value → Value → Value → Value → Value → Value → WP) (x0 x2 x4 x6 x7 x8 : Value) : WP :=
  pv (nilO x0) fun v37 =>
  pv (faO 0 v37) fun v38 =>
  ld1 v38 fun v39 =>
  pv (lenS v39) fun v40 =>
  pv (bin .lss x8 v40) fun v41 =>
  cnd v41 (
   orpimentref02_Queue_insert_j7 R k1 x0 x2 x4 x6 x7 x8) (
   orpimentref02_Queue_insert_j1 R x0 x4 x6 x7)
theorem orpimentref02_Queue_insert_b5_ok (R : ER) (k1 : Value → Value → Value → Value → Value → Value → WP) (e : Env) : den Pg R (cd Go.Proofs.Try.f45 [1, 1, 1, 0, 1, 0, 0]) e (setN (inB 0 (setN (kont Pg R Go.Proofs.Try.f45) (fun e => orpimentref02_Queue_insert_j1 R (e 0) (e 4) (e 6) (e 7)))) (fun e => k1 (e 0) (e 2) (e 4) (e 6) (e 7) (e 8))) = (orpimentref02_Queue_insert_b5 R k1 (e 0) (e 2) (e 4) (e 6) (e 7) (e 8)) := (den_join Pg R 1 (cd Go.Proofs.Try.f45 [1, 1, 1, 0, 1, 0, 0]) (cd Go.Proofs.Try.f45 [1, 1, 1, 0, 1, 0, 0, 1, 1]) e (setN (inB 0 (setN (kont Pg R Go.Proofs.Try.f45) (fun e => orpimentref02_Queue_insert_j1 R (e 0) (e 4) (e 6) (e 7)))) (fun e => k1 (e 0) (e 2) (e 4) (e 6) (e 7) (e 8))) (fun e => orpimentref02_Queue_insert_j6 R k1 (e 0) (e 2) (e 4) (e 6) (e 7) (e 8)) _ (by kernel_rfl) (fun e => orpimentref02_Queue_insert_j6_ok R k1 e) (den_join Pg R 0 (pre 1 (cd Go.Proofs.Try.f45 [1, 1, 1, 0, 1, 0, 0])) (cd Go.Proofs.Try.f45 [1, 1, 1, 0, 1, 0, 0, 1, 0]) e (setN (setN (inB 0 (setN (kont Pg R Go.Proofs.Try.f45) (fun e => orpimentref02_Queue_insert_j1 R (e 0) (e 4) (e 6) (e 7)))) (fun e => k1 (e 0) (e 2) (e 4) (e 6) (e 7) (e 8))) (fun e => orpimentref02_Queue_insert_j6 R k1 (e 0) (e 2) (e 4) (e 6) (e 7) (e 8))) (fun e => orpimentref02_Queue_insert_j7 R k1 (e 0) (e 2) (e 4) (e 6) (e 7) (e 8)) _ (by kernel_rfl) (fun e => orpimentref02_Queue_insert_j7_ok R k1 e) (by kernel_rfl)))
noncomputable def orpimentref02_Queue_insert_l9 (R : ER) (n : Nat) : Value → Value → Value → Value → Value → Value → WP := Nat.rec (motive := fun _ => Value → Value → Value → Value → Value → Value → WP) (fun _ _ _ _ _ _ => fun _ => False) (fun _ ih => fun x0 x2 x4 x6 x7 x8 => orpimentref02_Queue_insert_b5 R ih x0 x2 x4 x6 x7 x8) n
theorem orpimentref02_Queue_insert_l9_succ (R : ER) (n : Nat) (x0 x2 x4 x6 x7 x8 : Value) : orpimentref02_Queue_insert_l9 R (n + 1) x0 x2 x4 x6 x7 x8 = orpimentref02_Queue_insert_b5 R (orpimentref02_Queue_insert_l9 R n) x0 x2 x4 x6 x7 x8 := rfl
theorem orpimentref02_Queue_insert_l9_ok (R : ER) : ∀ (n : Nat) (e : Env), iterL (den Pg R (cd Go.Proofs.Try.f45 [1, 1, 1, 0, 1, 0, 0])) n e (inB 0 (setN (kont Pg R Go.Proofs.Try.f45) (fun e => orpimentref02_Queue_insert_j1 R (e 0) (e 4) (e 6) (e 7)))) = orpimentref02_Queue_insert_l9 R n (e 0) (e 2) (e 4) (e 6) (e 7) (e 8) :=
  iterL_join (den Pg R (cd Go.Proofs.Try.f45 [1, 1, 1, 0, 1, 0, 0])) (inB 0 (setN (kont Pg R Go.Proofs.Try.f45) (fun e => orpimentref02_Queue_insert_j1 R (e 0) (e 4) (e 6) (e 7)))) (fun n e => orpimentref02_Queue_insert_l9 R n (e 0) (e 2) (e 4) (e 6) (e 7) (e 8)) (fun _ => rfl) (fun n e => (orpimentref02_Queue_insert_b5_ok R (orpimentref02_Queue_insert_l9 R n) e).trans (orpimentref02_Queue_insert_l9_succ R n (e 0) (e 2) (e 4) (e 6) (e 7) (e 8)).symm)
def orpimentref02_Queue_insert_j4 (R : ER) (x0 x2 x4 x6 x7 x8 : Value) : WP :=
  exN fun n => orpimentref02_Queue_insert_l9 R n x0 x2 x4 x6 x7 x8
theorem orpimentref02_Queue_insert_j4_ok (R : ER) (e : Env) : den Pg R (cd Go.Proofs.Try.f45 [1, 1, 1, 0, 1]) e (setN (kont Pg R Go.Proofs.Try.f45) (fun e => orpimentref02_Queue_insert_j1 R (e 0) (e 4) (e 6) (e 7))) = (orpimentref02_Queue_insert_j4 R (e 0) (e 2) (e 4) (e 6) (e 7) (e 8)) := (den_block Pg R (cd Go.Proofs.Try.f45 [1, 1, 1, 0, 1]) 0 (cd Go.Proofs.Try.f45 [1, 1, 1, 0, 1, 0]) e (setN (kont Pg R Go.Proofs.Try.f45) (fun e => orpimentref02_Queue_insert_j1 R (e 0) (e 4) (e 6) (e 7))) _ (by kernel_rfl) (den_loop Pg R (cd Go.Proofs.Try.f45 [1, 1, 1, 0, 1, 0]) (cd Go.Proofs.Try.f45 [1, 1, 1, 0, 1, 0, 0]) e (inB 0 (setN (kont Pg R Go.Proofs.Try.f45) (fun e => orpimentref02_Queue_insert_j1 R (e 0) (e 4) (e 6) (e 7)))) (fun n e => orpimentref02_Queue_insert_l9 R n (e 0) (e 2) (e 4) (e 6) (e 7) (e 8)) _ (by kernel_rfl) (orpimentref02_Queue_insert_l9_ok R) (by kernel_rfl)))
def orpimentref02_Queue_insert_j3 (R : ER) (x0 x2 x4 x6 x7 : Value) : WP :=
  orpimentref02_Queue_insert_j4 R x0 x2 x4 x6 x7 (.int .i64 0)
theorem orpimentref02_Queue_insert_j3_ok (R : ER) (e : Env) : den Pg R (cd Go.Proofs.Try.f45 [1, 1, 1, 0]) e (setN (kont Pg R Go.Proofs.Try.f45) (fun e => orpimentref02_Queue_insert_j1 R (e 0) (e 4) (e 6) (e 7))) = (orpimentref02_Queue_insert_j3 R (e 0) (e 2) (e 4) (e 6) (e 7)) := (den_join Pg R 0 (cd Go.Proofs.Try.f45 [1, 1, 1, 0]) (cd Go.Proofs.Try.f45 [1, 1, 1, 0, 1]) e (setN (kont Pg R Go.Proofs.Try.f45) (fun e => orpimentref02_Queue_insert_j1 R (e 0) (e 4) (e 6) (e 7))) (fun e => orpimentref02_Queue_insert_j4 R (e 0) (e 2) (e 4) (e 6) (e 7) (e 8)) _ (by kernel_rfl) (fun e => orpimentref02_Queue_insert_j4_ok R e) (by kernel_rfl))
def orpimentref02_Queue_insert (R : ER) (x0 x1 x2 : Value) : WP :=
  bx 63 x1 fun v42 =>
  orpimentref02_Queue_insert_j3 R x0 x2 v42 (.slice none 0 0) (.bool false)
theorem orpimentref02_Queue_insert_den (R : ER) (x0 x1 x2 : Value) : den Pg R (cd Go.Proofs.Try.f45 []) (argsEnv [x0, x1, x2]) (kont Pg R Go.Proofs.Try.f45) = orpimentref02_Queue_insert R x0 x1 x2 :=
  have h : ∀ e, den Pg R (cd Go.Proofs.Try.f45 []) e (kont Pg R Go.Proofs.Try.f45) = orpimentref02_Queue_insert R (e 0) (e 1) (e 2) := fun e => (den_join Pg R 3 (cd Go.Proofs.Try.f45 []) (cd Go.Proofs.Try.f45 [1, 1, 1, 1]) e (kont Pg R Go.Proofs.Try.f45) (fun e => orpimentref02_Queue_insert_j1 R (e 0) (e 4) (e 6) (e 7)) _ (by kernel_rfl) (fun e => orpimentref02_Queue_insert_j1_ok R e) (den_join Pg R 2 (pre 3 (cd Go.Proofs.Try.f45 [])) (cd Go.Proofs.Try.f45 [1, 1, 1, 0]) e (setN (kont Pg R Go.Proofs.Try.f45) (fun e => orpimentref02_Queue_insert_j1 R (e 0) (e 4) (e 6) (e 7))) (fun e => orpimentref02_Queue_insert_j3 R (e 0) (e 2) (e 4) (e 6) (e 7)) _ (by kernel_rfl) (fun e => orpimentref02_Queue_insert_j3_ok R e) (by kernel_rfl)))
  h _
theorem orpimentref02_Queue_insert_calls {R : ER} {x0 x1 x2 : Value} {w : World} (h : orpimentref02_Queue_insert R x0 x1 x2 w) : Calls Pg 45 ⟨[x0, x1, x2]⟩ w R :=
  calls_of_den Go.Proofs.Try.func45 (by kernel_rfl) (by kernel_rfl) (orpimentref02_Queue_insert_den R x0 x1 x2) h
/-! ### 46: orpimentref02_Queue_find -/
def orpimentref02_Queue_find (R : ER) (x0 x1 : Value) : WP :=
  cal Pg R 41 ⟨[x1]⟩ fun v1 =>
  pv (unO .not v1) fun v2 =>
  cnd v2 (
   R (.returned (.tuple ⟨[(.int .i64 0), (.int .i64 34)]⟩))) (
   cal Pg R 44 ⟨[x0, x1]⟩ fun v3 =>
  pv (bin .lss v3 (.int .i64 0)) fun v4 =>
  cnd v4 (
   R (.returned (.tuple ⟨[(.int .i64 0), (.int .i64 22)]⟩))) (
   R (.returned (.tuple ⟨[v3, (.int .i64 0)]⟩))))
theorem orpimentref02_Queue_find_den (R : ER) (x0 x1 : Value) : den Pg R (cd Go.Proofs.Try.f46 []) (argsEnv [x0, x1]) (kont Pg R Go.Proofs.Try.f46) = orpimentref02_Queue_find R x0 x1 :=
  have h : ∀ e, den Pg R (cd Go.Proofs.Try.f46 []) e (kont Pg R Go.Proofs.Try.f46) = orpimentref02_Queue_find R (e 0) (e 1) := fun e => by kernel_rfl
  h _
theorem orpimentref02_Queue_find_calls {R : ER} {x0 x1 : Value} {w : World} (h : orpimentref02_Queue_find R x0 x1 w) : Calls Pg 46 ⟨[x0, x1]⟩ w R :=
  calls_of_den Go.Proofs.Try.func46 (by kernel_rfl) (by kernel_rfl) (orpimentref02_Queue_find_den R x0 x1) h
/-! ### 47: orpimentref02_Queue_delete -/
def orpimentref02_Queue_delete (R : ER) (x0 x1 : Value) : WP :=
  drewV (
  mem fun w1 => valV Pg noR (Instr.buildSlice 39 0 ⟨[]⟩) fun v2 =>
  pv (nilO x0) fun v3 =>
  pv (faO 0 v3) fun v4 =>
  ld1S [w1] v4 fun v5 =>
  pv (slS 3 v5 none (some x1)) fun v6 =>
  mem fun w7 => blt Pg noR .append ⟨[39, 39]⟩ 39 ⟨[false, false]⟩ ⟨[v2, v6]⟩ fun v8 =>
  pv (nilO x0) fun v9 =>
  pv (faO 0 v9) fun v10 =>
  ld1S [w7, w1] v10 fun v11 =>
  pv (bin .add x1 (.int .i64 1)) fun v12 =>
  pv (slS 3 v11 (some v12) none) fun v13 =>
  mem fun w14 => blt Pg noR .append ⟨[39, 39]⟩ 39 ⟨[false, false]⟩ ⟨[v8, v13]⟩ fun v15 =>
  pv (nilO x0) fun v16 =>
  pv (faO 0 v16) fun v17 =>
  mem fun w18 => st1 v17 v15 fun _ =>
  R (.returned (.tuple ⟨[]⟩)))
theorem orpimentref02_Queue_delete_den (R : ER) (x0 x1 : Value) : den Pg R (cd Go.Proofs.Try.f47 []) (argsEnv [x0, x1]) (kont Pg R Go.Proofs.Try.f47) = orpimentref02_Queue_delete R x0 x1 :=
  have h : ∀ e, den Pg R (cd Go.Proofs.Try.f47 []) e (kont Pg R Go.Proofs.Try.f47) = orpimentref02_Queue_delete R (e 0) (e 1) := fun e => by kernel_rfl
  h _
theorem orpimentref02_Queue_delete_calls {R : ER} {x0 x1 : Value} {w : World} (h : orpimentref02_Queue_delete R x0 x1 w) : Calls Pg 47 ⟨[x0, x1]⟩ w R :=
  calls_of_den Go.Proofs.Try.func47 (by kernel_rfl) (by kernel_rfl) (orpimentref02_Queue_delete_den R x0 x1) h
/-! ### 48: orpimentref02_Queue_best -/
def orpimentref02_Queue_best_j2 (R : ER) : WP :=
  R (.returned (.tuple ⟨[(.int .i64 0), (.int .i64 22)]⟩))
theorem orpimentref02_Queue_best_j2_ok (R : ER) (e : Env) : den Pg R (cd Go.Proofs.Try.f48 [1, 1, 1, 1, 1, 1]) e (kont Pg R Go.Proofs.Try.f48) = (orpimentref02_Queue_best_j2 R) := by kernel_rfl
def orpimentref02_Queue_best_b5 (R : ER) (k1 : Value → Value → Value → WP) (x0 x6 x8 : Value) : WP :=
  pv (nilO x0) fun v1 =>
  pv (faO 0 v1) fun v2 =>
  ld1 v2 fun v3 =>
  pv (lenS v3) fun v4 =>
  pv (bin .lss x8 v4) fun v5 =>
  cnd v5 (
   pv (nilO x0) fun v6 =>
  pv (faO 0 v6) fun v7 =>
  ld1 v7 fun v8 =>
  pv (ixS 3 v8 x8) fun v9 =>
  pv (faO 2 v9) fun v10 =>
  ld1 v10 fun v11 =>
  pv (bin .quo v11 x6) fun v12 =>
  pv (bin .rem v12 (.int .i64 2)) fun v13 =>
  pv (bin .eql v13 (.int .i64 1)) fun v14 =>
  cnd v14 (
   R (.returned (.tuple ⟨[x8, (.int .i64 0)]⟩))) (
   pv (bin .add x8 (.int .i64 1)) fun v15 =>
  k1 x0 x6 v15)) (
   orpimentref02_Queue_best_j2 R)
theorem orpimentref02_Queue_best_b5_ok (R : ER) (k1 : Value → Value → Value → WP) (e : Env) : den Pg R (cd Go.Proofs.Try.f48 [1, 1, 1, 1, 1, 0, 1, 0, 0]) e (setN (inB 2 (setN (kont Pg R Go.Proofs.Try.f48) (fun e => orpimentref02_Queue_best_j2 R))) (fun e => k1 (e 0) (e 6) (e 8))) = (orpimentref02_Queue_best_b5 R k1 (e 0) (e 6) (e 8)) := by kernel_rfl
noncomputable def orpimentref02_Queue_best_l6 (R : ER) (n : Nat) : Value → Value → Value → WP := Nat.rec (motive := fun _ => Value → Value → Value → WP) (fun _ _ _ => fun _ => False) (fun _ ih => fun x0 x6 x8 => orpimentref02_Queue_best_b5 R ih x0 x6 x8) n
theorem orpimentref02_Queue_best_l6_succ (R : ER) (n : Nat) (x0 x6 x8 : Value) : orpimentref02_Queue_best_l6 R (n + 1) x0 x6 x8 = orpimentref02_Queue_best_b5 R (orpimentref02_Queue_best_l6 R n) x0 x6 x8 := rfl
theorem orpimentref02_Queue_best_l6_ok (R : ER) : ∀ (n : Nat) (e : Env), iterL (den Pg R (cd Go.Proofs.Try.f48 [1, 1, 1, 1, 1, 0, 1, 0, 0])) n e (inB 2 (setN (kont Pg R Go.Proofs.Try.f48) (fun e => orpimentref02_Queue_best_j2 R))) = orpimentref02_Queue_best_l6 R n (e 0) (e 6) (e 8) :=
  iterL_join (den Pg R (cd Go.Proofs.Try.f48 [1, 1, 1, 1, 1, 0, 1, 0, 0])) (inB 2 (setN (kont Pg R Go.Proofs.Try.f48) (fun e => orpimentref02_Queue_best_j2 R))) (fun n e => orpimentref02_Queue_best_l6 R n (e 0) (e 6) (e 8)) (fun _ => rfl) (fun n e => (orpimentref02_Queue_best_b5_ok R (orpimentref02_Queue_best_l6 R n) e).trans (orpimentref02_Queue_best_l6_succ R n (e 0) (e 6) (e 8)).symm)
def orpimentref02_Queue_best_j4 (R : ER) (x0 x6 x8 : Value) : WP :=
  exN fun n => orpimentref02_Queue_best_l6 R n x0 x6 x8
theorem orpimentref02_Queue_best_j4_ok (R : ER) (e : Env) : den Pg R (cd Go.Proofs.Try.f48 [1, 1, 1, 1, 1, 0, 1]) e (setN (kont Pg R Go.Proofs.Try.f48) (fun e => orpimentref02_Queue_best_j2 R)) = (orpimentref02_Queue_best_j4 R (e 0) (e 6) (e 8)) := (den_block Pg R (cd Go.Proofs.Try.f48 [1, 1, 1, 1, 1, 0, 1]) 2 (cd Go.Proofs.Try.f48 [1, 1, 1, 1, 1, 0, 1, 0]) e (setN (kont Pg R Go.Proofs.Try.f48) (fun e => orpimentref02_Queue_best_j2 R)) _ (by kernel_rfl) (den_loop Pg R (cd Go.Proofs.Try.f48 [1, 1, 1, 1, 1, 0, 1, 0]) (cd Go.Proofs.Try.f48 [1, 1, 1, 1, 1, 0, 1, 0, 0]) e (inB 2 (setN (kont Pg R Go.Proofs.Try.f48) (fun e => orpimentref02_Queue_best_j2 R))) (fun n e => orpimentref02_Queue_best_l6 R n (e 0) (e 6) (e 8)) _ (by kernel_rfl) (orpimentref02_Queue_best_l6_ok R) (by kernel_rfl)))
def orpimentref02_Queue_best_j3 (R : ER) (x0 x6 : Value) : WP :=
  orpimentref02_Queue_best_j4 R x0 x6 (.int .i64 0)
theorem orpimentref02_Queue_best_j3_ok (R : ER) (e : Env) : den Pg R (cd Go.Proofs.Try.f48 [1, 1, 1, 1, 1, 0]) e (setN (kont Pg R Go.Proofs.Try.f48) (fun e => orpimentref02_Queue_best_j2 R)) = (orpimentref02_Queue_best_j3 R (e 0) (e 6)) := (den_join Pg R 0 (cd Go.Proofs.Try.f48 [1, 1, 1, 1, 1, 0]) (cd Go.Proofs.Try.f48 [1, 1, 1, 1, 1, 0, 1]) e (setN (kont Pg R Go.Proofs.Try.f48) (fun e => orpimentref02_Queue_best_j2 R)) (fun e => orpimentref02_Queue_best_j4 R (e 0) (e 6) (e 8)) _ (by kernel_rfl) (fun e => orpimentref02_Queue_best_j4_ok R e) (by kernel_rfl))
def orpimentref02_Queue_best_j1 (R : ER) (x0 x6 : Value) : WP :=
  orpimentref02_Queue_best_j3 R x0 x6
theorem orpimentref02_Queue_best_j1_ok (R : ER) (e : Env) : den Pg R (cd Go.Proofs.Try.f48 [1, 1, 1, 1, 1]) e (kont Pg R Go.Proofs.Try.f48) = (orpimentref02_Queue_best_j1 R (e 0) (e 6)) := (den_join Pg R 0 (cd Go.Proofs.Try.f48 [1, 1, 1, 1, 1]) (cd Go.Proofs.Try.f48 [1, 1, 1, 1, 1, 1]) e (kont Pg R Go.Proofs.Try.f48) (fun e => orpimentref02_Queue_best_j2 R) _ (by kernel_rfl) (fun e => orpimentref02_Queue_best_j2_ok R e) (den_conv Pg R (pre 0 (cd Go.Proofs.Try.f48 [1, 1, 1, 1, 1])) (cd Go.Proofs.Try.f48 [1, 1, 1, 1, 1, 0]) e (setN (kont Pg R Go.Proofs.Try.f48) (fun e => orpimentref02_Queue_best_j2 R)) _ (by kernel_rfl) (orpimentref02_Queue_best_j3_ok R e)))
def orpimentref02_Queue_best_b9 (R : ER) (k1 : Value → Value → Value → Value → WP) (x0 x1 x6 x7 : Value) : WP :=
  pv (bin .lss x7 x1) fun v16 =>
  cnd v16 (
   pv (bin .mul x6 (.int .i64 2)) fun v17 =>
  pv (bin .add x7 (.int .i64 1)) fun v18 =>
  k1 x0 x1 v17 v18) (
   orpimentref02_Queue_best_j1 R x0 x6)
theorem orpimentref02_Queue_best_b9_ok (R : ER) (k1 : Value → Value → Value → Value → WP) (e : Env) : den Pg R (cd Go.Proofs.Try.f48 [1, 1, 1, 1, 0, 1, 0, 0]) e (setN (inB 0 (setN (kont Pg R Go.Proofs.Try.f48) (fun e => orpimentref02_Queue_best_j1 R (e 0) (e 6)))) (fun e => k1 (e 0) (e 1) (e 6) (e 7))) = (orpimentref02_Queue_best_b9 R k1 (e 0) (e 1) (e 6) (e 7)) := by kernel_rfl
noncomputable def orpimentref02_Queue_best_l10 (R : ER) (n : Nat) : Value → Value → Value → Value → WP := Nat.rec (motive := fun _ => Value → Value → Value → Value → WP) (fun _ _ _ _ => fun _ => False) (fun _ ih => fun x0 x1 x6 x7 => orpimentref02_Queue_best_b9 R ih x0 x1 x6 x7) n
theorem orpimentref02_Queue_best_l10_succ (R : ER) (n : Nat) (x0 x1 x6 x7 : Value) : orpimentref02_Queue_best_l10 R (n + 1) x0 x1 x6 x7 = orpimentref02_Queue_best_b9 R (orpimentref02_Queue_best_l10 R n) x0 x1 x6 x7 := rfl
theorem orpimentref02_Queue_best_l10_ok (R : ER) : ∀ (n : Nat) (e : Env), iterL (den Pg R (cd Go.Proofs.Try.f48 [1, 1, 1, 1, 0, 1, 0, 0])) n e (inB 0 (setN (kont Pg R Go.Proofs.Try.f48) (fun e => orpimentref02_Queue_best_j1 R (e 0) (e 6)))) = orpimentref02_Queue_best_l10 R n (e 0) (e 1) (e 6) (e 7) :=
  iterL_join (den Pg R (cd Go.Proofs.Try.f48 [1, 1, 1, 1, 0, 1, 0, 0])) (inB 0 (setN (kont Pg R Go.Proofs.Try.f48) (fun e => orpimentref02_Queue_best_j1 R (e 0) (e 6)))) (fun n e => orpimentref02_Queue_best_l10 R n (e 0) (e 1) (e 6) (e 7)) (fun _ => rfl) (fun n e => (orpimentref02_Queue_best_b9_ok R (orpimentref02_Queue_best_l10 R n) e).trans (orpimentref02_Queue_best_l10_succ R n (e 0) (e 1) (e 6) (e 7)).symm)
def orpimentref02_Queue_best_j8 (R : ER) (x0 x1 x6 x7 : Value) : WP :=
  exN fun n => orpimentref02_Queue_best_l10 R n x0 x1 x6 x7
theorem orpimentref02_Queue_best_j8_ok (R : ER) (e : Env) : den Pg R (cd Go.Proofs.Try.f48 [1, 1, 1, 1, 0, 1]) e (setN (kont Pg R Go.Proofs.Try.f48) (fun e => orpimentref02_Queue_best_j1 R (e 0) (e 6))) = (orpimentref02_Queue_best_j8 R (e 0) (e 1) (e 6) (e 7)) := (den_block Pg R (cd Go.Proofs.Try.f48 [1, 1, 1, 1, 0, 1]) 0 (cd Go.Proofs.Try.f48 [1, 1, 1, 1, 0, 1, 0]) e (setN (kont Pg R Go.Proofs.Try.f48) (fun e => orpimentref02_Queue_best_j1 R (e 0) (e 6))) _ (by kernel_rfl) (den_loop Pg R (cd Go.Proofs.Try.f48 [1, 1, 1, 1, 0, 1, 0]) (cd Go.Proofs.Try.f48 [1, 1, 1, 1, 0, 1, 0, 0]) e (inB 0 (setN (kont Pg R Go.Proofs.Try.f48) (fun e => orpimentref02_Queue_best_j1 R (e 0) (e 6)))) (fun n e => orpimentref02_Queue_best_l10 R n (e 0) (e 1) (e 6) (e 7)) _ (by kernel_rfl) (orpimentref02_Queue_best_l10_ok R) (by kernel_rfl)))
def orpimentref02_Queue_best_j7 (R : ER) (x0 x1 x6 : Value) : WP :=
  orpimentref02_Queue_best_j8 R x0 x1 x6 (.int .i64 0)
theorem orpimentref02_Queue_best_j7_ok (R : ER) (e : Env) : den Pg R (cd Go.Proofs.Try.f48 [1, 1, 1, 1, 0]) e (setN (kont Pg R Go.Proofs.Try.f48) (fun e => orpimentref02_Queue_best_j1 R (e 0) (e 6))) = (orpimentref02_Queue_best_j7 R (e 0) (e 1) (e 6)) := (den_join Pg R 0 (cd Go.Proofs.Try.f48 [1, 1, 1, 1, 0]) (cd Go.Proofs.Try.f48 [1, 1, 1, 1, 0, 1]) e (setN (kont Pg R Go.Proofs.Try.f48) (fun e => orpimentref02_Queue_best_j1 R (e 0) (e 6))) (fun e => orpimentref02_Queue_best_j8 R (e 0) (e 1) (e 6) (e 7)) _ (by kernel_rfl) (fun e => orpimentref02_Queue_best_j8_ok R e) (by kernel_rfl))
def orpimentref02_Queue_best (R : ER) (x0 x1 : Value) : WP :=
  pv (eqNilP x0) fun v19 =>
  cnd v19 (
   R (.returned (.tuple ⟨[(.int .i64 0), (.int .i64 35)]⟩))) (
   pv (bin .lss x1 (.int .i64 0)) fun v20 =>
  gd v20 false (pv (some x1)) fun v21 =>
  gd v20 false (pv (bin .gtr v21 (.int .i64 7))) fun v22 =>
  pv (pickO v20 (.bool true) v22) fun v23 =>
  cnd v23 (
   R (.returned (.tuple ⟨[(.int .i64 0), (.int .i64 34)]⟩))) (
   orpimentref02_Queue_best_j7 R x0 x1 (.int .i64 1)))
theorem orpimentref02_Queue_best_den (R : ER) (x0 x1 : Value) : den Pg R (cd Go.Proofs.Try.f48 []) (argsEnv [x0, x1]) (kont Pg R Go.Proofs.Try.f48) = orpimentref02_Queue_best R x0 x1 :=
  have h : ∀ e, den Pg R (cd Go.Proofs.Try.f48 []) e (kont Pg R Go.Proofs.Try.f48) = orpimentref02_Queue_best R (e 0) (e 1) := fun e => (den_join Pg R 4 (cd Go.Proofs.Try.f48 []) (cd Go.Proofs.Try.f48 [1, 1, 1, 1, 1]) e (kont Pg R Go.Proofs.Try.f48) (fun e => orpimentref02_Queue_best_j1 R (e 0) (e 6)) _ (by kernel_rfl) (fun e => orpimentref02_Queue_best_j1_ok R e) (den_join Pg R 3 (pre 4 (cd Go.Proofs.Try.f48 [])) (cd Go.Proofs.Try.f48 [1, 1, 1, 1, 0]) e (setN (kont Pg R Go.Proofs.Try.f48) (fun e => orpimentref02_Queue_best_j1 R (e 0) (e 6))) (fun e => orpimentref02_Queue_best_j7 R (e 0) (e 1) (e 6)) _ (by kernel_rfl) (fun e => orpimentref02_Queue_best_j7_ok R e) (by kernel_rfl)))
  h _
theorem orpimentref02_Queue_best_calls {R : ER} {x0 x1 : Value} {w : World} (h : orpimentref02_Queue_best R x0 x1 w) : Calls Pg 48 ⟨[x0, x1]⟩ w R :=
  calls_of_den Go.Proofs.Try.func48 (by kernel_rfl) (by kernel_rfl) (orpimentref02_Queue_best_den R x0 x1) h
/-! ### 49: bits_Len64 -/
def bits_Len64_j3 (R : ER) (x0 x2 : Value) : WP :=
  pv (cvI .u8 x0) fun v1 =>
  pv (ixStr (.string ⟨⟨[0, 1, 2, 2, 3, 3, 3, 3, 4, 4, 4, 4, 4, 4, 4, 4, 5, 5, 5, 5, 5, 5, 5, 5, 5, 5, 5, 5, 5, 5, 5, 5, 6, 6, 6, 6, 6, 6, 6, 6, 6, 6, 6, 6, 6, 6, 6, 6, 6, 6, 6, 6, 6, 6, 6, 6, 6, 6, 6, 6, 6, 6, 6, 6, 7, 7, 7, 7, 7, 7, 7, 7, 7, 7, 7, 7, 7, 7, 7, 7, 7, 7, 7, 7, 7, 7, 7, 7, 7, 7, 7, 7, 7, 7, 7, 7, 7, 7, 7, 7, 7, 7, 7, 7, 7, 7, 7, 7, 7, 7, 7, 7, 7, 7, 7, 7, 7, 7, 7, 7, 7, 7, 7, 7, 7, 7, 7, 7, 8, 8, 8, 8, 8, 8, 8, 8, 8, 8, 8, 8, 8, 8, 8, 8, 8, 8, 8, 8, 8, 8, 8, 8, 8, 8, 8, 8, 8, 8, 8, 8, 8, 8, 8, 8, 8, 8, 8, 8, 8, 8, 8, 8, 8, 8, 8, 8, 8, 8, 8, 8, 8, 8, 8, 8, 8, 8, 8, 8, 8, 8, 8, 8, 8, 8, 8, 8, 8, 8, 8, 8, 8, 8, 8, 8, 8, 8, 8, 8, 8, 8, 8, 8, 8, 8, 8, 8, 8, 8, 8, 8, 8, 8, 8, 8, 8, 8, 8, 8, 8, 8, 8, 8, 8, 8, 8, 8, 8, 8, 8, 8, 8, 8, 8, 8, 8, 8, 8, 8, 8, 8, 8, 8, 8, 8, 8, 8]⟩⟩) v1) fun v2 =>
  pv (cvI .i64 v2) fun v3 =>
  pv (bin .add x2 v3) fun v4 =>
  R (.returned v4)
theorem bits_Len64_j3_ok (R : ER) (e : Env) : den Pg R (cd Go.Proofs.Try.f49 [1, 1, 1, 1]) e (kont Pg R Go.Proofs.Try.f49) = (bits_Len64_j3 R (e 0) (e 2)) := by kernel_rfl
def bits_Len64_j2 (R : ER) (x0 x2 : Value) : WP :=
  pv (bin .geq x0 (.int .u64 256)) fun v5 =>
  cnd v5 (
   pv (bin .shr x0 (.int .u64 8)) fun v6 =>
   pv (bin .add x2 (.int .i64 8)) fun v7 =>
   bits_Len64_j3 R v6 v7) (
   bits_Len64_j3 R x0 x2)
theorem bits_Len64_j2_ok (R : ER) (e : Env) : den Pg R (cd Go.Proofs.Try.f49 [1, 1, 1]) e (kont Pg R Go.Proofs.Try.f49) = (bits_Len64_j2 R (e 0) (e 2)) := (den_join Pg R 0 (cd Go.Proofs.Try.f49 [1, 1, 1]) (cd Go.Proofs.Try.f49 [1, 1, 1, 1]) e (kont Pg R Go.Proofs.Try.f49) (fun e => bits_Len64_j3 R (e 0) (e 2)) _ (by kernel_rfl) (fun e => bits_Len64_j3_ok R e) (by kernel_rfl))
def bits_Len64_j1 (R : ER) (x0 x2 : Value) : WP :=
  pv (bin .geq x0 (.int .u64 65536)) fun v8 =>
  cnd v8 (
   pv (bin .shr x0 (.int .u64 16)) fun v9 =>
   pv (bin .add x2 (.int .i64 16)) fun v10 =>
   bits_Len64_j2 R v9 v10) (
   bits_Len64_j2 R x0 x2)
theorem bits_Len64_j1_ok (R : ER) (e : Env) : den Pg R (cd Go.Proofs.Try.f49 [1, 1]) e (kont Pg R Go.Proofs.Try.f49) = (bits_Len64_j1 R (e 0) (e 2)) := (den_join Pg R 0 (cd Go.Proofs.Try.f49 [1, 1]) (cd Go.Proofs.Try.f49 [1, 1, 1]) e (kont Pg R Go.Proofs.Try.f49) (fun e => bits_Len64_j2 R (e 0) (e 2)) _ (by kernel_rfl) (fun e => bits_Len64_j2_ok R e) (by kernel_rfl))
def bits_Len64 (R : ER) (x0 : Value) : WP :=
  pv (bin .geq x0 (.int .u64 4294967296)) fun v11 =>
  cnd v11 (
   pv (bin .shr x0 (.int .u64 32)) fun v12 =>
   bits_Len64_j1 R v12 (.int .i64 32)) (
   bits_Len64_j1 R x0 (.int .i64 0))
theorem bits_Len64_den (R : ER) (x0 : Value) : den Pg R (cd Go.Proofs.Try.f49 []) (argsEnv [x0]) (kont Pg R Go.Proofs.Try.f49) = bits_Len64 R x0 :=
  have h : ∀ e, den Pg R (cd Go.Proofs.Try.f49 []) e (kont Pg R Go.Proofs.Try.f49) = bits_Len64 R (e 0) := fun e => (den_join Pg R 1 (cd Go.Proofs.Try.f49 []) (cd Go.Proofs.Try.f49 [1, 1]) e (kont Pg R Go.Proofs.Try.f49) (fun e => bits_Len64_j1 R (e 0) (e 2)) _ (by kernel_rfl) (fun e => bits_Len64_j1_ok R e) (by kernel_rfl))
  h _
theorem bits_Len64_calls {R : ER} {x0 : Value} {w : World} (h : bits_Len64 R x0 w) : Calls Pg 49 ⟨[x0]⟩ w R :=
  calls_of_den Go.Proofs.Try.func49 (by kernel_rfl) (by kernel_rfl) (bits_Len64_den R x0) h
end Go.Proofs.Yticnobfmpogcoaa.Den
