/- Printed by a program of this session: what the functions mean, and that the model means just that. Conditions: none. -/
import Derived.Test.YthcekppbbanfeaaDenRange
set_option linter.unusedVariables false
set_option maxRecDepth 100000
namespace Go.Proofs.Ythcekppbbanfeaa.Den
open Go
/-! ### 44: slices_SortFunc -/
def F44 (R : ER) (x0 x1 : Value) : WP :=
  pv (lenS x0) fun v1 =>
  pv (cvI .u64 v1) fun v2 =>
  cal Pg R 63 ⟨[v2]⟩ fun v3 =>
  cal Pg R 62 ⟨[x0, (.int .i64 0), v1, v3, x1]⟩ fun v4 =>
  R (.returned (.tuple ⟨[]⟩))
theorem F44_den (R : ER) (x0 x1 : Value) : den Pg R (cd Try.f44 []) (argsEnv [x0, x1]) (kont Pg R Try.f44) = F44 R x0 x1 :=
  have h : ∀ e, den Pg R (cd Try.f44 []) e (kont Pg R Try.f44) = F44 R (e 0) (e 1) := fun e => by kernel_rfl
  h _
theorem F44_calls {R : ER} {x0 x1 : Value} {w : World} (h : F44 R x0 x1 w) : Calls Pg 44 ⟨[x0, x1]⟩ w R :=
  calls_of_den Try.func44 (by kernel_rfl) (by kernel_rfl) (F44_den R x0 x1) h
/-! ### 62: slices_pdqsortCmpFunc -/
def F62_j9 (R : ER) (k1 : V7) (x0 x1 x2 x3 x4 x11 x16 x18 x20 : Value) : WP :=
  pv (bin .geq x18 x20) fun v1 =>
  cal Pg R 62 ⟨[x0, x1, x16, x3, x4]⟩ fun v2 =>
  pv (bin .add x16 (.int .i64 1)) fun v3 =>
  k1 x0 v3 x2 x3 x4 v1 x11
theorem F62_j9_ok (R : ER) (k1 : V7) (e : Env) : den Pg R (cd Try.f62 [1,1,0,0,0,1,1,1,1,1,1,1,1,1,1,1,1,1,0]) e (inB 1 (setN (inB 0 (kont Pg R Try.f62)) (fun e => k1 (e 0) (e 1) (e 2) (e 3) (e 4) (e 10) (e 11)))) = (F62_j9 R k1 (e 0) (e 1) (e 2) (e 3) (e 4) (e 11) (e 16) (e 18) (e 20)) := by kernel_rfl
def F62_j10 (R : ER) (k1 : V7) (x0 x1 x2 x3 x4 x11 x16 x19 x20 : Value) : WP :=
  pv (bin .geq x19 x20) fun v4 =>
  pv (bin .add x16 (.int .i64 1)) fun v5 =>
  cal Pg R 62 ⟨[x0, v5, x2, x3, x4]⟩ fun v6 =>
  k1 x0 x1 x16 x3 x4 v4 x11
theorem F62_j10_ok (R : ER) (k1 : V7) (e : Env) : den Pg R (cd Try.f62 [1,1,0,0,0,1,1,1,1,1,1,1,1,1,1,1,1,1,1]) e (inB 1 (setN (inB 0 (kont Pg R Try.f62)) (fun e => k1 (e 0) (e 1) (e 2) (e 3) (e 4) (e 10) (e 11)))) = (F62_j10 R k1 (e 0) (e 1) (e 2) (e 3) (e 4) (e 11) (e 16) (e 19) (e 20)) := by kernel_rfl
def F62_j8 (R : ER) (k1 : V7) (x0 x1 x2 x3 x4 x11 x16 x18 x19 x20 x125 : Value) : WP :=
  cnd x125 (F62_j9 R k1 x0 x1 x2 x3 x4 x11 x16 x18 x20) (F62_j10 R k1 x0 x1 x2 x3 x4 x11 x16 x19 x20)
theorem F62_j8_ok (R : ER) (k1 : V7) (e : Env) : den Pg R (cd Try.f62 [1,1,0,0,0,1,1,1,1,1,1,1,1,1,1,1,1,1]) e (inB 1 (setN (inB 0 (kont Pg R Try.f62)) (fun e => k1 (e 0) (e 1) (e 2) (e 3) (e 4) (e 10) (e 11)))) = (F62_j8 R k1 (e 0) (e 1) (e 2) (e 3) (e 4) (e 11) (e 16) (e 18) (e 19) (e 20) (e 125)) := (den_if Pg R (cd Try.f62 [1,1,0,0,0,1,1,1,1,1,1,1,1,1,1,1,1,1]) (cd Try.f62 [1,1,0,0,0,1,1,1,1,1,1,1,1,1,1,1,1,1,0]) (cd Try.f62 [1,1,0,0,0,1,1,1,1,1,1,1,1,1,1,1,1,1,1]) e (inB 1 (setN (inB 0 (kont Pg R Try.f62)) (fun e => k1 (e 0) (e 1) (e 2) (e 3) (e 4) (e 10) (e 11)))) (F62_j9 R k1 (e 0) (e 1) (e 2) (e 3) (e 4) (e 11) (e 16) (e 18) (e 20)) (F62_j10 R k1 (e 0) (e 1) (e 2) (e 3) (e 4) (e 11) (e 16) (e 19) (e 20)) _ (by kernel_rfl) (F62_j9_ok R k1 e) (F62_j10_ok R k1 e) (by kernel_rfl))
def F62_j7 (R : ER) (k1 : V7) (x0 x1 x2 x3 x4 x12 x13 : Value) : WP :=
  cal Pg R 81 ⟨[x0, x1, x2, x13, x4]⟩ fun v7 =>
  pv (extO 0 v7) fun v8 =>
  pv (extO 1 v7) fun v9 =>
  pv (bin .sub v8 x1) fun v10 =>
  pv (bin .sub x2 v8) fun v11 =>
  pv (bin .quo x12 (.int .i64 8)) fun v12 =>
  pv (bin .lss v10 v11) fun v13 =>
  F62_j8 R k1 x0 x1 x2 x3 x4 v9 v8 v10 v11 v12 v13
theorem F62_j7_ok (R : ER) (k1 : V7) (e : Env) : den Pg R (cd Try.f62 [1,1,0,0,0,1,1,1,1,1,1,1,1]) e (inB 1 (setN (inB 0 (kont Pg R Try.f62)) (fun e => k1 (e 0) (e 1) (e 2) (e 3) (e 4) (e 10) (e 11)))) = (F62_j7 R k1 (e 0) (e 1) (e 2) (e 3) (e 4) (e 12) (e 13)) := (den_join Pg R 4 (cd Try.f62 [1,1,0,0,0,1,1,1,1,1,1,1,1]) (cd Try.f62 [1,1,0,0,0,1,1,1,1,1,1,1,1,1,1,1,1,1]) e (inB 1 (setN (inB 0 (kont Pg R Try.f62)) (fun e => k1 (e 0) (e 1) (e 2) (e 3) (e 4) (e 10) (e 11)))) (fun e => F62_j8 R k1 (e 0) (e 1) (e 2) (e 3) (e 4) (e 11) (e 16) (e 18) (e 19) (e 20) (e 125)) _ (by kernel_rfl) (fun e => F62_j8_ok R k1 e) (by kernel_rfl))
def F62_j11 (R : ER) (k1 : V7) (x0 x1 x2 x3 x4 x10 x11 x12 x13 : Value) : WP :=
  drewV (
  pv (bin .gtr x1 (.int .i64 0)) fun v14 =>
  gd v14 true (pv (some x4)) fun v15 =>
  gd v14 true (pv (some x0)) fun v16 =>
  gd v14 true (pv (some x1)) fun v17 =>
  gd v14 true (pv (bin .sub v17 (.int .i64 1))) fun v18 =>
  gd v14 true (pv (ixS 3 v16 v18)) fun v19 =>
  gd v14 true (ldN 3 v19) fun v20 =>
  gd v14 true (pv (some x0)) fun v21 =>
  gd v14 true (pv (some x13)) fun v22 =>
  gd v14 true (pv (ixS 3 v21 v22)) fun v23 =>
  gd v14 true (ldN 3 v23) fun v24 =>
  mem fun w26 => gd v14 true (calD Pg noR v15 ⟨[v20, v24]⟩) fun v25 =>
  gd v14 true (pv (bin .lss v25 (.int .i64 0))) fun v27 =>
  gd v14 true (pv (unO .not v27)) fun v28 =>
  pv (pickO v14 v28 (.bool false)) fun v29 =>
  cnd v29 (
   cal Pg R 80 ⟨[x0, x1, x2, x13, x4]⟩ fun v30 =>
   k1 x0 v30 x2 x3 x4 x10 x11) (
   F62_j7 R k1 x0 x1 x2 x3 x4 x12 x13))
theorem F62_j11_ok (R : ER) (k1 : V7) (e : Env) : den Pg R (cd Try.f62 [1,1,0,0,0,1,1,1,1,1,1,1,0]) e (setN (inB 1 (setN (inB 0 (kont Pg R Try.f62)) (fun e => k1 (e 0) (e 1) (e 2) (e 3) (e 4) (e 10) (e 11)))) (fun e => F62_j7 R k1 (e 0) (e 1) (e 2) (e 3) (e 4) (e 12) (e 13))) = (F62_j11 R k1 (e 0) (e 1) (e 2) (e 3) (e 4) (e 10) (e 11) (e 12) (e 13)) := (by kernel_rfl)
def F62_j6 (R : ER) (k1 : V7) (x0 x1 x2 x3 x4 x10 x11 x12 x13 : Value) : WP :=
  F62_j11 R k1 x0 x1 x2 x3 x4 x10 x11 x12 x13
theorem F62_j6_ok (R : ER) (k1 : V7) (e : Env) : den Pg R (cd Try.f62 [1,1,0,0,0,1,1,1,1,1,1,1]) e (inB 1 (setN (inB 0 (kont Pg R Try.f62)) (fun e => k1 (e 0) (e 1) (e 2) (e 3) (e 4) (e 10) (e 11)))) = (F62_j6 R k1 (e 0) (e 1) (e 2) (e 3) (e 4) (e 10) (e 11) (e 12) (e 13)) := (den_join Pg R 0 (cd Try.f62 [1,1,0,0,0,1,1,1,1,1,1,1]) (cd Try.f62 [1,1,0,0,0,1,1,1,1,1,1,1,1]) e (inB 1 (setN (inB 0 (kont Pg R Try.f62)) (fun e => k1 (e 0) (e 1) (e 2) (e 3) (e 4) (e 10) (e 11)))) (fun e => F62_j7 R k1 (e 0) (e 1) (e 2) (e 3) (e 4) (e 12) (e 13)) _ (by kernel_rfl) (fun e => F62_j7_ok R k1 e) (den_conv Pg R (pre 0 (cd Try.f62 [1,1,0,0,0,1,1,1,1,1,1,1])) (cd Try.f62 [1,1,0,0,0,1,1,1,1,1,1,1,0]) e (setN (inB 1 (setN (inB 0 (kont Pg R Try.f62)) (fun e => k1 (e 0) (e 1) (e 2) (e 3) (e 4) (e 10) (e 11)))) (fun e => F62_j7 R k1 (e 0) (e 1) (e 2) (e 3) (e 4) (e 12) (e 13))) _ (by kernel_rfl) (F62_j11_ok R k1 e)))
def F62_j12 (R : ER) (k1 : V7) (x0 x1 x2 x3 x4 x10 x11 x12 x13 x14 : Value) : WP :=
  gd x10 true (pv (some x11)) fun v31 =>
  pv (pickO x10 v31 (.bool false)) fun v32 =>
  gd v32 true (pv (some x14)) fun v33 =>
  gd v32 true (pv (bin .eql v33 (.int .i64 1))) fun v34 =>
  pv (pickO v32 v34 (.bool false)) fun v35 =>
  cnd v35 (
   cal Pg R 79 ⟨[x0, x1, x2, x4]⟩ fun v36 =>
   cnd v36 (
    R (.returned (.tuple ⟨[]⟩))) (
    F62_j6 R k1 x0 x1 x2 x3 x4 x10 x11 x12 x13)) (
   F62_j6 R k1 x0 x1 x2 x3 x4 x10 x11 x12 x13)
theorem F62_j12_ok (R : ER) (k1 : V7) (e : Env) : den Pg R (cd Try.f62 [1,1,0,0,0,1,1,1,1,1,1,0]) e (setN (inB 1 (setN (inB 0 (kont Pg R Try.f62)) (fun e => k1 (e 0) (e 1) (e 2) (e 3) (e 4) (e 10) (e 11)))) (fun e => F62_j6 R k1 (e 0) (e 1) (e 2) (e 3) (e 4) (e 10) (e 11) (e 12) (e 13))) = (F62_j12 R k1 (e 0) (e 1) (e 2) (e 3) (e 4) (e 10) (e 11) (e 12) (e 13) (e 14)) := (by kernel_rfl)
def F62_j5 (R : ER) (k1 : V7) (x0 x1 x2 x3 x4 x10 x11 x12 x13 x14 : Value) : WP :=
  F62_j12 R k1 x0 x1 x2 x3 x4 x10 x11 x12 x13 x14
theorem F62_j5_ok (R : ER) (k1 : V7) (e : Env) : den Pg R (cd Try.f62 [1,1,0,0,0,1,1,1,1,1,1]) e (inB 1 (setN (inB 0 (kont Pg R Try.f62)) (fun e => k1 (e 0) (e 1) (e 2) (e 3) (e 4) (e 10) (e 11)))) = (F62_j5 R k1 (e 0) (e 1) (e 2) (e 3) (e 4) (e 10) (e 11) (e 12) (e 13) (e 14)) := (den_join Pg R 0 (cd Try.f62 [1,1,0,0,0,1,1,1,1,1,1]) (cd Try.f62 [1,1,0,0,0,1,1,1,1,1,1,1]) e (inB 1 (setN (inB 0 (kont Pg R Try.f62)) (fun e => k1 (e 0) (e 1) (e 2) (e 3) (e 4) (e 10) (e 11)))) (fun e => F62_j6 R k1 (e 0) (e 1) (e 2) (e 3) (e 4) (e 10) (e 11) (e 12) (e 13)) _ (by kernel_rfl) (fun e => F62_j6_ok R k1 e) (den_conv Pg R (pre 0 (cd Try.f62 [1,1,0,0,0,1,1,1,1,1,1])) (cd Try.f62 [1,1,0,0,0,1,1,1,1,1,1,0]) e (setN (inB 1 (setN (inB 0 (kont Pg R Try.f62)) (fun e => k1 (e 0) (e 1) (e 2) (e 3) (e 4) (e 10) (e 11)))) (fun e => F62_j6 R k1 (e 0) (e 1) (e 2) (e 3) (e 4) (e 10) (e 11) (e 12) (e 13))) _ (by kernel_rfl) (F62_j12_ok R k1 e)))
def F62_j15 (R : ER) (k1 : V7) (x0 x1 x2 x3 x4 x10 x11 x12 x13 : Value) : WP :=
  cal Pg R 78 ⟨[x0, x1, x2, x4]⟩ fun v37 =>
  pv (bin .sub x2 (.int .i64 1)) fun v38 =>
  pv (bin .sub x13 x1) fun v39 =>
  pv (bin .sub v38 v39) fun v40 =>
  F62_j5 R k1 x0 x1 x2 x3 x4 x10 x11 x12 v40 (.int .i64 1)
theorem F62_j15_ok (R : ER) (k1 : V7) (e : Env) : den Pg R (cd Try.f62 [1,1,0,0,0,1,1,1,1,1,0,1,0]) e (setN (inB 1 (setN (inB 0 (kont Pg R Try.f62)) (fun e => k1 (e 0) (e 1) (e 2) (e 3) (e 4) (e 10) (e 11)))) (fun e => F62_j5 R k1 (e 0) (e 1) (e 2) (e 3) (e 4) (e 10) (e 11) (e 12) (e 13) (e 14))) = (F62_j15 R k1 (e 0) (e 1) (e 2) (e 3) (e 4) (e 10) (e 11) (e 12) (e 13)) := by kernel_rfl
def F62_j14 (R : ER) (k1 : V7) (x0 x1 x2 x3 x4 x10 x11 x12 x13 x14 x56 : Value) : WP :=
  cnd x56 (F62_j15 R k1 x0 x1 x2 x3 x4 x10 x11 x12 x13) (F62_j5 R k1 x0 x1 x2 x3 x4 x10 x11 x12 x13 x14)
theorem F62_j14_ok (R : ER) (k1 : V7) (e : Env) : den Pg R (cd Try.f62 [1,1,0,0,0,1,1,1,1,1,0,1]) e (setN (inB 1 (setN (inB 0 (kont Pg R Try.f62)) (fun e => k1 (e 0) (e 1) (e 2) (e 3) (e 4) (e 10) (e 11)))) (fun e => F62_j5 R k1 (e 0) (e 1) (e 2) (e 3) (e 4) (e 10) (e 11) (e 12) (e 13) (e 14))) = (F62_j14 R k1 (e 0) (e 1) (e 2) (e 3) (e 4) (e 10) (e 11) (e 12) (e 13) (e 14) (e 56)) := (den_if Pg R (cd Try.f62 [1,1,0,0,0,1,1,1,1,1,0,1]) (cd Try.f62 [1,1,0,0,0,1,1,1,1,1,0,1,0]) (cd Try.f62 [1,1,0,0,0,1,1,1,1,1,0,1,1]) e (setN (inB 1 (setN (inB 0 (kont Pg R Try.f62)) (fun e => k1 (e 0) (e 1) (e 2) (e 3) (e 4) (e 10) (e 11)))) (fun e => F62_j5 R k1 (e 0) (e 1) (e 2) (e 3) (e 4) (e 10) (e 11) (e 12) (e 13) (e 14))) (F62_j15 R k1 (e 0) (e 1) (e 2) (e 3) (e 4) (e 10) (e 11) (e 12) (e 13)) _ _ (by kernel_rfl) (F62_j15_ok R k1 e) rfl (by kernel_rfl))
def F62_j13 (R : ER) (k1 : V7) (x0 x1 x2 x3 x4 x10 x11 x12 x13 x14 : Value) : WP :=
  pv (bin .eql x14 (.int .i64 2)) fun v41 =>
  F62_j14 R k1 x0 x1 x2 x3 x4 x10 x11 x12 x13 x14 v41
theorem F62_j13_ok (R : ER) (k1 : V7) (e : Env) : den Pg R (cd Try.f62 [1,1,0,0,0,1,1,1,1,1,0]) e (setN (inB 1 (setN (inB 0 (kont Pg R Try.f62)) (fun e => k1 (e 0) (e 1) (e 2) (e 3) (e 4) (e 10) (e 11)))) (fun e => F62_j5 R k1 (e 0) (e 1) (e 2) (e 3) (e 4) (e 10) (e 11) (e 12) (e 13) (e 14))) = (F62_j13 R k1 (e 0) (e 1) (e 2) (e 3) (e 4) (e 10) (e 11) (e 12) (e 13) (e 14)) := (den_join Pg R 0 (cd Try.f62 [1,1,0,0,0,1,1,1,1,1,0]) (cd Try.f62 [1,1,0,0,0,1,1,1,1,1,0,1]) e (setN (inB 1 (setN (inB 0 (kont Pg R Try.f62)) (fun e => k1 (e 0) (e 1) (e 2) (e 3) (e 4) (e 10) (e 11)))) (fun e => F62_j5 R k1 (e 0) (e 1) (e 2) (e 3) (e 4) (e 10) (e 11) (e 12) (e 13) (e 14))) (fun e => F62_j14 R k1 (e 0) (e 1) (e 2) (e 3) (e 4) (e 10) (e 11) (e 12) (e 13) (e 14) (e 56)) _ (by kernel_rfl) (fun e => F62_j14_ok R k1 e) (by kernel_rfl))
def F62_j4 (R : ER) (k1 : V7) (x0 x1 x2 x3 x4 x10 x11 x12 : Value) : WP :=
  cal Pg R 77 ⟨[x0, x1, x2, x4]⟩ fun v42 =>
  pv (extO 0 v42) fun v43 =>
  pv (extO 1 v42) fun v44 =>
  F62_j13 R k1 x0 x1 x2 x3 x4 x10 x11 x12 v43 v44
theorem F62_j4_ok (R : ER) (k1 : V7) (e : Env) : den Pg R (cd Try.f62 [1,1,0,0,0,1,1,1,1]) e (inB 1 (setN (inB 0 (kont Pg R Try.f62)) (fun e => k1 (e 0) (e 1) (e 2) (e 3) (e 4) (e 10) (e 11)))) = (F62_j4 R k1 (e 0) (e 1) (e 2) (e 3) (e 4) (e 10) (e 11) (e 12)) := (den_join Pg R 1 (cd Try.f62 [1,1,0,0,0,1,1,1,1]) (cd Try.f62 [1,1,0,0,0,1,1,1,1,1,1]) e (inB 1 (setN (inB 0 (kont Pg R Try.f62)) (fun e => k1 (e 0) (e 1) (e 2) (e 3) (e 4) (e 10) (e 11)))) (fun e => F62_j5 R k1 (e 0) (e 1) (e 2) (e 3) (e 4) (e 10) (e 11) (e 12) (e 13) (e 14)) _ (by kernel_rfl) (fun e => F62_j5_ok R k1 e) (den_join Pg R 0 (pre 1 (cd Try.f62 [1,1,0,0,0,1,1,1,1])) (cd Try.f62 [1,1,0,0,0,1,1,1,1,1,0]) e (setN (inB 1 (setN (inB 0 (kont Pg R Try.f62)) (fun e => k1 (e 0) (e 1) (e 2) (e 3) (e 4) (e 10) (e 11)))) (fun e => F62_j5 R k1 (e 0) (e 1) (e 2) (e 3) (e 4) (e 10) (e 11) (e 12) (e 13) (e 14))) (fun e => F62_j13 R k1 (e 0) (e 1) (e 2) (e 3) (e 4) (e 10) (e 11) (e 12) (e 13) (e 14)) _ (by kernel_rfl) (fun e => F62_j13_ok R k1 e) (by kernel_rfl)))
def F62_j3 (R : ER) (k1 : V7) (x0 x1 x2 x3 x4 x10 x11 x12 : Value) : WP :=
  pv (unO .not x10) fun v45 =>
  cnd v45 (
   cal Pg R 76 ⟨[x0, x1, x2, x4]⟩ fun v46 =>
   pv (bin .sub x3 (.int .i64 1)) fun v47 =>
   F62_j4 R k1 x0 x1 x2 v47 x4 x10 x11 x12) (
   F62_j4 R k1 x0 x1 x2 x3 x4 x10 x11 x12)
theorem F62_j3_ok (R : ER) (k1 : V7) (e : Env) : den Pg R (cd Try.f62 [1,1,0,0,0,1,1,1]) e (inB 1 (setN (inB 0 (kont Pg R Try.f62)) (fun e => k1 (e 0) (e 1) (e 2) (e 3) (e 4) (e 10) (e 11)))) = (F62_j3 R k1 (e 0) (e 1) (e 2) (e 3) (e 4) (e 10) (e 11) (e 12)) := (den_join Pg R 0 (cd Try.f62 [1,1,0,0,0,1,1,1]) (cd Try.f62 [1,1,0,0,0,1,1,1,1]) e (inB 1 (setN (inB 0 (kont Pg R Try.f62)) (fun e => k1 (e 0) (e 1) (e 2) (e 3) (e 4) (e 10) (e 11)))) (fun e => F62_j4 R k1 (e 0) (e 1) (e 2) (e 3) (e 4) (e 10) (e 11) (e 12)) _ (by kernel_rfl) (fun e => F62_j4_ok R k1 e) (by kernel_rfl))
def F62_j2 (R : ER) (k1 : V7) (x0 x1 x2 x3 x4 x10 x11 x12 : Value) : WP :=
  pv (bin .eql x3 (.int .i64 0)) fun v48 =>
  cnd v48 (
   cal Pg R 75 ⟨[x0, x1, x2, x4]⟩ fun v49 =>
   R (.returned (.tuple ⟨[]⟩))) (
   F62_j3 R k1 x0 x1 x2 x3 x4 x10 x11 x12)
theorem F62_j2_ok (R : ER) (k1 : V7) (e : Env) : den Pg R (cd Try.f62 [1,1,0,0,0,1,1]) e (inB 1 (setN (inB 0 (kont Pg R Try.f62)) (fun e => k1 (e 0) (e 1) (e 2) (e 3) (e 4) (e 10) (e 11)))) = (F62_j2 R k1 (e 0) (e 1) (e 2) (e 3) (e 4) (e 10) (e 11) (e 12)) := (den_join Pg R 0 (cd Try.f62 [1,1,0,0,0,1,1]) (cd Try.f62 [1,1,0,0,0,1,1,1]) e (inB 1 (setN (inB 0 (kont Pg R Try.f62)) (fun e => k1 (e 0) (e 1) (e 2) (e 3) (e 4) (e 10) (e 11)))) (fun e => F62_j3 R k1 (e 0) (e 1) (e 2) (e 3) (e 4) (e 10) (e 11) (e 12)) _ (by kernel_rfl) (fun e => F62_j3_ok R k1 e) (by kernel_rfl))
def F62_b1 (R : ER) (k1 : V7) (x0 x1 x2 x3 x4 x10 x11 : Value) : WP :=
  pv (bin .sub x2 x1) fun v50 =>
  pv (bin .leq v50 (.int .i64 12)) fun v51 =>
  cnd v51 (
   cal Pg R 74 ⟨[x0, x1, x2, x4]⟩ fun v52 =>
   R (.returned (.tuple ⟨[]⟩))) (
   F62_j2 R k1 x0 x1 x2 x3 x4 x10 x11 v50)
theorem F62_b1_ok (R : ER) (k1 : V7) (e : Env) : den Pg R (cd Try.f62 [1,1,0,0]) e (setN (inB 0 (kont Pg R Try.f62)) (fun e => k1 (e 0) (e 1) (e 2) (e 3) (e 4) (e 10) (e 11))) = (F62_b1 R k1 (e 0) (e 1) (e 2) (e 3) (e 4) (e 10) (e 11)) := (den_block Pg R (cd Try.f62 [1,1,0,0]) 1 (cd Try.f62 [1,1,0,0,0]) e (setN (inB 0 (kont Pg R Try.f62)) (fun e => k1 (e 0) (e 1) (e 2) (e 3) (e 4) (e 10) (e 11))) _ (by kernel_rfl) (den_join Pg R 1 (cd Try.f62 [1,1,0,0,0]) (cd Try.f62 [1,1,0,0,0,1,1]) e (inB 1 (setN (inB 0 (kont Pg R Try.f62)) (fun e => k1 (e 0) (e 1) (e 2) (e 3) (e 4) (e 10) (e 11)))) (fun e => F62_j2 R k1 (e 0) (e 1) (e 2) (e 3) (e 4) (e 10) (e 11) (e 12)) _ (by kernel_rfl) (fun e => F62_j2_ok R k1 e) (by kernel_rfl)))
noncomputable def F62_l1 (R : ER) (n : Nat) : V7 := Nat.rec (motive := fun _ => V7) (fun _ _ _ _ _ _ _ => fun _ => False) (fun _ ih => fun x0 x1 x2 x3 x4 x10 x11 => F62_b1 R ih x0 x1 x2 x3 x4 x10 x11) n
theorem F62_l1_succ (R : ER) (n : Nat) (x0 x1 x2 x3 x4 x10 x11 : Value) : F62_l1 R (n + 1) x0 x1 x2 x3 x4 x10 x11 = F62_b1 R (F62_l1 R n) x0 x1 x2 x3 x4 x10 x11 := rfl
theorem F62_l1_ok (R : ER) : ∀ (n : Nat) (e : Env), iterL (den Pg R (cd Try.f62 [1,1,0,0])) n e (inB 0 (kont Pg R Try.f62)) = F62_l1 R n (e 0) (e 1) (e 2) (e 3) (e 4) (e 10) (e 11) :=
  iterL_join (den Pg R (cd Try.f62 [1,1,0,0])) (inB 0 (kont Pg R Try.f62)) (fun n e => F62_l1 R n (e 0) (e 1) (e 2) (e 3) (e 4) (e 10) (e 11)) (fun _ => rfl) (fun n e => (F62_b1_ok R (F62_l1 R n) e).trans (F62_l1_succ R n (e 0) (e 1) (e 2) (e 3) (e 4) (e 10) (e 11)).symm)
def F62_j1 (R : ER) (x0 x1 x2 x3 x4 x10 x11 : Value) : WP :=
  exN fun n => F62_l1 R n x0 x1 x2 x3 x4 x10 x11
theorem F62_j1_ok (R : ER) (e : Env) : den Pg R (cd Try.f62 [1,1]) e (kont Pg R Try.f62) = (F62_j1 R (e 0) (e 1) (e 2) (e 3) (e 4) (e 10) (e 11)) := (den_block Pg R (cd Try.f62 [1,1]) 0 (cd Try.f62 [1,1,0]) e (kont Pg R Try.f62) _ (by kernel_rfl) (den_loop Pg R (cd Try.f62 [1,1,0]) (cd Try.f62 [1,1,0,0]) e (inB 0 (kont Pg R Try.f62)) (fun n e => F62_l1 R n (e 0) (e 1) (e 2) (e 3) (e 4) (e 10) (e 11)) _ (by kernel_rfl) (F62_l1_ok R) (by kernel_rfl)))
def F62 (R : ER) (x0 x1 x2 x3 x4 : Value) : WP :=
  F62_j1 R x0 x1 x2 x3 x4 (.bool true) (.bool true)
theorem F62_den (R : ER) (x0 x1 x2 x3 x4 : Value) : den Pg R (cd Try.f62 []) (argsEnv [x0, x1, x2, x3, x4]) (kont Pg R Try.f62) = F62 R x0 x1 x2 x3 x4 :=
  have h : ∀ e, den Pg R (cd Try.f62 []) e (kont Pg R Try.f62) = F62 R (e 0) (e 1) (e 2) (e 3) (e 4) := fun e => (den_join Pg R 1 (cd Try.f62 []) (cd Try.f62 [1,1]) e (kont Pg R Try.f62) (fun e => F62_j1 R (e 0) (e 1) (e 2) (e 3) (e 4) (e 10) (e 11)) _ (by kernel_rfl) (fun e => F62_j1_ok R e) (by kernel_rfl))
  h _
theorem F62_calls {R : ER} {x0 x1 x2 x3 x4 : Value} {w : World} (h : F62 R x0 x1 x2 x3 x4 w) : Calls Pg 62 ⟨[x0, x1, x2, x3, x4]⟩ w R :=
  calls_of_den Try.func62 (by kernel_rfl) (by kernel_rfl) (F62_den R x0 x1 x2 x3 x4) h
/-! ### 74: slices_insertionSortCmpFunc_74 -/
def F74_j3 (R : ER) (k1 : V5) (x0 x1 x2 x3 x8 : Value) : WP :=
  pv (bin .add x8 (.int .i64 1)) fun v1 =>
  k1 x0 x1 x2 x3 v1
theorem F74_j3_ok (R : ER) (k1 : V5) (e : Env) : den Pg R (cd Try.f74 [1,0,0,1,1]) e (setN (inB 0 (kont Pg R Try.f74)) (fun e => k1 (e 0) (e 1) (e 2) (e 3) (e 8))) = (F74_j3 R k1 (e 0) (e 1) (e 2) (e 3) (e 8)) := by kernel_rfl
def F74_j6 (R : ER) (k1 : V5) (k2 : V6) (x0 x1 x2 x3 x8 x9 : Value) : WP :=
  drewV (
  pv (bin .sub x9 (.int .i64 1)) fun v2 =>
  pv (bin .sub x9 (.int .i64 1)) fun v3 =>
  pv (ixS 3 x0 v3) fun v4 =>
  ldN 3 v4 fun v5 =>
  pv (ixS 3 x0 x9) fun v6 =>
  ldN 3 v6 fun v7 =>
  pv (ixS 3 x0 x9) fun v8 =>
  mem fun w10 => stN 3 v8 v5 fun v9 =>
  pv (ixS 3 x0 v2) fun v11 =>
  mem fun w13 => stN 3 v11 v7 fun v12 =>
  pv (bin .sub x9 (.int .i64 1)) fun v14 =>
  k2 x0 x1 x2 x3 x8 v14)
theorem F74_j6_ok (R : ER) (k1 : V5) (k2 : V6) (e : Env) : den Pg R (cd Try.f74 [1,0,0,1,0,0,1,0,0,1]) e (setN (inB 2 (inB 1 (setN (setN (inB 0 (kont Pg R Try.f74)) (fun e => k1 (e 0) (e 1) (e 2) (e 3) (e 8))) (fun e => F74_j3 R k1 (e 0) (e 1) (e 2) (e 3) (e 8))))) (fun e => k2 (e 0) (e 1) (e 2) (e 3) (e 8) (e 9))) = (F74_j6 R k1 k2 (e 0) (e 1) (e 2) (e 3) (e 8) (e 9)) := by kernel_rfl
def F74_j7 (R : ER) (k1 : V5) (k2 : V6) (x0 x1 x2 x3 x8 x9 : Value) : WP :=
  drewV (
  pv (bin .gtr x9 x1) fun v15 =>
  gd v15 true (pv (some x3)) fun v16 =>
  gd v15 true (pv (some x0)) fun v17 =>
  gd v15 true (pv (some x9)) fun v18 =>
  gd v15 true (pv (ixS 3 v17 v18)) fun v19 =>
  gd v15 true (ldN 3 v19) fun v20 =>
  gd v15 true (pv (some x0)) fun v21 =>
  gd v15 true (pv (some x9)) fun v22 =>
  gd v15 true (pv (bin .sub v22 (.int .i64 1))) fun v23 =>
  gd v15 true (pv (ixS 3 v21 v23)) fun v24 =>
  gd v15 true (ldN 3 v24) fun v25 =>
  mem fun w27 => gd v15 true (calD Pg noR v16 ⟨[v20, v25]⟩) fun v26 =>
  gd v15 true (pv (bin .lss v26 (.int .i64 0))) fun v28 =>
  pv (pickO v15 v28 (.bool false)) fun v29 =>
  cnd v29 (
   F74_j6 R k1 k2 x0 x1 x2 x3 x8 x9) (
   F74_j3 R k1 x0 x1 x2 x3 x8))
theorem F74_j7_ok (R : ER) (k1 : V5) (k2 : V6) (e : Env) : den Pg R (cd Try.f74 [1,0,0,1,0,0,1,0,0,0]) e (setN (setN (inB 2 (inB 1 (setN (setN (inB 0 (kont Pg R Try.f74)) (fun e => k1 (e 0) (e 1) (e 2) (e 3) (e 8))) (fun e => F74_j3 R k1 (e 0) (e 1) (e 2) (e 3) (e 8))))) (fun e => k2 (e 0) (e 1) (e 2) (e 3) (e 8) (e 9))) (fun e => F74_j6 R k1 k2 (e 0) (e 1) (e 2) (e 3) (e 8) (e 9))) = (F74_j7 R k1 k2 (e 0) (e 1) (e 2) (e 3) (e 8) (e 9)) := (by kernel_rfl)
def F74_b2 (R : ER) (k1 : V5) (k2 : V6) (x0 x1 x2 x3 x8 x9 : Value) : WP :=
  F74_j7 R k1 k2 x0 x1 x2 x3 x8 x9
theorem F74_b2_ok (R : ER) (k1 : V5) (k2 : V6) (e : Env) : den Pg R (cd Try.f74 [1,0,0,1,0,0,1,0,0]) e (setN (inB 2 (inB 1 (setN (setN (inB 0 (kont Pg R Try.f74)) (fun e => k1 (e 0) (e 1) (e 2) (e 3) (e 8))) (fun e => F74_j3 R k1 (e 0) (e 1) (e 2) (e 3) (e 8))))) (fun e => k2 (e 0) (e 1) (e 2) (e 3) (e 8) (e 9))) = (F74_b2 R k1 k2 (e 0) (e 1) (e 2) (e 3) (e 8) (e 9)) := (den_join Pg R 0 (cd Try.f74 [1,0,0,1,0,0,1,0,0]) (cd Try.f74 [1,0,0,1,0,0,1,0,0,1]) e (setN (inB 2 (inB 1 (setN (setN (inB 0 (kont Pg R Try.f74)) (fun e => k1 (e 0) (e 1) (e 2) (e 3) (e 8))) (fun e => F74_j3 R k1 (e 0) (e 1) (e 2) (e 3) (e 8))))) (fun e => k2 (e 0) (e 1) (e 2) (e 3) (e 8) (e 9))) (fun e => F74_j6 R k1 k2 (e 0) (e 1) (e 2) (e 3) (e 8) (e 9)) _ (by kernel_rfl) (fun e => F74_j6_ok R k1 k2 e) (den_conv Pg R (pre 0 (cd Try.f74 [1,0,0,1,0,0,1,0,0])) (cd Try.f74 [1,0,0,1,0,0,1,0,0,0]) e (setN (setN (inB 2 (inB 1 (setN (setN (inB 0 (kont Pg R Try.f74)) (fun e => k1 (e 0) (e 1) (e 2) (e 3) (e 8))) (fun e => F74_j3 R k1 (e 0) (e 1) (e 2) (e 3) (e 8))))) (fun e => k2 (e 0) (e 1) (e 2) (e 3) (e 8) (e 9))) (fun e => F74_j6 R k1 k2 (e 0) (e 1) (e 2) (e 3) (e 8) (e 9))) _ (by kernel_rfl) (F74_j7_ok R k1 k2 e)))
noncomputable def F74_l1 (R : ER) (k1 : V5) (n : Nat) : V6 := Nat.rec (motive := fun _ => V6) (fun _ _ _ _ _ _ => fun _ => False) (fun _ ih => fun x0 x1 x2 x3 x8 x9 => F74_b2 R k1 ih x0 x1 x2 x3 x8 x9) n
theorem F74_l1_succ (R : ER) (k1 : V5) (n : Nat) (x0 x1 x2 x3 x8 x9 : Value) : F74_l1 R k1 (n + 1) x0 x1 x2 x3 x8 x9 = F74_b2 R k1 (F74_l1 R k1 n) x0 x1 x2 x3 x8 x9 := rfl
theorem F74_l1_ok (R : ER) (k1 : V5) : ∀ (n : Nat) (e : Env), iterL (den Pg R (cd Try.f74 [1,0,0,1,0,0,1,0,0])) n e (inB 2 (inB 1 (setN (setN (inB 0 (kont Pg R Try.f74)) (fun e => k1 (e 0) (e 1) (e 2) (e 3) (e 8))) (fun e => F74_j3 R k1 (e 0) (e 1) (e 2) (e 3) (e 8))))) = F74_l1 R k1 n (e 0) (e 1) (e 2) (e 3) (e 8) (e 9) :=
  iterL_join (den Pg R (cd Try.f74 [1,0,0,1,0,0,1,0,0])) (inB 2 (inB 1 (setN (setN (inB 0 (kont Pg R Try.f74)) (fun e => k1 (e 0) (e 1) (e 2) (e 3) (e 8))) (fun e => F74_j3 R k1 (e 0) (e 1) (e 2) (e 3) (e 8))))) (fun n e => F74_l1 R k1 n (e 0) (e 1) (e 2) (e 3) (e 8) (e 9)) (fun _ => rfl) (fun n e => (F74_b2_ok R k1 (F74_l1 R k1 n) e).trans (F74_l1_succ R k1 n (e 0) (e 1) (e 2) (e 3) (e 8) (e 9)).symm)
def F74_j5 (R : ER) (k1 : V5) (x0 x1 x2 x3 x8 x9 : Value) : WP :=
  exN fun n => F74_l1 R k1 n x0 x1 x2 x3 x8 x9
theorem F74_j5_ok (R : ER) (k1 : V5) (e : Env) : den Pg R (cd Try.f74 [1,0,0,1,0,0,1]) e (inB 1 (setN (setN (inB 0 (kont Pg R Try.f74)) (fun e => k1 (e 0) (e 1) (e 2) (e 3) (e 8))) (fun e => F74_j3 R k1 (e 0) (e 1) (e 2) (e 3) (e 8)))) = (F74_j5 R k1 (e 0) (e 1) (e 2) (e 3) (e 8) (e 9)) := (den_block Pg R (cd Try.f74 [1,0,0,1,0,0,1]) 2 (cd Try.f74 [1,0,0,1,0,0,1,0]) e (inB 1 (setN (setN (inB 0 (kont Pg R Try.f74)) (fun e => k1 (e 0) (e 1) (e 2) (e 3) (e 8))) (fun e => F74_j3 R k1 (e 0) (e 1) (e 2) (e 3) (e 8)))) _ (by kernel_rfl) (den_loop Pg R (cd Try.f74 [1,0,0,1,0,0,1,0]) (cd Try.f74 [1,0,0,1,0,0,1,0,0]) e (inB 2 (inB 1 (setN (setN (inB 0 (kont Pg R Try.f74)) (fun e => k1 (e 0) (e 1) (e 2) (e 3) (e 8))) (fun e => F74_j3 R k1 (e 0) (e 1) (e 2) (e 3) (e 8))))) (fun n e => F74_l1 R k1 n (e 0) (e 1) (e 2) (e 3) (e 8) (e 9)) _ (by kernel_rfl) (F74_l1_ok R k1) (by kernel_rfl)))
def F74_j4 (R : ER) (k1 : V5) (x0 x1 x2 x3 x8 : Value) : WP :=
  F74_j5 R k1 x0 x1 x2 x3 x8 x8
theorem F74_j4_ok (R : ER) (k1 : V5) (e : Env) : den Pg R (cd Try.f74 [1,0,0,1,0]) e (setN (setN (inB 0 (kont Pg R Try.f74)) (fun e => k1 (e 0) (e 1) (e 2) (e 3) (e 8))) (fun e => F74_j3 R k1 (e 0) (e 1) (e 2) (e 3) (e 8))) = (F74_j4 R k1 (e 0) (e 1) (e 2) (e 3) (e 8)) := (den_block Pg R (cd Try.f74 [1,0,0,1,0]) 1 (cd Try.f74 [1,0,0,1,0,0]) e (setN (setN (inB 0 (kont Pg R Try.f74)) (fun e => k1 (e 0) (e 1) (e 2) (e 3) (e 8))) (fun e => F74_j3 R k1 (e 0) (e 1) (e 2) (e 3) (e 8))) _ (by kernel_rfl) (den_join Pg R 0 (cd Try.f74 [1,0,0,1,0,0]) (cd Try.f74 [1,0,0,1,0,0,1]) e (inB 1 (setN (setN (inB 0 (kont Pg R Try.f74)) (fun e => k1 (e 0) (e 1) (e 2) (e 3) (e 8))) (fun e => F74_j3 R k1 (e 0) (e 1) (e 2) (e 3) (e 8)))) (fun e => F74_j5 R k1 (e 0) (e 1) (e 2) (e 3) (e 8) (e 9)) _ (by kernel_rfl) (fun e => F74_j5_ok R k1 e) (by kernel_rfl)))
def F74_j2 (R : ER) (k1 : V5) (x0 x1 x2 x3 x8 : Value) : WP :=
  F74_j4 R k1 x0 x1 x2 x3 x8
theorem F74_j2_ok (R : ER) (k1 : V5) (e : Env) : den Pg R (cd Try.f74 [1,0,0,1]) e (setN (inB 0 (kont Pg R Try.f74)) (fun e => k1 (e 0) (e 1) (e 2) (e 3) (e 8))) = (F74_j2 R k1 (e 0) (e 1) (e 2) (e 3) (e 8)) := (den_join Pg R 0 (cd Try.f74 [1,0,0,1]) (cd Try.f74 [1,0,0,1,1]) e (setN (inB 0 (kont Pg R Try.f74)) (fun e => k1 (e 0) (e 1) (e 2) (e 3) (e 8))) (fun e => F74_j3 R k1 (e 0) (e 1) (e 2) (e 3) (e 8)) _ (by kernel_rfl) (fun e => F74_j3_ok R k1 e) (den_conv Pg R (pre 0 (cd Try.f74 [1,0,0,1])) (cd Try.f74 [1,0,0,1,0]) e (setN (setN (inB 0 (kont Pg R Try.f74)) (fun e => k1 (e 0) (e 1) (e 2) (e 3) (e 8))) (fun e => F74_j3 R k1 (e 0) (e 1) (e 2) (e 3) (e 8))) _ (by kernel_rfl) (F74_j4_ok R k1 e)))
def F74_b1 (R : ER) (k1 : V5) (x0 x1 x2 x3 x8 : Value) : WP :=
  pv (bin .lss x8 x2) fun v30 =>
  cnd v30 (
   F74_j2 R k1 x0 x1 x2 x3 x8) (
   R (.returned (.tuple ⟨[]⟩)))
theorem F74_b1_ok (R : ER) (k1 : V5) (e : Env) : den Pg R (cd Try.f74 [1,0,0]) e (setN (inB 0 (kont Pg R Try.f74)) (fun e => k1 (e 0) (e 1) (e 2) (e 3) (e 8))) = (F74_b1 R k1 (e 0) (e 1) (e 2) (e 3) (e 8)) := (den_join Pg R 0 (cd Try.f74 [1,0,0]) (cd Try.f74 [1,0,0,1]) e (setN (inB 0 (kont Pg R Try.f74)) (fun e => k1 (e 0) (e 1) (e 2) (e 3) (e 8))) (fun e => F74_j2 R k1 (e 0) (e 1) (e 2) (e 3) (e 8)) _ (by kernel_rfl) (fun e => F74_j2_ok R k1 e) (by kernel_rfl))
noncomputable def F74_l2 (R : ER) (n : Nat) : V5 := Nat.rec (motive := fun _ => V5) (fun _ _ _ _ _ => fun _ => False) (fun _ ih => fun x0 x1 x2 x3 x8 => F74_b1 R ih x0 x1 x2 x3 x8) n
theorem F74_l2_succ (R : ER) (n : Nat) (x0 x1 x2 x3 x8 : Value) : F74_l2 R (n + 1) x0 x1 x2 x3 x8 = F74_b1 R (F74_l2 R n) x0 x1 x2 x3 x8 := rfl
theorem F74_l2_ok (R : ER) : ∀ (n : Nat) (e : Env), iterL (den Pg R (cd Try.f74 [1,0,0])) n e (inB 0 (kont Pg R Try.f74)) = F74_l2 R n (e 0) (e 1) (e 2) (e 3) (e 8) :=
  iterL_join (den Pg R (cd Try.f74 [1,0,0])) (inB 0 (kont Pg R Try.f74)) (fun n e => F74_l2 R n (e 0) (e 1) (e 2) (e 3) (e 8)) (fun _ => rfl) (fun n e => (F74_b1_ok R (F74_l2 R n) e).trans (F74_l2_succ R n (e 0) (e 1) (e 2) (e 3) (e 8)).symm)
def F74_j1 (R : ER) (x0 x1 x2 x3 x8 : Value) : WP :=
  exN fun n => F74_l2 R n x0 x1 x2 x3 x8
theorem F74_j1_ok (R : ER) (e : Env) : den Pg R (cd Try.f74 [1]) e (kont Pg R Try.f74) = (F74_j1 R (e 0) (e 1) (e 2) (e 3) (e 8)) := (den_block Pg R (cd Try.f74 [1]) 0 (cd Try.f74 [1,0]) e (kont Pg R Try.f74) _ (by kernel_rfl) (den_loop Pg R (cd Try.f74 [1,0]) (cd Try.f74 [1,0,0]) e (inB 0 (kont Pg R Try.f74)) (fun n e => F74_l2 R n (e 0) (e 1) (e 2) (e 3) (e 8)) _ (by kernel_rfl) (F74_l2_ok R) (by kernel_rfl)))
def F74 (R : ER) (x0 x1 x2 x3 : Value) : WP :=
  pv (bin .add x1 (.int .i64 1)) fun v31 =>
  F74_j1 R x0 x1 x2 x3 v31
theorem F74_den (R : ER) (x0 x1 x2 x3 : Value) : den Pg R (cd Try.f74 []) (argsEnv [x0, x1, x2, x3]) (kont Pg R Try.f74) = F74 R x0 x1 x2 x3 :=
  have h : ∀ e, den Pg R (cd Try.f74 []) e (kont Pg R Try.f74) = F74 R (e 0) (e 1) (e 2) (e 3) := fun e => (den_join Pg R 0 (cd Try.f74 []) (cd Try.f74 [1]) e (kont Pg R Try.f74) (fun e => F74_j1 R (e 0) (e 1) (e 2) (e 3) (e 8)) _ (by kernel_rfl) (fun e => F74_j1_ok R e) (by kernel_rfl))
  h _
theorem F74_calls {R : ER} {x0 x1 x2 x3 : Value} {w : World} (h : F74 R x0 x1 x2 x3 w) : Calls Pg 74 ⟨[x0, x1, x2, x3]⟩ w R :=
  calls_of_den Try.func74 (by kernel_rfl) (by kernel_rfl) (F74_den R x0 x1 x2 x3) h
end Go.Proofs.Ythcekppbbanfeaa.Den
