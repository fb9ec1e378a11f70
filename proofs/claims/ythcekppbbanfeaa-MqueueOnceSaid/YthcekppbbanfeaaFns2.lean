/- Printed by a program of this session: what the functions mean, and that the model means just that. Conditions: none. -/
import Derived.Test.YthcekppbbanfeaaDenRange
set_option linter.unusedVariables false
set_option maxRecDepth 100000
namespace Go.Proofs.Ythcekppbbanfeaa.Den
open Go
/-! ### 58: slices_stableCmpFunc_58 -/
def F58_j5 (R : ER) (k1 : V4) (x0 x1 x2 x6 : Value) : WP :=
  pv (bin .mul x6 (.int .i64 2)) fun v1 =>
  k1 x0 x1 x2 v1
theorem F58_j5_ok (R : ER) (k1 : V4) (e : Env) : den Pg R (cd Try.f58 [1,1,1,1,0,0,1,0,1,1,1]) e (inB 3 (setN (inB 2 (kont Pg R Try.f58)) (fun e => k1 (e 0) (e 1) (e 2) (e 6)))) = (F58_j5 R k1 (e 0) (e 1) (e 2) (e 6)) := by kernel_rfl
def F58_j6 (R : ER) (k1 : V4) (x0 x1 x2 x6 x7 : Value) : WP :=
  pv (bin .add x7 x6) fun v2 =>
  pv (bin .lss v2 x1) fun v3 =>
  cnd v3 (
   cal Pg R 73 ⟨[x0, x7, v2, x1, x2]⟩ fun v4 =>
   F58_j5 R k1 x0 x1 x2 x6) (
   F58_j5 R k1 x0 x1 x2 x6)
theorem F58_j6_ok (R : ER) (k1 : V4) (e : Env) : den Pg R (cd Try.f58 [1,1,1,1,0,0,1,0,1,1,0]) e (setN (inB 3 (setN (inB 2 (kont Pg R Try.f58)) (fun e => k1 (e 0) (e 1) (e 2) (e 6)))) (fun e => F58_j5 R k1 (e 0) (e 1) (e 2) (e 6))) = (F58_j6 R k1 (e 0) (e 1) (e 2) (e 6) (e 7)) := (by kernel_rfl)
def F58_j4 (R : ER) (k1 : V4) (x0 x1 x2 x6 x7 : Value) : WP :=
  F58_j6 R k1 x0 x1 x2 x6 x7
theorem F58_j4_ok (R : ER) (k1 : V4) (e : Env) : den Pg R (cd Try.f58 [1,1,1,1,0,0,1,0,1,1]) e (inB 3 (setN (inB 2 (kont Pg R Try.f58)) (fun e => k1 (e 0) (e 1) (e 2) (e 6)))) = (F58_j4 R k1 (e 0) (e 1) (e 2) (e 6) (e 7)) := (den_join Pg R 0 (cd Try.f58 [1,1,1,1,0,0,1,0,1,1]) (cd Try.f58 [1,1,1,1,0,0,1,0,1,1,1]) e (inB 3 (setN (inB 2 (kont Pg R Try.f58)) (fun e => k1 (e 0) (e 1) (e 2) (e 6)))) (fun e => F58_j5 R k1 (e 0) (e 1) (e 2) (e 6)) _ (by kernel_rfl) (fun e => F58_j5_ok R k1 e) (den_conv Pg R (pre 0 (cd Try.f58 [1,1,1,1,0,0,1,0,1,1])) (cd Try.f58 [1,1,1,1,0,0,1,0,1,1,0]) e (setN (inB 3 (setN (inB 2 (kont Pg R Try.f58)) (fun e => k1 (e 0) (e 1) (e 2) (e 6)))) (fun e => F58_j5 R k1 (e 0) (e 1) (e 2) (e 6))) _ (by kernel_rfl) (F58_j6_ok R k1 e)))
def F58_j8 (R : ER) (k1 : V4) (k2 : V6) (x0 x1 x2 x6 x7 x8 : Value) : WP :=
  pv (bin .add x7 x6) fun v5 =>
  cal Pg R 73 ⟨[x0, x7, v5, x8, x2]⟩ fun v6 =>
  pv (bin .mul (.int .i64 2) x6) fun v7 =>
  pv (bin .add x8 v7) fun v8 =>
  k2 x0 x1 x2 x6 x8 v8
theorem F58_j8_ok (R : ER) (k1 : V4) (k2 : V6) (e : Env) : den Pg R (cd Try.f58 [1,1,1,1,0,0,1,0,1,0,0,0,1]) e (setN (inB 4 (setN (inB 3 (setN (inB 2 (kont Pg R Try.f58)) (fun e => k1 (e 0) (e 1) (e 2) (e 6)))) (fun e => F58_j4 R k1 (e 0) (e 1) (e 2) (e 6) (e 7)))) (fun e => k2 (e 0) (e 1) (e 2) (e 6) (e 7) (e 8))) = (F58_j8 R k1 k2 (e 0) (e 1) (e 2) (e 6) (e 7) (e 8)) := by kernel_rfl
def F58_b2 (R : ER) (k1 : V4) (k2 : V6) (x0 x1 x2 x6 x7 x8 : Value) : WP :=
  pv (bin .leq x8 x1) fun v9 =>
  cnd v9 (
   F58_j8 R k1 k2 x0 x1 x2 x6 x7 x8) (
   F58_j4 R k1 x0 x1 x2 x6 x7)
theorem F58_b2_ok (R : ER) (k1 : V4) (k2 : V6) (e : Env) : den Pg R (cd Try.f58 [1,1,1,1,0,0,1,0,1,0,0,0]) e (setN (inB 4 (setN (inB 3 (setN (inB 2 (kont Pg R Try.f58)) (fun e => k1 (e 0) (e 1) (e 2) (e 6)))) (fun e => F58_j4 R k1 (e 0) (e 1) (e 2) (e 6) (e 7)))) (fun e => k2 (e 0) (e 1) (e 2) (e 6) (e 7) (e 8))) = (F58_b2 R k1 k2 (e 0) (e 1) (e 2) (e 6) (e 7) (e 8)) := (den_join Pg R 0 (cd Try.f58 [1,1,1,1,0,0,1,0,1,0,0,0]) (cd Try.f58 [1,1,1,1,0,0,1,0,1,0,0,0,1]) e (setN (inB 4 (setN (inB 3 (setN (inB 2 (kont Pg R Try.f58)) (fun e => k1 (e 0) (e 1) (e 2) (e 6)))) (fun e => F58_j4 R k1 (e 0) (e 1) (e 2) (e 6) (e 7)))) (fun e => k2 (e 0) (e 1) (e 2) (e 6) (e 7) (e 8))) (fun e => F58_j8 R k1 k2 (e 0) (e 1) (e 2) (e 6) (e 7) (e 8)) _ (by kernel_rfl) (fun e => F58_j8_ok R k1 k2 e) (by kernel_rfl))
noncomputable def F58_l1 (R : ER) (k1 : V4) (n : Nat) : V6 := Nat.rec (motive := fun _ => V6) (fun _ _ _ _ _ _ => fun _ => False) (fun _ ih => fun x0 x1 x2 x6 x7 x8 => F58_b2 R k1 ih x0 x1 x2 x6 x7 x8) n
theorem F58_l1_succ (R : ER) (k1 : V4) (n : Nat) (x0 x1 x2 x6 x7 x8 : Value) : F58_l1 R k1 (n + 1) x0 x1 x2 x6 x7 x8 = F58_b2 R k1 (F58_l1 R k1 n) x0 x1 x2 x6 x7 x8 := rfl
theorem F58_l1_ok (R : ER) (k1 : V4) : ∀ (n : Nat) (e : Env), iterL (den Pg R (cd Try.f58 [1,1,1,1,0,0,1,0,1,0,0,0])) n e (inB 4 (setN (inB 3 (setN (inB 2 (kont Pg R Try.f58)) (fun e => k1 (e 0) (e 1) (e 2) (e 6)))) (fun e => F58_j4 R k1 (e 0) (e 1) (e 2) (e 6) (e 7)))) = F58_l1 R k1 n (e 0) (e 1) (e 2) (e 6) (e 7) (e 8) :=
  iterL_join (den Pg R (cd Try.f58 [1,1,1,1,0,0,1,0,1,0,0,0])) (inB 4 (setN (inB 3 (setN (inB 2 (kont Pg R Try.f58)) (fun e => k1 (e 0) (e 1) (e 2) (e 6)))) (fun e => F58_j4 R k1 (e 0) (e 1) (e 2) (e 6) (e 7)))) (fun n e => F58_l1 R k1 n (e 0) (e 1) (e 2) (e 6) (e 7) (e 8)) (fun _ => rfl) (fun n e => (F58_b2_ok R k1 (F58_l1 R k1 n) e).trans (F58_l1_succ R k1 n (e 0) (e 1) (e 2) (e 6) (e 7) (e 8)).symm)
def F58_j7 (R : ER) (k1 : V4) (x0 x1 x2 x6 x7 x8 : Value) : WP :=
  exN fun n => F58_l1 R k1 n x0 x1 x2 x6 x7 x8
theorem F58_j7_ok (R : ER) (k1 : V4) (e : Env) : den Pg R (cd Try.f58 [1,1,1,1,0,0,1,0,1,0]) e (setN (inB 3 (setN (inB 2 (kont Pg R Try.f58)) (fun e => k1 (e 0) (e 1) (e 2) (e 6)))) (fun e => F58_j4 R k1 (e 0) (e 1) (e 2) (e 6) (e 7))) = (F58_j7 R k1 (e 0) (e 1) (e 2) (e 6) (e 7) (e 8)) := (den_block Pg R (cd Try.f58 [1,1,1,1,0,0,1,0,1,0]) 4 (cd Try.f58 [1,1,1,1,0,0,1,0,1,0,0]) e (setN (inB 3 (setN (inB 2 (kont Pg R Try.f58)) (fun e => k1 (e 0) (e 1) (e 2) (e 6)))) (fun e => F58_j4 R k1 (e 0) (e 1) (e 2) (e 6) (e 7))) _ (by kernel_rfl) (den_loop Pg R (cd Try.f58 [1,1,1,1,0,0,1,0,1,0,0]) (cd Try.f58 [1,1,1,1,0,0,1,0,1,0,0,0]) e (inB 4 (setN (inB 3 (setN (inB 2 (kont Pg R Try.f58)) (fun e => k1 (e 0) (e 1) (e 2) (e 6)))) (fun e => F58_j4 R k1 (e 0) (e 1) (e 2) (e 6) (e 7)))) (fun n e => F58_l1 R k1 n (e 0) (e 1) (e 2) (e 6) (e 7) (e 8)) _ (by kernel_rfl) (F58_l1_ok R k1) (by kernel_rfl)))
def F58_j3 (R : ER) (k1 : V4) (x0 x1 x2 x6 : Value) : WP :=
  pv (bin .mul (.int .i64 2) x6) fun v10 =>
  F58_j7 R k1 x0 x1 x2 x6 (.int .i64 0) v10
theorem F58_j3_ok (R : ER) (k1 : V4) (e : Env) : den Pg R (cd Try.f58 [1,1,1,1,0,0,1]) e (setN (inB 2 (kont Pg R Try.f58)) (fun e => k1 (e 0) (e 1) (e 2) (e 6))) = (F58_j3 R k1 (e 0) (e 1) (e 2) (e 6)) := (den_block Pg R (cd Try.f58 [1,1,1,1,0,0,1]) 3 (cd Try.f58 [1,1,1,1,0,0,1,0]) e (setN (inB 2 (kont Pg R Try.f58)) (fun e => k1 (e 0) (e 1) (e 2) (e 6))) _ (by kernel_rfl) (den_join Pg R 1 (cd Try.f58 [1,1,1,1,0,0,1,0]) (cd Try.f58 [1,1,1,1,0,0,1,0,1,1]) e (inB 3 (setN (inB 2 (kont Pg R Try.f58)) (fun e => k1 (e 0) (e 1) (e 2) (e 6)))) (fun e => F58_j4 R k1 (e 0) (e 1) (e 2) (e 6) (e 7)) _ (by kernel_rfl) (fun e => F58_j4_ok R k1 e) (den_join Pg R 0 (pre 1 (cd Try.f58 [1,1,1,1,0,0,1,0])) (cd Try.f58 [1,1,1,1,0,0,1,0,1,0]) e (setN (inB 3 (setN (inB 2 (kont Pg R Try.f58)) (fun e => k1 (e 0) (e 1) (e 2) (e 6)))) (fun e => F58_j4 R k1 (e 0) (e 1) (e 2) (e 6) (e 7))) (fun e => F58_j7 R k1 (e 0) (e 1) (e 2) (e 6) (e 7) (e 8)) _ (by kernel_rfl) (fun e => F58_j7_ok R k1 e) (by kernel_rfl))))
def F58_b1 (R : ER) (k1 : V4) (x0 x1 x2 x6 : Value) : WP :=
  pv (bin .lss x6 x1) fun v11 =>
  cnd v11 (
   F58_j3 R k1 x0 x1 x2 x6) (
   R (.returned (.tuple ⟨[]⟩)))
theorem F58_b1_ok (R : ER) (k1 : V4) (e : Env) : den Pg R (cd Try.f58 [1,1,1,1,0,0]) e (setN (inB 2 (kont Pg R Try.f58)) (fun e => k1 (e 0) (e 1) (e 2) (e 6))) = (F58_b1 R k1 (e 0) (e 1) (e 2) (e 6)) := (den_join Pg R 0 (cd Try.f58 [1,1,1,1,0,0]) (cd Try.f58 [1,1,1,1,0,0,1]) e (setN (inB 2 (kont Pg R Try.f58)) (fun e => k1 (e 0) (e 1) (e 2) (e 6))) (fun e => F58_j3 R k1 (e 0) (e 1) (e 2) (e 6)) _ (by kernel_rfl) (fun e => F58_j3_ok R k1 e) (by kernel_rfl))
noncomputable def F58_l2 (R : ER) (n : Nat) : V4 := Nat.rec (motive := fun _ => V4) (fun _ _ _ _ => fun _ => False) (fun _ ih => fun x0 x1 x2 x6 => F58_b1 R ih x0 x1 x2 x6) n
theorem F58_l2_succ (R : ER) (n : Nat) (x0 x1 x2 x6 : Value) : F58_l2 R (n + 1) x0 x1 x2 x6 = F58_b1 R (F58_l2 R n) x0 x1 x2 x6 := rfl
theorem F58_l2_ok (R : ER) : ∀ (n : Nat) (e : Env), iterL (den Pg R (cd Try.f58 [1,1,1,1,0,0])) n e (inB 2 (kont Pg R Try.f58)) = F58_l2 R n (e 0) (e 1) (e 2) (e 6) :=
  iterL_join (den Pg R (cd Try.f58 [1,1,1,1,0,0])) (inB 2 (kont Pg R Try.f58)) (fun n e => F58_l2 R n (e 0) (e 1) (e 2) (e 6)) (fun _ => rfl) (fun n e => (F58_b1_ok R (F58_l2 R n) e).trans (F58_l2_succ R n (e 0) (e 1) (e 2) (e 6)).symm)
def F58_j2 (R : ER) (x0 x1 x2 x6 : Value) : WP :=
  exN fun n => F58_l2 R n x0 x1 x2 x6
theorem F58_j2_ok (R : ER) (e : Env) : den Pg R (cd Try.f58 [1,1,1,1]) e (kont Pg R Try.f58) = (F58_j2 R (e 0) (e 1) (e 2) (e 6)) := (den_block Pg R (cd Try.f58 [1,1,1,1]) 2 (cd Try.f58 [1,1,1,1,0]) e (kont Pg R Try.f58) _ (by kernel_rfl) (den_loop Pg R (cd Try.f58 [1,1,1,1,0]) (cd Try.f58 [1,1,1,1,0,0]) e (inB 2 (kont Pg R Try.f58)) (fun n e => F58_l2 R n (e 0) (e 1) (e 2) (e 6)) _ (by kernel_rfl) (F58_l2_ok R) (by kernel_rfl)))
def F58_j1 (R : ER) (x0 x1 x2 x6 x7 : Value) : WP :=
  cal Pg R 72 ⟨[x0, x7, x1, x2]⟩ fun v12 =>
  F58_j2 R x0 x1 x2 x6
theorem F58_j1_ok (R : ER) (e : Env) : den Pg R (cd Try.f58 [1,1,1]) e (kont Pg R Try.f58) = (F58_j1 R (e 0) (e 1) (e 2) (e 6) (e 7)) := (den_join Pg R 0 (cd Try.f58 [1,1,1]) (cd Try.f58 [1,1,1,1]) e (kont Pg R Try.f58) (fun e => F58_j2 R (e 0) (e 1) (e 2) (e 6)) _ (by kernel_rfl) (fun e => F58_j2_ok R e) (by kernel_rfl))
def F58_j10 (R : ER) (k1 : V6) (x0 x1 x2 x6 x7 x8 : Value) : WP :=
  cal Pg R 72 ⟨[x0, x7, x8, x2]⟩ fun v13 =>
  pv (bin .add x8 x6) fun v14 =>
  k1 x0 x1 x2 x6 x8 v14
theorem F58_j10_ok (R : ER) (k1 : V6) (e : Env) : den Pg R (cd Try.f58 [1,1,0,0,0,1]) e (setN (inB 0 (setN (kont Pg R Try.f58) (fun e => F58_j1 R (e 0) (e 1) (e 2) (e 6) (e 7)))) (fun e => k1 (e 0) (e 1) (e 2) (e 6) (e 7) (e 8))) = (F58_j10 R k1 (e 0) (e 1) (e 2) (e 6) (e 7) (e 8)) := by kernel_rfl
def F58_b3 (R : ER) (k1 : V6) (x0 x1 x2 x6 x7 x8 : Value) : WP :=
  pv (bin .leq x8 x1) fun v15 =>
  cnd v15 (
   F58_j10 R k1 x0 x1 x2 x6 x7 x8) (
   F58_j1 R x0 x1 x2 x6 x7)
theorem F58_b3_ok (R : ER) (k1 : V6) (e : Env) : den Pg R (cd Try.f58 [1,1,0,0,0]) e (setN (inB 0 (setN (kont Pg R Try.f58) (fun e => F58_j1 R (e 0) (e 1) (e 2) (e 6) (e 7)))) (fun e => k1 (e 0) (e 1) (e 2) (e 6) (e 7) (e 8))) = (F58_b3 R k1 (e 0) (e 1) (e 2) (e 6) (e 7) (e 8)) := (den_join Pg R 0 (cd Try.f58 [1,1,0,0,0]) (cd Try.f58 [1,1,0,0,0,1]) e (setN (inB 0 (setN (kont Pg R Try.f58) (fun e => F58_j1 R (e 0) (e 1) (e 2) (e 6) (e 7)))) (fun e => k1 (e 0) (e 1) (e 2) (e 6) (e 7) (e 8))) (fun e => F58_j10 R k1 (e 0) (e 1) (e 2) (e 6) (e 7) (e 8)) _ (by kernel_rfl) (fun e => F58_j10_ok R k1 e) (by kernel_rfl))
noncomputable def F58_l3 (R : ER) (n : Nat) : V6 := Nat.rec (motive := fun _ => V6) (fun _ _ _ _ _ _ => fun _ => False) (fun _ ih => fun x0 x1 x2 x6 x7 x8 => F58_b3 R ih x0 x1 x2 x6 x7 x8) n
theorem F58_l3_succ (R : ER) (n : Nat) (x0 x1 x2 x6 x7 x8 : Value) : F58_l3 R (n + 1) x0 x1 x2 x6 x7 x8 = F58_b3 R (F58_l3 R n) x0 x1 x2 x6 x7 x8 := rfl
theorem F58_l3_ok (R : ER) : ∀ (n : Nat) (e : Env), iterL (den Pg R (cd Try.f58 [1,1,0,0,0])) n e (inB 0 (setN (kont Pg R Try.f58) (fun e => F58_j1 R (e 0) (e 1) (e 2) (e 6) (e 7)))) = F58_l3 R n (e 0) (e 1) (e 2) (e 6) (e 7) (e 8) :=
  iterL_join (den Pg R (cd Try.f58 [1,1,0,0,0])) (inB 0 (setN (kont Pg R Try.f58) (fun e => F58_j1 R (e 0) (e 1) (e 2) (e 6) (e 7)))) (fun n e => F58_l3 R n (e 0) (e 1) (e 2) (e 6) (e 7) (e 8)) (fun _ => rfl) (fun n e => (F58_b3_ok R (F58_l3 R n) e).trans (F58_l3_succ R n (e 0) (e 1) (e 2) (e 6) (e 7) (e 8)).symm)
def F58_j9 (R : ER) (x0 x1 x2 x6 x7 x8 : Value) : WP :=
  exN fun n => F58_l3 R n x0 x1 x2 x6 x7 x8
theorem F58_j9_ok (R : ER) (e : Env) : den Pg R (cd Try.f58 [1,1,0]) e (setN (kont Pg R Try.f58) (fun e => F58_j1 R (e 0) (e 1) (e 2) (e 6) (e 7))) = (F58_j9 R (e 0) (e 1) (e 2) (e 6) (e 7) (e 8)) := (den_block Pg R (cd Try.f58 [1,1,0]) 0 (cd Try.f58 [1,1,0,0]) e (setN (kont Pg R Try.f58) (fun e => F58_j1 R (e 0) (e 1) (e 2) (e 6) (e 7))) _ (by kernel_rfl) (den_loop Pg R (cd Try.f58 [1,1,0,0]) (cd Try.f58 [1,1,0,0,0]) e (inB 0 (setN (kont Pg R Try.f58) (fun e => F58_j1 R (e 0) (e 1) (e 2) (e 6) (e 7)))) (fun n e => F58_l3 R n (e 0) (e 1) (e 2) (e 6) (e 7) (e 8)) _ (by kernel_rfl) (F58_l3_ok R) (by kernel_rfl)))
def F58 (R : ER) (x0 x1 x2 : Value) : WP :=
  F58_j9 R x0 x1 x2 (.int .i64 20) (.int .i64 0) (.int .i64 20)
theorem F58_den (R : ER) (x0 x1 x2 : Value) : den Pg R (cd Try.f58 []) (argsEnv [x0, x1, x2]) (kont Pg R Try.f58) = F58 R x0 x1 x2 :=
  have h : ∀ e, den Pg R (cd Try.f58 []) e (kont Pg R Try.f58) = F58 R (e 0) (e 1) (e 2) := fun e => (den_join Pg R 2 (cd Try.f58 []) (cd Try.f58 [1,1,1]) e (kont Pg R Try.f58) (fun e => F58_j1 R (e 0) (e 1) (e 2) (e 6) (e 7)) _ (by kernel_rfl) (fun e => F58_j1_ok R e) (den_join Pg R 1 (pre 2 (cd Try.f58 [])) (cd Try.f58 [1,1,0]) e (setN (kont Pg R Try.f58) (fun e => F58_j1 R (e 0) (e 1) (e 2) (e 6) (e 7))) (fun e => F58_j9 R (e 0) (e 1) (e 2) (e 6) (e 7) (e 8)) _ (by kernel_rfl) (fun e => F58_j9_ok R e) (by kernel_rfl)))
  h _
theorem F58_calls {R : ER} {x0 x1 x2 : Value} {w : World} (h : F58 R x0 x1 x2 w) : Calls Pg 58 ⟨[x0, x1, x2]⟩ w R :=
  calls_of_den Try.func58 (by kernel_rfl) (by kernel_rfl) (F58_den R x0 x1 x2) h
/-! ### 59: cmp_isNaN -/
def F59 (R : ER) (x0 : Value) : WP :=
  pv (bin .neq x0 x0) fun v1 =>
  R (.returned v1)
theorem F59_den (R : ER) (x0 : Value) : den Pg R (cd Try.f59 []) (argsEnv [x0]) (kont Pg R Try.f59) = F59 R x0 :=
  have h : ∀ e, den Pg R (cd Try.f59 []) e (kont Pg R Try.f59) = F59 R (e 0) := fun e => by kernel_rfl
  h _
theorem F59_calls {R : ER} {x0 : Value} {w : World} (h : F59 R x0 w) : Calls Pg 59 ⟨[x0]⟩ w R :=
  calls_of_den Try.func59 (by kernel_rfl) (by kernel_rfl) (F59_den R x0) h
/-! ### 60: mqueue_waiting_60 -/
def F60 (R : ER) (x0 x1 : Value) : WP :=
  bx 88 x0 fun v1 =>
  pv (faO 0 v1) fun v2 =>
  ld1 v2 fun v3 =>
  ld1 x1 fun v4 =>
  pv (bin .eql v3 v4) fun v5 =>
  R (.returned v5)
theorem F60_den (R : ER) (x0 x1 : Value) : den Pg R (cd Try.f60 []) (argsEnv [x0, x1]) (kont Pg R Try.f60) = F60 R x0 x1 :=
  have h : ∀ e, den Pg R (cd Try.f60 []) e (kont Pg R Try.f60) = F60 R (e 0) (e 1) := fun e => by kernel_rfl
  h _
theorem F60_calls {R : ER} {x0 x1 : Value} {w : World} (h : F60 R x0 x1 w) : Calls Pg 60 ⟨[x0, x1]⟩ w R :=
  calls_of_den Try.func60 (by kernel_rfl) (by kernel_rfl) (F60_den R x0 x1) h
/-! ### 61: mqueue_waiting_61 -/
def F61 (R : ER) (x0 x1 : Value) : WP :=
  bx 91 x0 fun v1 =>
  pv (faO 0 v1) fun v2 =>
  ld1 v2 fun v3 =>
  ld1 x1 fun v4 =>
  pv (bin .eql v3 v4) fun v5 =>
  R (.returned v5)
theorem F61_den (R : ER) (x0 x1 : Value) : den Pg R (cd Try.f61 []) (argsEnv [x0, x1]) (kont Pg R Try.f61) = F61 R x0 x1 :=
  have h : ∀ e, den Pg R (cd Try.f61 []) e (kont Pg R Try.f61) = F61 R (e 0) (e 1) := fun e => by kernel_rfl
  h _
theorem F61_calls {R : ER} {x0 x1 : Value} {w : World} (h : F61 R x0 x1 w) : Calls Pg 61 ⟨[x0, x1]⟩ w R :=
  calls_of_den Try.func61 (by kernel_rfl) (by kernel_rfl) (F61_den R x0 x1) h
/-! ### 64: cmp_Or -/
def F64_j1 (R : ER) (x3 : Value) : WP :=
  R (.returned x3)
theorem F64_j1_ok (R : ER) (e : Env) : den Pg R (cd Try.f64 [1,1,1]) e (kont Pg R Try.f64) = (F64_j1 R (e 3)) := by kernel_rfl
def F64_b1 (R : ER) (k1 : V4) (x3 x6 x7 x8 : Value) : WP :=
  pv (bin .lss x8 x7) fun v1 =>
  cnd v1 (
   pv (ixS 1 x6 x8) fun v2 =>
  ld1 v2 fun v3 =>
  pv (bin .neq v3 x3) fun v4 =>
  cnd v4 (
   R (.returned v3)) (
   pv (bin .add x8 (.int .i64 1)) fun v5 =>
  k1 x3 x6 x7 v5)) (
   F64_j1 R x3)
theorem F64_b1_ok (R : ER) (k1 : V4) (e : Env) : den Pg R (cd Try.f64 [1,1,0,1,0,0]) e (setN (inB 0 (setN (kont Pg R Try.f64) (fun e => F64_j1 R (e 3)))) (fun e => k1 (e 3) (e 6) (e 7) (e 8))) = (F64_b1 R k1 (e 3) (e 6) (e 7) (e 8)) := by kernel_rfl
noncomputable def F64_l1 (R : ER) (n : Nat) : V4 := Nat.rec (motive := fun _ => V4) (fun _ _ _ _ => fun _ => False) (fun _ ih => fun x3 x6 x7 x8 => F64_b1 R ih x3 x6 x7 x8) n
theorem F64_l1_succ (R : ER) (n : Nat) (x3 x6 x7 x8 : Value) : F64_l1 R (n + 1) x3 x6 x7 x8 = F64_b1 R (F64_l1 R n) x3 x6 x7 x8 := rfl
theorem F64_l1_ok (R : ER) : ∀ (n : Nat) (e : Env), iterL (den Pg R (cd Try.f64 [1,1,0,1,0,0])) n e (inB 0 (setN (kont Pg R Try.f64) (fun e => F64_j1 R (e 3)))) = F64_l1 R n (e 3) (e 6) (e 7) (e 8) :=
  iterL_join (den Pg R (cd Try.f64 [1,1,0,1,0,0])) (inB 0 (setN (kont Pg R Try.f64) (fun e => F64_j1 R (e 3)))) (fun n e => F64_l1 R n (e 3) (e 6) (e 7) (e 8)) (fun _ => rfl) (fun n e => (F64_b1_ok R (F64_l1 R n) e).trans (F64_l1_succ R n (e 3) (e 6) (e 7) (e 8)).symm)
def F64_j3 (R : ER) (x3 x6 x7 x8 : Value) : WP :=
  exN fun n => F64_l1 R n x3 x6 x7 x8
theorem F64_j3_ok (R : ER) (e : Env) : den Pg R (cd Try.f64 [1,1,0,1]) e (setN (kont Pg R Try.f64) (fun e => F64_j1 R (e 3))) = (F64_j3 R (e 3) (e 6) (e 7) (e 8)) := (den_block Pg R (cd Try.f64 [1,1,0,1]) 0 (cd Try.f64 [1,1,0,1,0]) e (setN (kont Pg R Try.f64) (fun e => F64_j1 R (e 3))) _ (by kernel_rfl) (den_loop Pg R (cd Try.f64 [1,1,0,1,0]) (cd Try.f64 [1,1,0,1,0,0]) e (inB 0 (setN (kont Pg R Try.f64) (fun e => F64_j1 R (e 3)))) (fun n e => F64_l1 R n (e 3) (e 6) (e 7) (e 8)) _ (by kernel_rfl) (F64_l1_ok R) (by kernel_rfl)))
def F64_j2 (R : ER) (x0 x3 : Value) : WP :=
  pv (lenS x0) fun v6 =>
  F64_j3 R x3 x0 v6 (.int .i64 0)
theorem F64_j2_ok (R : ER) (e : Env) : den Pg R (cd Try.f64 [1,1,0]) e (setN (kont Pg R Try.f64) (fun e => F64_j1 R (e 3))) = (F64_j2 R (e 0) (e 3)) := (den_join Pg R 0 (cd Try.f64 [1,1,0]) (cd Try.f64 [1,1,0,1]) e (setN (kont Pg R Try.f64) (fun e => F64_j1 R (e 3))) (fun e => F64_j3 R (e 3) (e 6) (e 7) (e 8)) _ (by kernel_rfl) (fun e => F64_j3_ok R e) (by kernel_rfl))
def F64 (R : ER) (x0 : Value) : WP :=
  F64_j2 R x0 (.int .i64 0)
theorem F64_den (R : ER) (x0 : Value) : den Pg R (cd Try.f64 []) (argsEnv [x0]) (kont Pg R Try.f64) = F64 R x0 :=
  have h : ∀ e, den Pg R (cd Try.f64 []) e (kont Pg R Try.f64) = F64 R (e 0) := fun e => (den_join Pg R 2 (cd Try.f64 []) (cd Try.f64 [1,1,1]) e (kont Pg R Try.f64) (fun e => F64_j1 R (e 3)) _ (by kernel_rfl) (fun e => F64_j1_ok R e) (den_join Pg R 1 (pre 2 (cd Try.f64 [])) (cd Try.f64 [1,1,0]) e (setN (kont Pg R Try.f64) (fun e => F64_j1 R (e 3))) (fun e => F64_j2 R (e 0) (e 3)) _ (by kernel_rfl) (fun e => F64_j2_ok R e) (by kernel_rfl)))
  h _
theorem F64_calls {R : ER} {x0 : Value} {w : World} (h : F64 R x0 w) : Calls Pg 64 ⟨[x0]⟩ w R :=
  calls_of_den Try.func64 (by kernel_rfl) (by kernel_rfl) (F64_den R x0) h
/-! ### 65: cmp_Compare_65 -/
def F65_j1 (R : ER) (x0 x1 x6 : Value) : WP :=
  cnd x6 (
   R (.returned (.int .i64 1))) (
   pv (bin .lss x0 x1) fun v1 =>
  cnd v1 (
   R (.returned (.int .i64 (-1)))) (
   pv (bin .gtr x0 x1) fun v2 =>
  cnd v2 (
   R (.returned (.int .i64 1))) (
   R (.returned (.int .i64 0)))))
theorem F65_j1_ok (R : ER) (e : Env) : den Pg R (cd Try.f65 [1,1,1,1]) e (kont Pg R Try.f65) = (F65_j1 R (e 0) (e 1) (e 6)) := by kernel_rfl
def F65 (R : ER) (x0 x1 : Value) : WP :=
  cal Pg R 84 ⟨[x0]⟩ fun v3 =>
  cal Pg R 84 ⟨[x1]⟩ fun v4 =>
  cnd v3 (
   cnd v4 (
    R (.returned (.int .i64 0))) (
    R (.returned (.int .i64 (-1))))) (
   F65_j1 R x0 x1 v4)
theorem F65_den (R : ER) (x0 x1 : Value) : den Pg R (cd Try.f65 []) (argsEnv [x0, x1]) (kont Pg R Try.f65) = F65 R x0 x1 :=
  have h : ∀ e, den Pg R (cd Try.f65 []) e (kont Pg R Try.f65) = F65 R (e 0) (e 1) := fun e => (den_join Pg R 3 (cd Try.f65 []) (cd Try.f65 [1,1,1,1]) e (kont Pg R Try.f65) (fun e => F65_j1 R (e 0) (e 1) (e 6)) _ (by kernel_rfl) (fun e => F65_j1_ok R e) (by kernel_rfl))
  h _
theorem F65_calls {R : ER} {x0 x1 : Value} {w : World} (h : F65 R x0 x1 w) : Calls Pg 65 ⟨[x0, x1]⟩ w R :=
  calls_of_den Try.func65 (by kernel_rfl) (by kernel_rfl) (F65_den R x0 x1) h
/-! ### 66: slices_Index -/
def F66_j1 (R : ER) : WP :=
  R (.returned (.int .i64 (-1)))
theorem F66_j1_ok (R : ER) (e : Env) : den Pg R (cd Try.f66 [1,1]) e (kont Pg R Try.f66) = (F66_j1 R) := by kernel_rfl
def F66_j4 (R : ER) (k1 : V4) (x0 x1 x7 x8 : Value) : WP :=
  pv (ixS 1 x0 x8) fun v1 =>
  ld1 v1 fun v2 =>
  pv (bin .eql x1 v2) fun v3 =>
  cnd v3 (
   R (.returned x8)) (
   pv (bin .add x8 (.int .i64 1)) fun v4 =>
  k1 x0 x1 x7 v4)
theorem F66_j4_ok (R : ER) (k1 : V4) (e : Env) : den Pg R (cd Try.f66 [1,0,1,0,0,1,1]) e (setN (inB 0 (setN (kont Pg R Try.f66) (fun e => F66_j1 R))) (fun e => k1 (e 0) (e 1) (e 7) (e 8))) = (F66_j4 R k1 (e 0) (e 1) (e 7) (e 8)) := by kernel_rfl
def F66_b1 (R : ER) (k1 : V4) (x0 x1 x7 x8 : Value) : WP :=
  pv (bin .lss x8 x7) fun v5 =>
  cnd v5 (
   F66_j4 R k1 x0 x1 x7 x8) (
   F66_j1 R)
theorem F66_b1_ok (R : ER) (k1 : V4) (e : Env) : den Pg R (cd Try.f66 [1,0,1,0,0]) e (setN (inB 0 (setN (kont Pg R Try.f66) (fun e => F66_j1 R))) (fun e => k1 (e 0) (e 1) (e 7) (e 8))) = (F66_b1 R k1 (e 0) (e 1) (e 7) (e 8)) := (den_join Pg R 1 (cd Try.f66 [1,0,1,0,0]) (cd Try.f66 [1,0,1,0,0,1,1]) e (setN (inB 0 (setN (kont Pg R Try.f66) (fun e => F66_j1 R))) (fun e => k1 (e 0) (e 1) (e 7) (e 8))) (fun e => F66_j4 R k1 (e 0) (e 1) (e 7) (e 8)) _ (by kernel_rfl) (fun e => F66_j4_ok R k1 e) (by kernel_rfl))
noncomputable def F66_l1 (R : ER) (n : Nat) : V4 := Nat.rec (motive := fun _ => V4) (fun _ _ _ _ => fun _ => False) (fun _ ih => fun x0 x1 x7 x8 => F66_b1 R ih x0 x1 x7 x8) n
theorem F66_l1_succ (R : ER) (n : Nat) (x0 x1 x7 x8 : Value) : F66_l1 R (n + 1) x0 x1 x7 x8 = F66_b1 R (F66_l1 R n) x0 x1 x7 x8 := rfl
theorem F66_l1_ok (R : ER) : ∀ (n : Nat) (e : Env), iterL (den Pg R (cd Try.f66 [1,0,1,0,0])) n e (inB 0 (setN (kont Pg R Try.f66) (fun e => F66_j1 R))) = F66_l1 R n (e 0) (e 1) (e 7) (e 8) :=
  iterL_join (den Pg R (cd Try.f66 [1,0,1,0,0])) (inB 0 (setN (kont Pg R Try.f66) (fun e => F66_j1 R))) (fun n e => F66_l1 R n (e 0) (e 1) (e 7) (e 8)) (fun _ => rfl) (fun n e => (F66_b1_ok R (F66_l1 R n) e).trans (F66_l1_succ R n (e 0) (e 1) (e 7) (e 8)).symm)
def F66_j3 (R : ER) (x0 x1 x7 x8 : Value) : WP :=
  exN fun n => F66_l1 R n x0 x1 x7 x8
theorem F66_j3_ok (R : ER) (e : Env) : den Pg R (cd Try.f66 [1,0,1]) e (setN (kont Pg R Try.f66) (fun e => F66_j1 R)) = (F66_j3 R (e 0) (e 1) (e 7) (e 8)) := (den_block Pg R (cd Try.f66 [1,0,1]) 0 (cd Try.f66 [1,0,1,0]) e (setN (kont Pg R Try.f66) (fun e => F66_j1 R)) _ (by kernel_rfl) (den_loop Pg R (cd Try.f66 [1,0,1,0]) (cd Try.f66 [1,0,1,0,0]) e (inB 0 (setN (kont Pg R Try.f66) (fun e => F66_j1 R))) (fun n e => F66_l1 R n (e 0) (e 1) (e 7) (e 8)) _ (by kernel_rfl) (F66_l1_ok R) (by kernel_rfl)))
def F66_j2 (R : ER) (x0 x1 : Value) : WP :=
  pv (lenS x0) fun v6 =>
  F66_j3 R x0 x1 v6 (.int .i64 0)
theorem F66_j2_ok (R : ER) (e : Env) : den Pg R (cd Try.f66 [1,0]) e (setN (kont Pg R Try.f66) (fun e => F66_j1 R)) = (F66_j2 R (e 0) (e 1)) := (den_join Pg R 0 (cd Try.f66 [1,0]) (cd Try.f66 [1,0,1]) e (setN (kont Pg R Try.f66) (fun e => F66_j1 R)) (fun e => F66_j3 R (e 0) (e 1) (e 7) (e 8)) _ (by kernel_rfl) (fun e => F66_j3_ok R e) (by kernel_rfl))
def F66 (R : ER) (x0 x1 : Value) : WP :=
  F66_j2 R x0 x1
theorem F66_den (R : ER) (x0 x1 : Value) : den Pg R (cd Try.f66 []) (argsEnv [x0, x1]) (kont Pg R Try.f66) = F66 R x0 x1 :=
  have h : ∀ e, den Pg R (cd Try.f66 []) e (kont Pg R Try.f66) = F66 R (e 0) (e 1) := fun e => (den_join Pg R 1 (cd Try.f66 []) (cd Try.f66 [1,1]) e (kont Pg R Try.f66) (fun e => F66_j1 R) _ (by kernel_rfl) (fun e => F66_j1_ok R e) (den_join Pg R 0 (pre 1 (cd Try.f66 [])) (cd Try.f66 [1,0]) e (setN (kont Pg R Try.f66) (fun e => F66_j1 R)) (fun e => F66_j2 R (e 0) (e 1)) _ (by kernel_rfl) (fun e => F66_j2_ok R e) (by kernel_rfl)))
  h _
theorem F66_calls {R : ER} {x0 x1 : Value} {w : World} (h : F66 R x0 x1 w) : Calls Pg 66 ⟨[x0, x1]⟩ w R :=
  calls_of_den Try.func66 (by kernel_rfl) (by kernel_rfl) (F66_den R x0 x1) h
/-! ### 67: slices_Delete_67 -/
def F67_j1 (R : ER) (x0 x1 x2 : Value) : WP :=
  pv (lenS x0) fun v1 =>
  drewV (
  pv (slS 2 x0 none (some x1)) fun v2 =>
  pv (slS 2 x0 (some x2) none) fun v3 =>
  mem fun w5 => blt Pg noR .append ⟨[71,71]⟩ 71 ⟨[false, false]⟩ ⟨[v2, v3]⟩ fun v4 =>
  pv (lenS v4) fun v6 =>
  pv (slS 2 v4 (some v6) (some v1)) fun v7 =>
  blt Pg R .clear ⟨[71]⟩ 0 ⟨[false]⟩ ⟨[v7]⟩ fun _ =>
  R (.returned v4))
theorem F67_j1_ok (R : ER) (e : Env) : den Pg R (cd Try.f67 [1,1,1]) e (kont Pg R Try.f67) = (F67_j1 R (e 0) (e 1) (e 2)) := by kernel_rfl
def F67 (R : ER) (x0 x1 x2 : Value) : WP :=
  pv (lenS x0) fun v8 =>
  valV Pg R (Instr.sliceAt 71 x0 (some x1) (some x2) (some v8)) fun v9 =>
  pv (bin .eql x1 x2) fun v10 =>
  cnd v10 (
   R (.returned x0)) (
   F67_j1 R x0 x1 x2)
theorem F67_den (R : ER) (x0 x1 x2 : Value) : den Pg R (cd Try.f67 []) (argsEnv [x0, x1, x2]) (kont Pg R Try.f67) = F67 R x0 x1 x2 :=
  have h : ∀ e, den Pg R (cd Try.f67 []) e (kont Pg R Try.f67) = F67 R (e 0) (e 1) (e 2) := fun e => (den_join Pg R 2 (cd Try.f67 []) (cd Try.f67 [1,1,1]) e (kont Pg R Try.f67) (fun e => F67_j1 R (e 0) (e 1) (e 2)) _ (by kernel_rfl) (fun e => F67_j1_ok R e) (by kernel_rfl))
  h _
theorem F67_calls {R : ER} {x0 x1 x2 : Value} {w : World} (h : F67 R x0 x1 x2 w) : Calls Pg 67 ⟨[x0, x1, x2]⟩ w R :=
  calls_of_den Try.func67 (by kernel_rfl) (by kernel_rfl) (F67_den R x0 x1 x2) h
/-! ### 68: heap_up -/
def F68_b1 (R : ER) (k1 : V2) (x0 x1 : Value) : WP :=
  pv (bin .sub x1 (.int .i64 1)) fun v1 =>
  pv (bin .quo v1 (.int .i64 2)) fun v2 =>
  pv (bin .eql v2 x1) fun v3 =>
  gd v3 false (pv (some x0)) fun v4 =>
  gd v3 false (pv (some x1)) fun v5 =>
  gd v3 false (pv (some v2)) fun v6 =>
  gd v3 false (ivk Pg R v4 "Less" ⟨[v5, v6]⟩) fun v7 =>
  gd v3 false (pv (unO .not v7)) fun v8 =>
  pv (pickO v3 (.bool true) v8) fun v9 =>
  cnd v9 (
   R (.returned (.tuple ⟨[]⟩))) (
   ivk Pg R x0 "Swap" ⟨[v2, x1]⟩ fun v10 =>
  k1 x0 v2)
theorem F68_b1_ok (R : ER) (k1 : V2) (e : Env) : den Pg R (cd Try.f68 [0,0]) e (setN (inB 0 (kont Pg R Try.f68)) (fun e => k1 (e 0) (e 1))) = (F68_b1 R k1 (e 0) (e 1)) := (den_block Pg R (cd Try.f68 [0,0]) 1 (cd Try.f68 [0,0,0]) e (setN (inB 0 (kont Pg R Try.f68)) (fun e => k1 (e 0) (e 1))) _ (by kernel_rfl) (by kernel_rfl))
noncomputable def F68_l1 (R : ER) (n : Nat) : V2 := Nat.rec (motive := fun _ => V2) (fun _ _ => fun _ => False) (fun _ ih => fun x0 x1 => F68_b1 R ih x0 x1) n
theorem F68_l1_succ (R : ER) (n : Nat) (x0 x1 : Value) : F68_l1 R (n + 1) x0 x1 = F68_b1 R (F68_l1 R n) x0 x1 := rfl
theorem F68_l1_ok (R : ER) : ∀ (n : Nat) (e : Env), iterL (den Pg R (cd Try.f68 [0,0])) n e (inB 0 (kont Pg R Try.f68)) = F68_l1 R n (e 0) (e 1) :=
  iterL_join (den Pg R (cd Try.f68 [0,0])) (inB 0 (kont Pg R Try.f68)) (fun n e => F68_l1 R n (e 0) (e 1)) (fun _ => rfl) (fun n e => (F68_b1_ok R (F68_l1 R n) e).trans (F68_l1_succ R n (e 0) (e 1)).symm)
def F68 (R : ER) (x0 x1 : Value) : WP :=
  exN fun n => F68_l1 R n x0 x1
theorem F68_den (R : ER) (x0 x1 : Value) : den Pg R (cd Try.f68 []) (argsEnv [x0, x1]) (kont Pg R Try.f68) = F68 R x0 x1 :=
  have h : ∀ e, den Pg R (cd Try.f68 []) e (kont Pg R Try.f68) = F68 R (e 0) (e 1) := fun e => (den_block Pg R (cd Try.f68 []) 0 (cd Try.f68 [0]) e (kont Pg R Try.f68) _ (by kernel_rfl) (den_loop Pg R (cd Try.f68 [0]) (cd Try.f68 [0,0]) e (inB 0 (kont Pg R Try.f68)) (fun n e => F68_l1 R n (e 0) (e 1)) _ (by kernel_rfl) (F68_l1_ok R) (by kernel_rfl)))
  h _
theorem F68_calls {R : ER} {x0 x1 : Value} {w : World} (h : F68 R x0 x1 w) : Calls Pg 68 ⟨[x0, x1]⟩ w R :=
  calls_of_den Try.func68 (by kernel_rfl) (by kernel_rfl) (F68_den R x0 x1) h
/-! ### 69: slices_rotateCmpFunc -/
def F69_j1 (R : ER) (x0 x2 x4 x10 : Value) : WP :=
  pv (bin .sub x2 x10) fun v1 =>
  cal Pg R 85 ⟨[x0, v1, x2, x10, x4]⟩ fun v2 =>
  R (.returned (.tuple ⟨[]⟩))
theorem F69_j1_ok (R : ER) (e : Env) : den Pg R (cd Try.f69 [1,1,1]) e (kont Pg R Try.f69) = (F69_j1 R (e 0) (e 2) (e 4) (e 10)) := by kernel_rfl
def F69_j5 (R : ER) (k1 : V5) (x0 x2 x4 x10 x11 : Value) : WP :=
  pv (bin .sub x2 x10) fun v3 =>
  cal Pg R 85 ⟨[x0, v3, x2, x11, x4]⟩ fun v4 =>
  pv (bin .sub x10 x11) fun v5 =>
  k1 x0 x2 x4 v5 x11
theorem F69_j5_ok (R : ER) (k1 : V5) (e : Env) : den Pg R (cd Try.f69 [1,1,0,0,0,1,0,1,0]) e (inB 1 (setN (inB 0 (setN (kont Pg R Try.f69) (fun e => F69_j1 R (e 0) (e 2) (e 4) (e 10)))) (fun e => k1 (e 0) (e 2) (e 4) (e 10) (e 11)))) = (F69_j5 R k1 (e 0) (e 2) (e 4) (e 10) (e 11)) := by kernel_rfl
def F69_j6 (R : ER) (k1 : V5) (x0 x2 x4 x10 x11 : Value) : WP :=
  pv (bin .sub x2 x10) fun v6 =>
  pv (bin .add x2 x11) fun v7 =>
  pv (bin .sub v7 x10) fun v8 =>
  cal Pg R 85 ⟨[x0, v6, v8, x10, x4]⟩ fun v9 =>
  pv (bin .sub x11 x10) fun v10 =>
  k1 x0 x2 x4 x10 v10
theorem F69_j6_ok (R : ER) (k1 : V5) (e : Env) : den Pg R (cd Try.f69 [1,1,0,0,0,1,0,1,1]) e (inB 1 (setN (inB 0 (setN (kont Pg R Try.f69) (fun e => F69_j1 R (e 0) (e 2) (e 4) (e 10)))) (fun e => k1 (e 0) (e 2) (e 4) (e 10) (e 11)))) = (F69_j6 R k1 (e 0) (e 2) (e 4) (e 10) (e 11)) := by kernel_rfl
def F69_j4 (R : ER) (k1 : V5) (x0 x2 x4 x10 x11 x23 : Value) : WP :=
  cnd x23 (F69_j5 R k1 x0 x2 x4 x10 x11) (F69_j6 R k1 x0 x2 x4 x10 x11)
theorem F69_j4_ok (R : ER) (k1 : V5) (e : Env) : den Pg R (cd Try.f69 [1,1,0,0,0,1,0,1]) e (inB 1 (setN (inB 0 (setN (kont Pg R Try.f69) (fun e => F69_j1 R (e 0) (e 2) (e 4) (e 10)))) (fun e => k1 (e 0) (e 2) (e 4) (e 10) (e 11)))) = (F69_j4 R k1 (e 0) (e 2) (e 4) (e 10) (e 11) (e 23)) := (den_if Pg R (cd Try.f69 [1,1,0,0,0,1,0,1]) (cd Try.f69 [1,1,0,0,0,1,0,1,0]) (cd Try.f69 [1,1,0,0,0,1,0,1,1]) e (inB 1 (setN (inB 0 (setN (kont Pg R Try.f69) (fun e => F69_j1 R (e 0) (e 2) (e 4) (e 10)))) (fun e => k1 (e 0) (e 2) (e 4) (e 10) (e 11)))) (F69_j5 R k1 (e 0) (e 2) (e 4) (e 10) (e 11)) (F69_j6 R k1 (e 0) (e 2) (e 4) (e 10) (e 11)) _ (by kernel_rfl) (F69_j5_ok R k1 e) (F69_j6_ok R k1 e) (by kernel_rfl))
def F69_j3 (R : ER) (k1 : V5) (x0 x2 x4 x10 x11 : Value) : WP :=
  pv (bin .gtr x10 x11) fun v11 =>
  F69_j4 R k1 x0 x2 x4 x10 x11 v11
theorem F69_j3_ok (R : ER) (k1 : V5) (e : Env) : den Pg R (cd Try.f69 [1,1,0,0,0,1]) e (setN (inB 0 (setN (kont Pg R Try.f69) (fun e => F69_j1 R (e 0) (e 2) (e 4) (e 10)))) (fun e => k1 (e 0) (e 2) (e 4) (e 10) (e 11))) = (F69_j3 R k1 (e 0) (e 2) (e 4) (e 10) (e 11)) := (den_block Pg R (cd Try.f69 [1,1,0,0,0,1]) 1 (cd Try.f69 [1,1,0,0,0,1,0]) e (setN (inB 0 (setN (kont Pg R Try.f69) (fun e => F69_j1 R (e 0) (e 2) (e 4) (e 10)))) (fun e => k1 (e 0) (e 2) (e 4) (e 10) (e 11))) _ (by kernel_rfl) (den_join Pg R 0 (cd Try.f69 [1,1,0,0,0,1,0]) (cd Try.f69 [1,1,0,0,0,1,0,1]) e (inB 1 (setN (inB 0 (setN (kont Pg R Try.f69) (fun e => F69_j1 R (e 0) (e 2) (e 4) (e 10)))) (fun e => k1 (e 0) (e 2) (e 4) (e 10) (e 11)))) (fun e => F69_j4 R k1 (e 0) (e 2) (e 4) (e 10) (e 11) (e 23)) _ (by kernel_rfl) (fun e => F69_j4_ok R k1 e) (by kernel_rfl)))
def F69_b1 (R : ER) (k1 : V5) (x0 x2 x4 x10 x11 : Value) : WP :=
  pv (bin .neq x10 x11) fun v12 =>
  cnd v12 (
   F69_j3 R k1 x0 x2 x4 x10 x11) (
   F69_j1 R x0 x2 x4 x10)
theorem F69_b1_ok (R : ER) (k1 : V5) (e : Env) : den Pg R (cd Try.f69 [1,1,0,0,0]) e (setN (inB 0 (setN (kont Pg R Try.f69) (fun e => F69_j1 R (e 0) (e 2) (e 4) (e 10)))) (fun e => k1 (e 0) (e 2) (e 4) (e 10) (e 11))) = (F69_b1 R k1 (e 0) (e 2) (e 4) (e 10) (e 11)) := (den_join Pg R 0 (cd Try.f69 [1,1,0,0,0]) (cd Try.f69 [1,1,0,0,0,1]) e (setN (inB 0 (setN (kont Pg R Try.f69) (fun e => F69_j1 R (e 0) (e 2) (e 4) (e 10)))) (fun e => k1 (e 0) (e 2) (e 4) (e 10) (e 11))) (fun e => F69_j3 R k1 (e 0) (e 2) (e 4) (e 10) (e 11)) _ (by kernel_rfl) (fun e => F69_j3_ok R k1 e) (by kernel_rfl))
noncomputable def F69_l1 (R : ER) (n : Nat) : V5 := Nat.rec (motive := fun _ => V5) (fun _ _ _ _ _ => fun _ => False) (fun _ ih => fun x0 x2 x4 x10 x11 => F69_b1 R ih x0 x2 x4 x10 x11) n
theorem F69_l1_succ (R : ER) (n : Nat) (x0 x2 x4 x10 x11 : Value) : F69_l1 R (n + 1) x0 x2 x4 x10 x11 = F69_b1 R (F69_l1 R n) x0 x2 x4 x10 x11 := rfl
theorem F69_l1_ok (R : ER) : ∀ (n : Nat) (e : Env), iterL (den Pg R (cd Try.f69 [1,1,0,0,0])) n e (inB 0 (setN (kont Pg R Try.f69) (fun e => F69_j1 R (e 0) (e 2) (e 4) (e 10)))) = F69_l1 R n (e 0) (e 2) (e 4) (e 10) (e 11) :=
  iterL_join (den Pg R (cd Try.f69 [1,1,0,0,0])) (inB 0 (setN (kont Pg R Try.f69) (fun e => F69_j1 R (e 0) (e 2) (e 4) (e 10)))) (fun n e => F69_l1 R n (e 0) (e 2) (e 4) (e 10) (e 11)) (fun _ => rfl) (fun n e => (F69_b1_ok R (F69_l1 R n) e).trans (F69_l1_succ R n (e 0) (e 2) (e 4) (e 10) (e 11)).symm)
def F69_j2 (R : ER) (x0 x2 x4 x10 x11 : Value) : WP :=
  exN fun n => F69_l1 R n x0 x2 x4 x10 x11
theorem F69_j2_ok (R : ER) (e : Env) : den Pg R (cd Try.f69 [1,1,0]) e (setN (kont Pg R Try.f69) (fun e => F69_j1 R (e 0) (e 2) (e 4) (e 10))) = (F69_j2 R (e 0) (e 2) (e 4) (e 10) (e 11)) := (den_block Pg R (cd Try.f69 [1,1,0]) 0 (cd Try.f69 [1,1,0,0]) e (setN (kont Pg R Try.f69) (fun e => F69_j1 R (e 0) (e 2) (e 4) (e 10))) _ (by kernel_rfl) (den_loop Pg R (cd Try.f69 [1,1,0,0]) (cd Try.f69 [1,1,0,0,0]) e (inB 0 (setN (kont Pg R Try.f69) (fun e => F69_j1 R (e 0) (e 2) (e 4) (e 10)))) (fun n e => F69_l1 R n (e 0) (e 2) (e 4) (e 10) (e 11)) _ (by kernel_rfl) (F69_l1_ok R) (by kernel_rfl)))
def F69 (R : ER) (x0 x1 x2 x3 x4 : Value) : WP :=
  pv (bin .sub x2 x1) fun v13 =>
  pv (bin .sub x3 x2) fun v14 =>
  F69_j2 R x0 x2 x4 v13 v14
theorem F69_den (R : ER) (x0 x1 x2 x3 x4 : Value) : den Pg R (cd Try.f69 []) (argsEnv [x0, x1, x2, x3, x4]) (kont Pg R Try.f69) = F69 R x0 x1 x2 x3 x4 :=
  have h : ∀ e, den Pg R (cd Try.f69 []) e (kont Pg R Try.f69) = F69 R (e 0) (e 1) (e 2) (e 3) (e 4) := fun e => (den_join Pg R 2 (cd Try.f69 []) (cd Try.f69 [1,1,1]) e (kont Pg R Try.f69) (fun e => F69_j1 R (e 0) (e 2) (e 4) (e 10)) _ (by kernel_rfl) (fun e => F69_j1_ok R e) (den_join Pg R 1 (pre 2 (cd Try.f69 [])) (cd Try.f69 [1,1,0]) e (setN (kont Pg R Try.f69) (fun e => F69_j1 R (e 0) (e 2) (e 4) (e 10))) (fun e => F69_j2 R (e 0) (e 2) (e 4) (e 10) (e 11)) _ (by kernel_rfl) (fun e => F69_j2_ok R e) (by kernel_rfl)))
  h _
theorem F69_calls {R : ER} {x0 x1 x2 x3 x4 : Value} {w : World} (h : F69 R x0 x1 x2 x3 x4 w) : Calls Pg 69 ⟨[x0, x1, x2, x3, x4]⟩ w R :=
  calls_of_den Try.func69 (by kernel_rfl) (by kernel_rfl) (F69_den R x0 x1 x2 x3 x4) h
/-! ### 70: slices_IndexFunc_70 -/
def F70_j1 (R : ER) : WP :=
  R (.returned (.int .i64 (-1)))
theorem F70_j1_ok (R : ER) (e : Env) : den Pg R (cd Try.f70 [1,1]) e (kont Pg R Try.f70) = (F70_j1 R) := by kernel_rfl
def F70_j4 (R : ER) (k1 : V4) (x0 x1 x7 x8 : Value) : WP :=
  pv (ixS 4 x0 x8) fun v1 =>
  ldN 4 v1 fun v2 =>
  calD Pg R x1 ⟨[v2]⟩ fun v3 =>
  cnd v3 (
   R (.returned x8)) (
   pv (bin .add x8 (.int .i64 1)) fun v4 =>
  k1 x0 x1 x7 v4)
theorem F70_j4_ok (R : ER) (k1 : V4) (e : Env) : den Pg R (cd Try.f70 [1,0,1,0,0,1,1]) e (setN (inB 0 (setN (kont Pg R Try.f70) (fun e => F70_j1 R))) (fun e => k1 (e 0) (e 1) (e 7) (e 8))) = (F70_j4 R k1 (e 0) (e 1) (e 7) (e 8)) := by kernel_rfl
def F70_b1 (R : ER) (k1 : V4) (x0 x1 x7 x8 : Value) : WP :=
  pv (bin .lss x8 x7) fun v5 =>
  cnd v5 (
   F70_j4 R k1 x0 x1 x7 x8) (
   F70_j1 R)
theorem F70_b1_ok (R : ER) (k1 : V4) (e : Env) : den Pg R (cd Try.f70 [1,0,1,0,0]) e (setN (inB 0 (setN (kont Pg R Try.f70) (fun e => F70_j1 R))) (fun e => k1 (e 0) (e 1) (e 7) (e 8))) = (F70_b1 R k1 (e 0) (e 1) (e 7) (e 8)) := (den_join Pg R 1 (cd Try.f70 [1,0,1,0,0]) (cd Try.f70 [1,0,1,0,0,1,1]) e (setN (inB 0 (setN (kont Pg R Try.f70) (fun e => F70_j1 R))) (fun e => k1 (e 0) (e 1) (e 7) (e 8))) (fun e => F70_j4 R k1 (e 0) (e 1) (e 7) (e 8)) _ (by kernel_rfl) (fun e => F70_j4_ok R k1 e) (by kernel_rfl))
noncomputable def F70_l1 (R : ER) (n : Nat) : V4 := Nat.rec (motive := fun _ => V4) (fun _ _ _ _ => fun _ => False) (fun _ ih => fun x0 x1 x7 x8 => F70_b1 R ih x0 x1 x7 x8) n
theorem F70_l1_succ (R : ER) (n : Nat) (x0 x1 x7 x8 : Value) : F70_l1 R (n + 1) x0 x1 x7 x8 = F70_b1 R (F70_l1 R n) x0 x1 x7 x8 := rfl
theorem F70_l1_ok (R : ER) : ∀ (n : Nat) (e : Env), iterL (den Pg R (cd Try.f70 [1,0,1,0,0])) n e (inB 0 (setN (kont Pg R Try.f70) (fun e => F70_j1 R))) = F70_l1 R n (e 0) (e 1) (e 7) (e 8) :=
  iterL_join (den Pg R (cd Try.f70 [1,0,1,0,0])) (inB 0 (setN (kont Pg R Try.f70) (fun e => F70_j1 R))) (fun n e => F70_l1 R n (e 0) (e 1) (e 7) (e 8)) (fun _ => rfl) (fun n e => (F70_b1_ok R (F70_l1 R n) e).trans (F70_l1_succ R n (e 0) (e 1) (e 7) (e 8)).symm)
def F70_j3 (R : ER) (x0 x1 x7 x8 : Value) : WP :=
  exN fun n => F70_l1 R n x0 x1 x7 x8
theorem F70_j3_ok (R : ER) (e : Env) : den Pg R (cd Try.f70 [1,0,1]) e (setN (kont Pg R Try.f70) (fun e => F70_j1 R)) = (F70_j3 R (e 0) (e 1) (e 7) (e 8)) := (den_block Pg R (cd Try.f70 [1,0,1]) 0 (cd Try.f70 [1,0,1,0]) e (setN (kont Pg R Try.f70) (fun e => F70_j1 R)) _ (by kernel_rfl) (den_loop Pg R (cd Try.f70 [1,0,1,0]) (cd Try.f70 [1,0,1,0,0]) e (inB 0 (setN (kont Pg R Try.f70) (fun e => F70_j1 R))) (fun n e => F70_l1 R n (e 0) (e 1) (e 7) (e 8)) _ (by kernel_rfl) (F70_l1_ok R) (by kernel_rfl)))
def F70_j2 (R : ER) (x0 x1 : Value) : WP :=
  pv (lenS x0) fun v6 =>
  F70_j3 R x0 x1 v6 (.int .i64 0)
theorem F70_j2_ok (R : ER) (e : Env) : den Pg R (cd Try.f70 [1,0]) e (setN (kont Pg R Try.f70) (fun e => F70_j1 R)) = (F70_j2 R (e 0) (e 1)) := (den_join Pg R 0 (cd Try.f70 [1,0]) (cd Try.f70 [1,0,1]) e (setN (kont Pg R Try.f70) (fun e => F70_j1 R)) (fun e => F70_j3 R (e 0) (e 1) (e 7) (e 8)) _ (by kernel_rfl) (fun e => F70_j3_ok R e) (by kernel_rfl))
def F70 (R : ER) (x0 x1 : Value) : WP :=
  F70_j2 R x0 x1
theorem F70_den (R : ER) (x0 x1 : Value) : den Pg R (cd Try.f70 []) (argsEnv [x0, x1]) (kont Pg R Try.f70) = F70 R x0 x1 :=
  have h : ∀ e, den Pg R (cd Try.f70 []) e (kont Pg R Try.f70) = F70 R (e 0) (e 1) := fun e => (den_join Pg R 1 (cd Try.f70 []) (cd Try.f70 [1,1]) e (kont Pg R Try.f70) (fun e => F70_j1 R) _ (by kernel_rfl) (fun e => F70_j1_ok R e) (den_join Pg R 0 (pre 1 (cd Try.f70 [])) (cd Try.f70 [1,0]) e (setN (kont Pg R Try.f70) (fun e => F70_j1 R)) (fun e => F70_j2 R (e 0) (e 1)) _ (by kernel_rfl) (fun e => F70_j2_ok R e) (by kernel_rfl)))
  h _
theorem F70_calls {R : ER} {x0 x1 : Value} {w : World} (h : F70 R x0 x1 w) : Calls Pg 70 ⟨[x0, x1]⟩ w R :=
  calls_of_den Try.func70 (by kernel_rfl) (by kernel_rfl) (F70_den R x0 x1) h
/-! ### 71: slices_IndexFunc_71 -/
def F71_j1 (R : ER) : WP :=
  R (.returned (.int .i64 (-1)))
theorem F71_j1_ok (R : ER) (e : Env) : den Pg R (cd Try.f71 [1,1]) e (kont Pg R Try.f71) = (F71_j1 R) := by kernel_rfl
def F71_j4 (R : ER) (k1 : V4) (x0 x1 x7 x8 : Value) : WP :=
  pv (ixS 2 x0 x8) fun v1 =>
  ldN 2 v1 fun v2 =>
  calD Pg R x1 ⟨[v2]⟩ fun v3 =>
  cnd v3 (
   R (.returned x8)) (
   pv (bin .add x8 (.int .i64 1)) fun v4 =>
  k1 x0 x1 x7 v4)
theorem F71_j4_ok (R : ER) (k1 : V4) (e : Env) : den Pg R (cd Try.f71 [1,0,1,0,0,1,1]) e (setN (inB 0 (setN (kont Pg R Try.f71) (fun e => F71_j1 R))) (fun e => k1 (e 0) (e 1) (e 7) (e 8))) = (F71_j4 R k1 (e 0) (e 1) (e 7) (e 8)) := by kernel_rfl
def F71_b1 (R : ER) (k1 : V4) (x0 x1 x7 x8 : Value) : WP :=
  pv (bin .lss x8 x7) fun v5 =>
  cnd v5 (
   F71_j4 R k1 x0 x1 x7 x8) (
   F71_j1 R)
theorem F71_b1_ok (R : ER) (k1 : V4) (e : Env) : den Pg R (cd Try.f71 [1,0,1,0,0]) e (setN (inB 0 (setN (kont Pg R Try.f71) (fun e => F71_j1 R))) (fun e => k1 (e 0) (e 1) (e 7) (e 8))) = (F71_b1 R k1 (e 0) (e 1) (e 7) (e 8)) := (den_join Pg R 1 (cd Try.f71 [1,0,1,0,0]) (cd Try.f71 [1,0,1,0,0,1,1]) e (setN (inB 0 (setN (kont Pg R Try.f71) (fun e => F71_j1 R))) (fun e => k1 (e 0) (e 1) (e 7) (e 8))) (fun e => F71_j4 R k1 (e 0) (e 1) (e 7) (e 8)) _ (by kernel_rfl) (fun e => F71_j4_ok R k1 e) (by kernel_rfl))
noncomputable def F71_l1 (R : ER) (n : Nat) : V4 := Nat.rec (motive := fun _ => V4) (fun _ _ _ _ => fun _ => False) (fun _ ih => fun x0 x1 x7 x8 => F71_b1 R ih x0 x1 x7 x8) n
theorem F71_l1_succ (R : ER) (n : Nat) (x0 x1 x7 x8 : Value) : F71_l1 R (n + 1) x0 x1 x7 x8 = F71_b1 R (F71_l1 R n) x0 x1 x7 x8 := rfl
theorem F71_l1_ok (R : ER) : ∀ (n : Nat) (e : Env), iterL (den Pg R (cd Try.f71 [1,0,1,0,0])) n e (inB 0 (setN (kont Pg R Try.f71) (fun e => F71_j1 R))) = F71_l1 R n (e 0) (e 1) (e 7) (e 8) :=
  iterL_join (den Pg R (cd Try.f71 [1,0,1,0,0])) (inB 0 (setN (kont Pg R Try.f71) (fun e => F71_j1 R))) (fun n e => F71_l1 R n (e 0) (e 1) (e 7) (e 8)) (fun _ => rfl) (fun n e => (F71_b1_ok R (F71_l1 R n) e).trans (F71_l1_succ R n (e 0) (e 1) (e 7) (e 8)).symm)
def F71_j3 (R : ER) (x0 x1 x7 x8 : Value) : WP :=
  exN fun n => F71_l1 R n x0 x1 x7 x8
theorem F71_j3_ok (R : ER) (e : Env) : den Pg R (cd Try.f71 [1,0,1]) e (setN (kont Pg R Try.f71) (fun e => F71_j1 R)) = (F71_j3 R (e 0) (e 1) (e 7) (e 8)) := (den_block Pg R (cd Try.f71 [1,0,1]) 0 (cd Try.f71 [1,0,1,0]) e (setN (kont Pg R Try.f71) (fun e => F71_j1 R)) _ (by kernel_rfl) (den_loop Pg R (cd Try.f71 [1,0,1,0]) (cd Try.f71 [1,0,1,0,0]) e (inB 0 (setN (kont Pg R Try.f71) (fun e => F71_j1 R))) (fun n e => F71_l1 R n (e 0) (e 1) (e 7) (e 8)) _ (by kernel_rfl) (F71_l1_ok R) (by kernel_rfl)))
def F71_j2 (R : ER) (x0 x1 : Value) : WP :=
  pv (lenS x0) fun v6 =>
  F71_j3 R x0 x1 v6 (.int .i64 0)
theorem F71_j2_ok (R : ER) (e : Env) : den Pg R (cd Try.f71 [1,0]) e (setN (kont Pg R Try.f71) (fun e => F71_j1 R)) = (F71_j2 R (e 0) (e 1)) := (den_join Pg R 0 (cd Try.f71 [1,0]) (cd Try.f71 [1,0,1]) e (setN (kont Pg R Try.f71) (fun e => F71_j1 R)) (fun e => F71_j3 R (e 0) (e 1) (e 7) (e 8)) _ (by kernel_rfl) (fun e => F71_j3_ok R e) (by kernel_rfl))
def F71 (R : ER) (x0 x1 : Value) : WP :=
  F71_j2 R x0 x1
theorem F71_den (R : ER) (x0 x1 : Value) : den Pg R (cd Try.f71 []) (argsEnv [x0, x1]) (kont Pg R Try.f71) = F71 R x0 x1 :=
  have h : ∀ e, den Pg R (cd Try.f71 []) e (kont Pg R Try.f71) = F71 R (e 0) (e 1) := fun e => (den_join Pg R 1 (cd Try.f71 []) (cd Try.f71 [1,1]) e (kont Pg R Try.f71) (fun e => F71_j1 R) _ (by kernel_rfl) (fun e => F71_j1_ok R e) (den_join Pg R 0 (pre 1 (cd Try.f71 [])) (cd Try.f71 [1,0]) e (setN (kont Pg R Try.f71) (fun e => F71_j1 R)) (fun e => F71_j2 R (e 0) (e 1)) _ (by kernel_rfl) (fun e => F71_j2_ok R e) (by kernel_rfl)))
  h _
theorem F71_calls {R : ER} {x0 x1 : Value} {w : World} (h : F71 R x0 x1 w) : Calls Pg 71 ⟨[x0, x1]⟩ w R :=
  calls_of_den Try.func71 (by kernel_rfl) (by kernel_rfl) (F71_den R x0 x1) h
/-! ### 72: slices_insertionSortCmpFunc_72 -/
def F72_j3 (R : ER) (k1 : V5) (x0 x1 x2 x3 x8 : Value) : WP :=
  pv (bin .add x8 (.int .i64 1)) fun v1 =>
  k1 x0 x1 x2 x3 v1
theorem F72_j3_ok (R : ER) (k1 : V5) (e : Env) : den Pg R (cd Try.f72 [1,0,0,1,1]) e (setN (inB 0 (kont Pg R Try.f72)) (fun e => k1 (e 0) (e 1) (e 2) (e 3) (e 8))) = (F72_j3 R k1 (e 0) (e 1) (e 2) (e 3) (e 8)) := by kernel_rfl
def F72_j6 (R : ER) (k1 : V5) (k2 : V6) (x0 x1 x2 x3 x8 x9 : Value) : WP :=
  drewV (
  pv (bin .sub x9 (.int .i64 1)) fun v2 =>
  pv (bin .sub x9 (.int .i64 1)) fun v3 =>
  pv (ixS 2 x0 v3) fun v4 =>
  ldN 2 v4 fun v5 =>
  pv (ixS 2 x0 x9) fun v6 =>
  ldN 2 v6 fun v7 =>
  pv (ixS 2 x0 x9) fun v8 =>
  mem fun w10 => stN 2 v8 v5 fun v9 =>
  pv (ixS 2 x0 v2) fun v11 =>
  mem fun w13 => stN 2 v11 v7 fun v12 =>
  pv (bin .sub x9 (.int .i64 1)) fun v14 =>
  k2 x0 x1 x2 x3 x8 v14)
theorem F72_j6_ok (R : ER) (k1 : V5) (k2 : V6) (e : Env) : den Pg R (cd Try.f72 [1,0,0,1,0,0,1,0,0,1]) e (setN (inB 2 (inB 1 (setN (setN (inB 0 (kont Pg R Try.f72)) (fun e => k1 (e 0) (e 1) (e 2) (e 3) (e 8))) (fun e => F72_j3 R k1 (e 0) (e 1) (e 2) (e 3) (e 8))))) (fun e => k2 (e 0) (e 1) (e 2) (e 3) (e 8) (e 9))) = (F72_j6 R k1 k2 (e 0) (e 1) (e 2) (e 3) (e 8) (e 9)) := by kernel_rfl
def F72_j7 (R : ER) (k1 : V5) (k2 : V6) (x0 x1 x2 x3 x8 x9 : Value) : WP :=
  drewV (
  pv (bin .gtr x9 x1) fun v15 =>
  gd v15 true (pv (some x3)) fun v16 =>
  gd v15 true (pv (some x0)) fun v17 =>
  gd v15 true (pv (some x9)) fun v18 =>
  gd v15 true (pv (ixS 2 v17 v18)) fun v19 =>
  gd v15 true (ldN 2 v19) fun v20 =>
  gd v15 true (pv (some x0)) fun v21 =>
  gd v15 true (pv (some x9)) fun v22 =>
  gd v15 true (pv (bin .sub v22 (.int .i64 1))) fun v23 =>
  gd v15 true (pv (ixS 2 v21 v23)) fun v24 =>
  gd v15 true (ldN 2 v24) fun v25 =>
  mem fun w27 => gd v15 true (calD Pg noR v16 ⟨[v20, v25]⟩) fun v26 =>
  gd v15 true (pv (bin .lss v26 (.int .i64 0))) fun v28 =>
  pv (pickO v15 v28 (.bool false)) fun v29 =>
  cnd v29 (
   F72_j6 R k1 k2 x0 x1 x2 x3 x8 x9) (
   F72_j3 R k1 x0 x1 x2 x3 x8))
theorem F72_j7_ok (R : ER) (k1 : V5) (k2 : V6) (e : Env) : den Pg R (cd Try.f72 [1,0,0,1,0,0,1,0,0,0]) e (setN (setN (inB 2 (inB 1 (setN (setN (inB 0 (kont Pg R Try.f72)) (fun e => k1 (e 0) (e 1) (e 2) (e 3) (e 8))) (fun e => F72_j3 R k1 (e 0) (e 1) (e 2) (e 3) (e 8))))) (fun e => k2 (e 0) (e 1) (e 2) (e 3) (e 8) (e 9))) (fun e => F72_j6 R k1 k2 (e 0) (e 1) (e 2) (e 3) (e 8) (e 9))) = (F72_j7 R k1 k2 (e 0) (e 1) (e 2) (e 3) (e 8) (e 9)) := (by kernel_rfl)
def F72_b2 (R : ER) (k1 : V5) (k2 : V6) (x0 x1 x2 x3 x8 x9 : Value) : WP :=
  F72_j7 R k1 k2 x0 x1 x2 x3 x8 x9
theorem F72_b2_ok (R : ER) (k1 : V5) (k2 : V6) (e : Env) : den Pg R (cd Try.f72 [1,0,0,1,0,0,1,0,0]) e (setN (inB 2 (inB 1 (setN (setN (inB 0 (kont Pg R Try.f72)) (fun e => k1 (e 0) (e 1) (e 2) (e 3) (e 8))) (fun e => F72_j3 R k1 (e 0) (e 1) (e 2) (e 3) (e 8))))) (fun e => k2 (e 0) (e 1) (e 2) (e 3) (e 8) (e 9))) = (F72_b2 R k1 k2 (e 0) (e 1) (e 2) (e 3) (e 8) (e 9)) := (den_join Pg R 0 (cd Try.f72 [1,0,0,1,0,0,1,0,0]) (cd Try.f72 [1,0,0,1,0,0,1,0,0,1]) e (setN (inB 2 (inB 1 (setN (setN (inB 0 (kont Pg R Try.f72)) (fun e => k1 (e 0) (e 1) (e 2) (e 3) (e 8))) (fun e => F72_j3 R k1 (e 0) (e 1) (e 2) (e 3) (e 8))))) (fun e => k2 (e 0) (e 1) (e 2) (e 3) (e 8) (e 9))) (fun e => F72_j6 R k1 k2 (e 0) (e 1) (e 2) (e 3) (e 8) (e 9)) _ (by kernel_rfl) (fun e => F72_j6_ok R k1 k2 e) (den_conv Pg R (pre 0 (cd Try.f72 [1,0,0,1,0,0,1,0,0])) (cd Try.f72 [1,0,0,1,0,0,1,0,0,0]) e (setN (setN (inB 2 (inB 1 (setN (setN (inB 0 (kont Pg R Try.f72)) (fun e => k1 (e 0) (e 1) (e 2) (e 3) (e 8))) (fun e => F72_j3 R k1 (e 0) (e 1) (e 2) (e 3) (e 8))))) (fun e => k2 (e 0) (e 1) (e 2) (e 3) (e 8) (e 9))) (fun e => F72_j6 R k1 k2 (e 0) (e 1) (e 2) (e 3) (e 8) (e 9))) _ (by kernel_rfl) (F72_j7_ok R k1 k2 e)))
noncomputable def F72_l1 (R : ER) (k1 : V5) (n : Nat) : V6 := Nat.rec (motive := fun _ => V6) (fun _ _ _ _ _ _ => fun _ => False) (fun _ ih => fun x0 x1 x2 x3 x8 x9 => F72_b2 R k1 ih x0 x1 x2 x3 x8 x9) n
theorem F72_l1_succ (R : ER) (k1 : V5) (n : Nat) (x0 x1 x2 x3 x8 x9 : Value) : F72_l1 R k1 (n + 1) x0 x1 x2 x3 x8 x9 = F72_b2 R k1 (F72_l1 R k1 n) x0 x1 x2 x3 x8 x9 := rfl
theorem F72_l1_ok (R : ER) (k1 : V5) : ∀ (n : Nat) (e : Env), iterL (den Pg R (cd Try.f72 [1,0,0,1,0,0,1,0,0])) n e (inB 2 (inB 1 (setN (setN (inB 0 (kont Pg R Try.f72)) (fun e => k1 (e 0) (e 1) (e 2) (e 3) (e 8))) (fun e => F72_j3 R k1 (e 0) (e 1) (e 2) (e 3) (e 8))))) = F72_l1 R k1 n (e 0) (e 1) (e 2) (e 3) (e 8) (e 9) :=
  iterL_join (den Pg R (cd Try.f72 [1,0,0,1,0,0,1,0,0])) (inB 2 (inB 1 (setN (setN (inB 0 (kont Pg R Try.f72)) (fun e => k1 (e 0) (e 1) (e 2) (e 3) (e 8))) (fun e => F72_j3 R k1 (e 0) (e 1) (e 2) (e 3) (e 8))))) (fun n e => F72_l1 R k1 n (e 0) (e 1) (e 2) (e 3) (e 8) (e 9)) (fun _ => rfl) (fun n e => (F72_b2_ok R k1 (F72_l1 R k1 n) e).trans (F72_l1_succ R k1 n (e 0) (e 1) (e 2) (e 3) (e 8) (e 9)).symm)
def F72_j5 (R : ER) (k1 : V5) (x0 x1 x2 x3 x8 x9 : Value) : WP :=
  exN fun n => F72_l1 R k1 n x0 x1 x2 x3 x8 x9
theorem F72_j5_ok (R : ER) (k1 : V5) (e : Env) : den Pg R (cd Try.f72 [1,0,0,1,0,0,1]) e (inB 1 (setN (setN (inB 0 (kont Pg R Try.f72)) (fun e => k1 (e 0) (e 1) (e 2) (e 3) (e 8))) (fun e => F72_j3 R k1 (e 0) (e 1) (e 2) (e 3) (e 8)))) = (F72_j5 R k1 (e 0) (e 1) (e 2) (e 3) (e 8) (e 9)) := (den_block Pg R (cd Try.f72 [1,0,0,1,0,0,1]) 2 (cd Try.f72 [1,0,0,1,0,0,1,0]) e (inB 1 (setN (setN (inB 0 (kont Pg R Try.f72)) (fun e => k1 (e 0) (e 1) (e 2) (e 3) (e 8))) (fun e => F72_j3 R k1 (e 0) (e 1) (e 2) (e 3) (e 8)))) _ (by kernel_rfl) (den_loop Pg R (cd Try.f72 [1,0,0,1,0,0,1,0]) (cd Try.f72 [1,0,0,1,0,0,1,0,0]) e (inB 2 (inB 1 (setN (setN (inB 0 (kont Pg R Try.f72)) (fun e => k1 (e 0) (e 1) (e 2) (e 3) (e 8))) (fun e => F72_j3 R k1 (e 0) (e 1) (e 2) (e 3) (e 8))))) (fun n e => F72_l1 R k1 n (e 0) (e 1) (e 2) (e 3) (e 8) (e 9)) _ (by kernel_rfl) (F72_l1_ok R k1) (by kernel_rfl)))
def F72_j4 (R : ER) (k1 : V5) (x0 x1 x2 x3 x8 : Value) : WP :=
  F72_j5 R k1 x0 x1 x2 x3 x8 x8
theorem F72_j4_ok (R : ER) (k1 : V5) (e : Env) : den Pg R (cd Try.f72 [1,0,0,1,0]) e (setN (setN (inB 0 (kont Pg R Try.f72)) (fun e => k1 (e 0) (e 1) (e 2) (e 3) (e 8))) (fun e => F72_j3 R k1 (e 0) (e 1) (e 2) (e 3) (e 8))) = (F72_j4 R k1 (e 0) (e 1) (e 2) (e 3) (e 8)) := (den_block Pg R (cd Try.f72 [1,0,0,1,0]) 1 (cd Try.f72 [1,0,0,1,0,0]) e (setN (setN (inB 0 (kont Pg R Try.f72)) (fun e => k1 (e 0) (e 1) (e 2) (e 3) (e 8))) (fun e => F72_j3 R k1 (e 0) (e 1) (e 2) (e 3) (e 8))) _ (by kernel_rfl) (den_join Pg R 0 (cd Try.f72 [1,0,0,1,0,0]) (cd Try.f72 [1,0,0,1,0,0,1]) e (inB 1 (setN (setN (inB 0 (kont Pg R Try.f72)) (fun e => k1 (e 0) (e 1) (e 2) (e 3) (e 8))) (fun e => F72_j3 R k1 (e 0) (e 1) (e 2) (e 3) (e 8)))) (fun e => F72_j5 R k1 (e 0) (e 1) (e 2) (e 3) (e 8) (e 9)) _ (by kernel_rfl) (fun e => F72_j5_ok R k1 e) (by kernel_rfl)))
def F72_j2 (R : ER) (k1 : V5) (x0 x1 x2 x3 x8 : Value) : WP :=
  F72_j4 R k1 x0 x1 x2 x3 x8
theorem F72_j2_ok (R : ER) (k1 : V5) (e : Env) : den Pg R (cd Try.f72 [1,0,0,1]) e (setN (inB 0 (kont Pg R Try.f72)) (fun e => k1 (e 0) (e 1) (e 2) (e 3) (e 8))) = (F72_j2 R k1 (e 0) (e 1) (e 2) (e 3) (e 8)) := (den_join Pg R 0 (cd Try.f72 [1,0,0,1]) (cd Try.f72 [1,0,0,1,1]) e (setN (inB 0 (kont Pg R Try.f72)) (fun e => k1 (e 0) (e 1) (e 2) (e 3) (e 8))) (fun e => F72_j3 R k1 (e 0) (e 1) (e 2) (e 3) (e 8)) _ (by kernel_rfl) (fun e => F72_j3_ok R k1 e) (den_conv Pg R (pre 0 (cd Try.f72 [1,0,0,1])) (cd Try.f72 [1,0,0,1,0]) e (setN (setN (inB 0 (kont Pg R Try.f72)) (fun e => k1 (e 0) (e 1) (e 2) (e 3) (e 8))) (fun e => F72_j3 R k1 (e 0) (e 1) (e 2) (e 3) (e 8))) _ (by kernel_rfl) (F72_j4_ok R k1 e)))
def F72_b1 (R : ER) (k1 : V5) (x0 x1 x2 x3 x8 : Value) : WP :=
  pv (bin .lss x8 x2) fun v30 =>
  cnd v30 (
   F72_j2 R k1 x0 x1 x2 x3 x8) (
   R (.returned (.tuple ⟨[]⟩)))
theorem F72_b1_ok (R : ER) (k1 : V5) (e : Env) : den Pg R (cd Try.f72 [1,0,0]) e (setN (inB 0 (kont Pg R Try.f72)) (fun e => k1 (e 0) (e 1) (e 2) (e 3) (e 8))) = (F72_b1 R k1 (e 0) (e 1) (e 2) (e 3) (e 8)) := (den_join Pg R 0 (cd Try.f72 [1,0,0]) (cd Try.f72 [1,0,0,1]) e (setN (inB 0 (kont Pg R Try.f72)) (fun e => k1 (e 0) (e 1) (e 2) (e 3) (e 8))) (fun e => F72_j2 R k1 (e 0) (e 1) (e 2) (e 3) (e 8)) _ (by kernel_rfl) (fun e => F72_j2_ok R k1 e) (by kernel_rfl))
noncomputable def F72_l2 (R : ER) (n : Nat) : V5 := Nat.rec (motive := fun _ => V5) (fun _ _ _ _ _ => fun _ => False) (fun _ ih => fun x0 x1 x2 x3 x8 => F72_b1 R ih x0 x1 x2 x3 x8) n
theorem F72_l2_succ (R : ER) (n : Nat) (x0 x1 x2 x3 x8 : Value) : F72_l2 R (n + 1) x0 x1 x2 x3 x8 = F72_b1 R (F72_l2 R n) x0 x1 x2 x3 x8 := rfl
theorem F72_l2_ok (R : ER) : ∀ (n : Nat) (e : Env), iterL (den Pg R (cd Try.f72 [1,0,0])) n e (inB 0 (kont Pg R Try.f72)) = F72_l2 R n (e 0) (e 1) (e 2) (e 3) (e 8) :=
  iterL_join (den Pg R (cd Try.f72 [1,0,0])) (inB 0 (kont Pg R Try.f72)) (fun n e => F72_l2 R n (e 0) (e 1) (e 2) (e 3) (e 8)) (fun _ => rfl) (fun n e => (F72_b1_ok R (F72_l2 R n) e).trans (F72_l2_succ R n (e 0) (e 1) (e 2) (e 3) (e 8)).symm)
def F72_j1 (R : ER) (x0 x1 x2 x3 x8 : Value) : WP :=
  exN fun n => F72_l2 R n x0 x1 x2 x3 x8
theorem F72_j1_ok (R : ER) (e : Env) : den Pg R (cd Try.f72 [1]) e (kont Pg R Try.f72) = (F72_j1 R (e 0) (e 1) (e 2) (e 3) (e 8)) := (den_block Pg R (cd Try.f72 [1]) 0 (cd Try.f72 [1,0]) e (kont Pg R Try.f72) _ (by kernel_rfl) (den_loop Pg R (cd Try.f72 [1,0]) (cd Try.f72 [1,0,0]) e (inB 0 (kont Pg R Try.f72)) (fun n e => F72_l2 R n (e 0) (e 1) (e 2) (e 3) (e 8)) _ (by kernel_rfl) (F72_l2_ok R) (by kernel_rfl)))
def F72 (R : ER) (x0 x1 x2 x3 : Value) : WP :=
  pv (bin .add x1 (.int .i64 1)) fun v31 =>
  F72_j1 R x0 x1 x2 x3 v31
theorem F72_den (R : ER) (x0 x1 x2 x3 : Value) : den Pg R (cd Try.f72 []) (argsEnv [x0, x1, x2, x3]) (kont Pg R Try.f72) = F72 R x0 x1 x2 x3 :=
  have h : ∀ e, den Pg R (cd Try.f72 []) e (kont Pg R Try.f72) = F72 R (e 0) (e 1) (e 2) (e 3) := fun e => (den_join Pg R 0 (cd Try.f72 []) (cd Try.f72 [1]) e (kont Pg R Try.f72) (fun e => F72_j1 R (e 0) (e 1) (e 2) (e 3) (e 8)) _ (by kernel_rfl) (fun e => F72_j1_ok R e) (by kernel_rfl))
  h _
theorem F72_calls {R : ER} {x0 x1 x2 x3 : Value} {w : World} (h : F72 R x0 x1 x2 x3 w) : Calls Pg 72 ⟨[x0, x1, x2, x3]⟩ w R :=
  calls_of_den Try.func72 (by kernel_rfl) (by kernel_rfl) (F72_den R x0 x1 x2 x3) h
/-! ### 73: slices_symMergeCmpFunc_73 -/
def F73_j6 (R : ER) (x0 x3 x4 x18 x24 : Value) : WP :=
  pv (bin .lss x18 x24) fun v1 =>
  gd v1 true (pv (some x24)) fun v2 =>
  gd v1 true (pv (some x3)) fun v3 =>
  gd v1 true (pv (bin .lss v2 v3)) fun v4 =>
  pv (pickO v1 v4 (.bool false)) fun v5 =>
  cnd v5 (
   cal Pg R 73 ⟨[x0, x18, x24, x3, x4]⟩ fun v6 =>
   R (.returned (.tuple ⟨[]⟩))) (
   R (.returned (.tuple ⟨[]⟩)))
theorem F73_j6_ok (R : ER) (e : Env) : den Pg R (cd Try.f73 [1,1,1,1,1,1,1,1,1,1,1]) e (kont Pg R Try.f73) = (F73_j6 R (e 0) (e 3) (e 4) (e 18) (e 24)) := (by kernel_rfl)
def F73_j7 (R : ER) (x0 x1 x3 x4 x18 x20 x24 : Value) : WP :=
  pv (bin .lss x1 x20) fun v7 =>
  gd v7 true (pv (some x20)) fun v8 =>
  gd v7 true (pv (some x18)) fun v9 =>
  gd v7 true (pv (bin .lss v8 v9)) fun v10 =>
  pv (pickO v7 v10 (.bool false)) fun v11 =>
  cnd v11 (
   cal Pg R 73 ⟨[x0, x1, x20, x18, x4]⟩ fun v12 =>
   F73_j6 R x0 x3 x4 x18 x24) (
   F73_j6 R x0 x3 x4 x18 x24)
theorem F73_j7_ok (R : ER) (e : Env) : den Pg R (cd Try.f73 [1,1,1,1,1,1,1,1,1,1,0]) e (setN (kont Pg R Try.f73) (fun e => F73_j6 R (e 0) (e 3) (e 4) (e 18) (e 24))) = (F73_j7 R (e 0) (e 1) (e 3) (e 4) (e 18) (e 20) (e 24)) := (by kernel_rfl)
def F73_j5 (R : ER) (x0 x1 x3 x4 x18 x20 x24 : Value) : WP :=
  F73_j7 R x0 x1 x3 x4 x18 x20 x24
theorem F73_j5_ok (R : ER) (e : Env) : den Pg R (cd Try.f73 [1,1,1,1,1,1,1,1,1,1]) e (kont Pg R Try.f73) = (F73_j5 R (e 0) (e 1) (e 3) (e 4) (e 18) (e 20) (e 24)) := (den_join Pg R 0 (cd Try.f73 [1,1,1,1,1,1,1,1,1,1]) (cd Try.f73 [1,1,1,1,1,1,1,1,1,1,1]) e (kont Pg R Try.f73) (fun e => F73_j6 R (e 0) (e 3) (e 4) (e 18) (e 24)) _ (by kernel_rfl) (fun e => F73_j6_ok R e) (den_conv Pg R (pre 0 (cd Try.f73 [1,1,1,1,1,1,1,1,1,1])) (cd Try.f73 [1,1,1,1,1,1,1,1,1,1,0]) e (setN (kont Pg R Try.f73) (fun e => F73_j6 R (e 0) (e 3) (e 4) (e 18) (e 24))) _ (by kernel_rfl) (F73_j7_ok R e)))
def F73_j8 (R : ER) (x0 x1 x2 x3 x4 x18 x20 x24 : Value) : WP :=
  pv (bin .lss x20 x2) fun v13 =>
  gd v13 true (pv (some x2)) fun v14 =>
  gd v13 true (pv (some x24)) fun v15 =>
  gd v13 true (pv (bin .lss v14 v15)) fun v16 =>
  pv (pickO v13 v16 (.bool false)) fun v17 =>
  cnd v17 (
   cal Pg R 86 ⟨[x0, x20, x2, x24, x4]⟩ fun v18 =>
   F73_j5 R x0 x1 x3 x4 x18 x20 x24) (
   F73_j5 R x0 x1 x3 x4 x18 x20 x24)
theorem F73_j8_ok (R : ER) (e : Env) : den Pg R (cd Try.f73 [1,1,1,1,1,1,1,1,1,0]) e (setN (kont Pg R Try.f73) (fun e => F73_j5 R (e 0) (e 1) (e 3) (e 4) (e 18) (e 20) (e 24))) = (F73_j8 R (e 0) (e 1) (e 2) (e 3) (e 4) (e 18) (e 20) (e 24)) := (by kernel_rfl)
def F73_j4 (R : ER) (x0 x1 x2 x3 x4 x18 x19 x20 : Value) : WP :=
  pv (bin .sub x19 x20) fun v19 =>
  F73_j8 R x0 x1 x2 x3 x4 x18 x20 v19
theorem F73_j4_ok (R : ER) (e : Env) : den Pg R (cd Try.f73 [1,1,1,1,1,1,1,1]) e (kont Pg R Try.f73) = (F73_j4 R (e 0) (e 1) (e 2) (e 3) (e 4) (e 18) (e 19) (e 20)) := (den_join Pg R 1 (cd Try.f73 [1,1,1,1,1,1,1,1]) (cd Try.f73 [1,1,1,1,1,1,1,1,1,1]) e (kont Pg R Try.f73) (fun e => F73_j5 R (e 0) (e 1) (e 3) (e 4) (e 18) (e 20) (e 24)) _ (by kernel_rfl) (fun e => F73_j5_ok R e) (den_join Pg R 0 (pre 1 (cd Try.f73 [1,1,1,1,1,1,1,1])) (cd Try.f73 [1,1,1,1,1,1,1,1,1,0]) e (setN (kont Pg R Try.f73) (fun e => F73_j5 R (e 0) (e 1) (e 3) (e 4) (e 18) (e 20) (e 24))) (fun e => F73_j8 R (e 0) (e 1) (e 2) (e 3) (e 4) (e 18) (e 20) (e 24)) _ (by kernel_rfl) (fun e => F73_j8_ok R e) (by kernel_rfl)))
def F73_j10 (R : ER) (k1 : V10) (x0 x1 x2 x3 x4 x18 x19 x20 x21 x22 : Value) : WP :=
  pv (bin .add x20 x21) fun v20 =>
  pv (cvI .u64 v20) fun v21 =>
  pv (bin .shr v21 (.int .u64 1)) fun v22 =>
  pv (cvI .i64 v22) fun v23 =>
  drewV (
  pv (bin .sub x22 v23) fun v24 =>
  pv (ixS 2 x0 v24) fun v25 =>
  ldN 2 v25 fun v26 =>
  pv (ixS 2 x0 v23) fun v27 =>
  ldN 2 v27 fun v28 =>
  mem fun w30 => calD Pg noR x4 ⟨[v26, v28]⟩ fun v29 =>
  pv (bin .lss v29 (.int .i64 0)) fun v31 =>
  pv (unO .not v31) fun v32 =>
  cnd v32 (
   pv (bin .add v23 (.int .i64 1)) fun v33 =>
   k1 x0 x1 x2 x3 x4 x18 x19 v33 x21 x22) (
   k1 x0 x1 x2 x3 x4 x18 x19 x20 v23 x22))
theorem F73_j10_ok (R : ER) (k1 : V10) (e : Env) : den Pg R (cd Try.f73 [1,1,1,1,1,1,1,0,0,0,1]) e (setN (inB 8 (setN (kont Pg R Try.f73) (fun e => F73_j4 R (e 0) (e 1) (e 2) (e 3) (e 4) (e 18) (e 19) (e 20)))) (fun e => k1 (e 0) (e 1) (e 2) (e 3) (e 4) (e 18) (e 19) (e 20) (e 21) (e 22))) = (F73_j10 R k1 (e 0) (e 1) (e 2) (e 3) (e 4) (e 18) (e 19) (e 20) (e 21) (e 22)) := (den_block Pg R (cd Try.f73 [1,1,1,1,1,1,1,0,0,0,1]) 9 (cd Try.f73 [1,1,1,1,1,1,1,0,0,0,1,0]) e (setN (inB 8 (setN (kont Pg R Try.f73) (fun e => F73_j4 R (e 0) (e 1) (e 2) (e 3) (e 4) (e 18) (e 19) (e 20)))) (fun e => k1 (e 0) (e 1) (e 2) (e 3) (e 4) (e 18) (e 19) (e 20) (e 21) (e 22))) _ (by kernel_rfl) (by kernel_rfl))
def F73_b1 (R : ER) (k1 : V10) (x0 x1 x2 x3 x4 x18 x19 x20 x21 x22 : Value) : WP :=
  pv (bin .lss x20 x21) fun v34 =>
  cnd v34 (
   F73_j10 R k1 x0 x1 x2 x3 x4 x18 x19 x20 x21 x22) (
   F73_j4 R x0 x1 x2 x3 x4 x18 x19 x20)
theorem F73_b1_ok (R : ER) (k1 : V10) (e : Env) : den Pg R (cd Try.f73 [1,1,1,1,1,1,1,0,0,0]) e (setN (inB 8 (setN (kont Pg R Try.f73) (fun e => F73_j4 R (e 0) (e 1) (e 2) (e 3) (e 4) (e 18) (e 19) (e 20)))) (fun e => k1 (e 0) (e 1) (e 2) (e 3) (e 4) (e 18) (e 19) (e 20) (e 21) (e 22))) = (F73_b1 R k1 (e 0) (e 1) (e 2) (e 3) (e 4) (e 18) (e 19) (e 20) (e 21) (e 22)) := (den_join Pg R 0 (cd Try.f73 [1,1,1,1,1,1,1,0,0,0]) (cd Try.f73 [1,1,1,1,1,1,1,0,0,0,1]) e (setN (inB 8 (setN (kont Pg R Try.f73) (fun e => F73_j4 R (e 0) (e 1) (e 2) (e 3) (e 4) (e 18) (e 19) (e 20)))) (fun e => k1 (e 0) (e 1) (e 2) (e 3) (e 4) (e 18) (e 19) (e 20) (e 21) (e 22))) (fun e => F73_j10 R k1 (e 0) (e 1) (e 2) (e 3) (e 4) (e 18) (e 19) (e 20) (e 21) (e 22)) _ (by kernel_rfl) (fun e => F73_j10_ok R k1 e) (by kernel_rfl))
noncomputable def F73_l1 (R : ER) (n : Nat) : V10 := Nat.rec (motive := fun _ => V10) (fun _ _ _ _ _ _ _ _ _ _ => fun _ => False) (fun _ ih => fun x0 x1 x2 x3 x4 x18 x19 x20 x21 x22 => F73_b1 R ih x0 x1 x2 x3 x4 x18 x19 x20 x21 x22) n
theorem F73_l1_succ (R : ER) (n : Nat) (x0 x1 x2 x3 x4 x18 x19 x20 x21 x22 : Value) : F73_l1 R (n + 1) x0 x1 x2 x3 x4 x18 x19 x20 x21 x22 = F73_b1 R (F73_l1 R n) x0 x1 x2 x3 x4 x18 x19 x20 x21 x22 := rfl
theorem F73_l1_ok (R : ER) : ∀ (n : Nat) (e : Env), iterL (den Pg R (cd Try.f73 [1,1,1,1,1,1,1,0,0,0])) n e (inB 8 (setN (kont Pg R Try.f73) (fun e => F73_j4 R (e 0) (e 1) (e 2) (e 3) (e 4) (e 18) (e 19) (e 20)))) = F73_l1 R n (e 0) (e 1) (e 2) (e 3) (e 4) (e 18) (e 19) (e 20) (e 21) (e 22) :=
  iterL_join (den Pg R (cd Try.f73 [1,1,1,1,1,1,1,0,0,0])) (inB 8 (setN (kont Pg R Try.f73) (fun e => F73_j4 R (e 0) (e 1) (e 2) (e 3) (e 4) (e 18) (e 19) (e 20)))) (fun n e => F73_l1 R n (e 0) (e 1) (e 2) (e 3) (e 4) (e 18) (e 19) (e 20) (e 21) (e 22)) (fun _ => rfl) (fun n e => (F73_b1_ok R (F73_l1 R n) e).trans (F73_l1_succ R n (e 0) (e 1) (e 2) (e 3) (e 4) (e 18) (e 19) (e 20) (e 21) (e 22)).symm)
def F73_j9 (R : ER) (x0 x1 x2 x3 x4 x18 x19 x20 x21 x22 : Value) : WP :=
  exN fun n => F73_l1 R n x0 x1 x2 x3 x4 x18 x19 x20 x21 x22
theorem F73_j9_ok (R : ER) (e : Env) : den Pg R (cd Try.f73 [1,1,1,1,1,1,1,0]) e (setN (kont Pg R Try.f73) (fun e => F73_j4 R (e 0) (e 1) (e 2) (e 3) (e 4) (e 18) (e 19) (e 20))) = (F73_j9 R (e 0) (e 1) (e 2) (e 3) (e 4) (e 18) (e 19) (e 20) (e 21) (e 22)) := (den_block Pg R (cd Try.f73 [1,1,1,1,1,1,1,0]) 8 (cd Try.f73 [1,1,1,1,1,1,1,0,0]) e (setN (kont Pg R Try.f73) (fun e => F73_j4 R (e 0) (e 1) (e 2) (e 3) (e 4) (e 18) (e 19) (e 20))) _ (by kernel_rfl) (den_loop Pg R (cd Try.f73 [1,1,1,1,1,1,1,0,0]) (cd Try.f73 [1,1,1,1,1,1,1,0,0,0]) e (inB 8 (setN (kont Pg R Try.f73) (fun e => F73_j4 R (e 0) (e 1) (e 2) (e 3) (e 4) (e 18) (e 19) (e 20)))) (fun n e => F73_l1 R n (e 0) (e 1) (e 2) (e 3) (e 4) (e 18) (e 19) (e 20) (e 21) (e 22)) _ (by kernel_rfl) (F73_l1_ok R) (by kernel_rfl)))
def F73_j3 (R : ER) (x0 x1 x2 x3 x4 x18 x19 x20 x21 : Value) : WP :=
  pv (bin .sub x19 (.int .i64 1)) fun v35 =>
  F73_j9 R x0 x1 x2 x3 x4 x18 x19 x20 x21 v35
theorem F73_j3_ok (R : ER) (e : Env) : den Pg R (cd Try.f73 [1,1,1,1,1,1]) e (kont Pg R Try.f73) = (F73_j3 R (e 0) (e 1) (e 2) (e 3) (e 4) (e 18) (e 19) (e 20) (e 21)) := (den_join Pg R 1 (cd Try.f73 [1,1,1,1,1,1]) (cd Try.f73 [1,1,1,1,1,1,1,1]) e (kont Pg R Try.f73) (fun e => F73_j4 R (e 0) (e 1) (e 2) (e 3) (e 4) (e 18) (e 19) (e 20)) _ (by kernel_rfl) (fun e => F73_j4_ok R e) (den_join Pg R 0 (pre 1 (cd Try.f73 [1,1,1,1,1,1])) (cd Try.f73 [1,1,1,1,1,1,1,0]) e (setN (kont Pg R Try.f73) (fun e => F73_j4 R (e 0) (e 1) (e 2) (e 3) (e 4) (e 18) (e 19) (e 20))) (fun e => F73_j9 R (e 0) (e 1) (e 2) (e 3) (e 4) (e 18) (e 19) (e 20) (e 21) (e 22)) _ (by kernel_rfl) (fun e => F73_j9_ok R e) (by kernel_rfl)))
def F73_j11 (R : ER) (x0 x1 x2 x3 x4 x18 x19 : Value) : WP :=
  pv (bin .gtr x2 x18) fun v36 =>
  cnd v36 (
   pv (bin .sub x19 x3) fun v37 =>
   F73_j3 R x0 x1 x2 x3 x4 x18 x19 v37 x18) (
   F73_j3 R x0 x1 x2 x3 x4 x18 x19 x1 x2)
theorem F73_j11_ok (R : ER) (e : Env) : den Pg R (cd Try.f73 [1,1,1,1,1,0]) e (setN (kont Pg R Try.f73) (fun e => F73_j3 R (e 0) (e 1) (e 2) (e 3) (e 4) (e 18) (e 19) (e 20) (e 21))) = (F73_j11 R (e 0) (e 1) (e 2) (e 3) (e 4) (e 18) (e 19)) := (by kernel_rfl)
def F73_j2 (R : ER) (x0 x1 x2 x3 x4 : Value) : WP :=
  pv (bin .add x1 x3) fun v38 =>
  pv (cvI .u64 v38) fun v39 =>
  pv (bin .shr v39 (.int .u64 1)) fun v40 =>
  pv (cvI .i64 v40) fun v41 =>
  pv (bin .add v41 x2) fun v42 =>
  F73_j11 R x0 x1 x2 x3 x4 v41 v42
theorem F73_j2_ok (R : ER) (e : Env) : den Pg R (cd Try.f73 [1,1]) e (kont Pg R Try.f73) = (F73_j2 R (e 0) (e 1) (e 2) (e 3) (e 4)) := (den_join Pg R 3 (cd Try.f73 [1,1]) (cd Try.f73 [1,1,1,1,1,1]) e (kont Pg R Try.f73) (fun e => F73_j3 R (e 0) (e 1) (e 2) (e 3) (e 4) (e 18) (e 19) (e 20) (e 21)) _ (by kernel_rfl) (fun e => F73_j3_ok R e) (den_join Pg R 2 (pre 3 (cd Try.f73 [1,1])) (cd Try.f73 [1,1,1,1,1,0]) e (setN (kont Pg R Try.f73) (fun e => F73_j3 R (e 0) (e 1) (e 2) (e 3) (e 4) (e 18) (e 19) (e 20) (e 21))) (fun e => F73_j11 R (e 0) (e 1) (e 2) (e 3) (e 4) (e 18) (e 19)) _ (by kernel_rfl) (fun e => F73_j11_ok R e) (by kernel_rfl)))
def F73_j16 (R : ER) : WP :=
  R (.returned (.tuple ⟨[]⟩))
theorem F73_j16_ok (R : ER) (e : Env) : den Pg R (cd Try.f73 [1,0,1,0,1,1,1,1]) e (setN (kont Pg R Try.f73) (fun e => F73_j2 R (e 0) (e 1) (e 2) (e 3) (e 4))) = (F73_j16 R) := by kernel_rfl
def F73_j19 (R : ER) (k1 : V3) (x0 x14 x17 : Value) : WP :=
  drewV (
  pv (bin .sub x17 (.int .i64 1)) fun v43 =>
  pv (bin .sub x17 (.int .i64 1)) fun v44 =>
  pv (ixS 2 x0 v44) fun v45 =>
  ldN 2 v45 fun v46 =>
  pv (ixS 2 x0 x17) fun v47 =>
  ldN 2 v47 fun v48 =>
  pv (ixS 2 x0 x17) fun v49 =>
  mem fun w51 => stN 2 v49 v46 fun v50 =>
  pv (ixS 2 x0 v43) fun v52 =>
  mem fun w54 => stN 2 v52 v48 fun v53 =>
  pv (bin .sub x17 (.int .i64 1)) fun v55 =>
  k1 x0 x14 v55)
theorem F73_j19_ok (R : ER) (k1 : V3) (e : Env) : den Pg R (cd Try.f73 [1,0,1,0,1,1,1,0,1,0,0,1]) e (setN (inB 6 (setN (setN (kont Pg R Try.f73) (fun e => F73_j2 R (e 0) (e 1) (e 2) (e 3) (e 4))) (fun e => F73_j16 R))) (fun e => k1 (e 0) (e 14) (e 17))) = (F73_j19 R k1 (e 0) (e 14) (e 17)) := by kernel_rfl
def F73_b2 (R : ER) (k1 : V3) (x0 x14 x17 : Value) : WP :=
  pv (bin .gtr x17 x14) fun v56 =>
  cnd v56 (
   F73_j19 R k1 x0 x14 x17) (
   F73_j16 R)
theorem F73_b2_ok (R : ER) (k1 : V3) (e : Env) : den Pg R (cd Try.f73 [1,0,1,0,1,1,1,0,1,0,0]) e (setN (inB 6 (setN (setN (kont Pg R Try.f73) (fun e => F73_j2 R (e 0) (e 1) (e 2) (e 3) (e 4))) (fun e => F73_j16 R))) (fun e => k1 (e 0) (e 14) (e 17))) = (F73_b2 R k1 (e 0) (e 14) (e 17)) := (den_join Pg R 0 (cd Try.f73 [1,0,1,0,1,1,1,0,1,0,0]) (cd Try.f73 [1,0,1,0,1,1,1,0,1,0,0,1]) e (setN (inB 6 (setN (setN (kont Pg R Try.f73) (fun e => F73_j2 R (e 0) (e 1) (e 2) (e 3) (e 4))) (fun e => F73_j16 R))) (fun e => k1 (e 0) (e 14) (e 17))) (fun e => F73_j19 R k1 (e 0) (e 14) (e 17)) _ (by kernel_rfl) (fun e => F73_j19_ok R k1 e) (by kernel_rfl))
noncomputable def F73_l2 (R : ER) (n : Nat) : V3 := Nat.rec (motive := fun _ => V3) (fun _ _ _ => fun _ => False) (fun _ ih => fun x0 x14 x17 => F73_b2 R ih x0 x14 x17) n
theorem F73_l2_succ (R : ER) (n : Nat) (x0 x14 x17 : Value) : F73_l2 R (n + 1) x0 x14 x17 = F73_b2 R (F73_l2 R n) x0 x14 x17 := rfl
theorem F73_l2_ok (R : ER) : ∀ (n : Nat) (e : Env), iterL (den Pg R (cd Try.f73 [1,0,1,0,1,1,1,0,1,0,0])) n e (inB 6 (setN (setN (kont Pg R Try.f73) (fun e => F73_j2 R (e 0) (e 1) (e 2) (e 3) (e 4))) (fun e => F73_j16 R))) = F73_l2 R n (e 0) (e 14) (e 17) :=
  iterL_join (den Pg R (cd Try.f73 [1,0,1,0,1,1,1,0,1,0,0])) (inB 6 (setN (setN (kont Pg R Try.f73) (fun e => F73_j2 R (e 0) (e 1) (e 2) (e 3) (e 4))) (fun e => F73_j16 R))) (fun n e => F73_l2 R n (e 0) (e 14) (e 17)) (fun _ => rfl) (fun n e => (F73_b2_ok R (F73_l2 R n) e).trans (F73_l2_succ R n (e 0) (e 14) (e 17)).symm)
def F73_j18 (R : ER) (x0 x14 x17 : Value) : WP :=
  exN fun n => F73_l2 R n x0 x14 x17
theorem F73_j18_ok (R : ER) (e : Env) : den Pg R (cd Try.f73 [1,0,1,0,1,1,1,0,1]) e (setN (setN (kont Pg R Try.f73) (fun e => F73_j2 R (e 0) (e 1) (e 2) (e 3) (e 4))) (fun e => F73_j16 R)) = (F73_j18 R (e 0) (e 14) (e 17)) := (den_block Pg R (cd Try.f73 [1,0,1,0,1,1,1,0,1]) 6 (cd Try.f73 [1,0,1,0,1,1,1,0,1,0]) e (setN (setN (kont Pg R Try.f73) (fun e => F73_j2 R (e 0) (e 1) (e 2) (e 3) (e 4))) (fun e => F73_j16 R)) _ (by kernel_rfl) (den_loop Pg R (cd Try.f73 [1,0,1,0,1,1,1,0,1,0]) (cd Try.f73 [1,0,1,0,1,1,1,0,1,0,0]) e (inB 6 (setN (setN (kont Pg R Try.f73) (fun e => F73_j2 R (e 0) (e 1) (e 2) (e 3) (e 4))) (fun e => F73_j16 R))) (fun n e => F73_l2 R n (e 0) (e 14) (e 17)) _ (by kernel_rfl) (F73_l2_ok R) (by kernel_rfl)))
def F73_j17 (R : ER) (x0 x2 x14 : Value) : WP :=
  F73_j18 R x0 x14 x2
theorem F73_j17_ok (R : ER) (e : Env) : den Pg R (cd Try.f73 [1,0,1,0,1,1,1,0]) e (setN (setN (kont Pg R Try.f73) (fun e => F73_j2 R (e 0) (e 1) (e 2) (e 3) (e 4))) (fun e => F73_j16 R)) = (F73_j17 R (e 0) (e 2) (e 14)) := (den_join Pg R 0 (cd Try.f73 [1,0,1,0,1,1,1,0]) (cd Try.f73 [1,0,1,0,1,1,1,0,1]) e (setN (setN (kont Pg R Try.f73) (fun e => F73_j2 R (e 0) (e 1) (e 2) (e 3) (e 4))) (fun e => F73_j16 R)) (fun e => F73_j18 R (e 0) (e 14) (e 17)) _ (by kernel_rfl) (fun e => F73_j18_ok R e) (by kernel_rfl))
def F73_j15 (R : ER) (x0 x2 x14 : Value) : WP :=
  F73_j17 R x0 x2 x14
theorem F73_j15_ok (R : ER) (e : Env) : den Pg R (cd Try.f73 [1,0,1,0,1,1,1]) e (setN (kont Pg R Try.f73) (fun e => F73_j2 R (e 0) (e 1) (e 2) (e 3) (e 4))) = (F73_j15 R (e 0) (e 2) (e 14)) := (den_join Pg R 0 (cd Try.f73 [1,0,1,0,1,1,1]) (cd Try.f73 [1,0,1,0,1,1,1,1]) e (setN (kont Pg R Try.f73) (fun e => F73_j2 R (e 0) (e 1) (e 2) (e 3) (e 4))) (fun e => F73_j16 R) _ (by kernel_rfl) (fun e => F73_j16_ok R e) (den_conv Pg R (pre 0 (cd Try.f73 [1,0,1,0,1,1,1])) (cd Try.f73 [1,0,1,0,1,1,1,0]) e (setN (setN (kont Pg R Try.f73) (fun e => F73_j2 R (e 0) (e 1) (e 2) (e 3) (e 4))) (fun e => F73_j16 R)) _ (by kernel_rfl) (F73_j17_ok R e)))
def F73_j21 (R : ER) (k1 : V5) (x0 x2 x4 x14 x15 : Value) : WP :=
  pv (bin .add x14 x15) fun v57 =>
  pv (cvI .u64 v57) fun v58 =>
  pv (bin .shr v58 (.int .u64 1)) fun v59 =>
  pv (cvI .i64 v59) fun v60 =>
  drewV (
  pv (ixS 2 x0 x2) fun v61 =>
  ldN 2 v61 fun v62 =>
  pv (ixS 2 x0 v60) fun v63 =>
  ldN 2 v63 fun v64 =>
  mem fun w66 => calD Pg noR x4 ⟨[v62, v64]⟩ fun v65 =>
  pv (bin .lss v65 (.int .i64 0)) fun v67 =>
  pv (unO .not v67) fun v68 =>
  cnd v68 (
   pv (bin .add v60 (.int .i64 1)) fun v69 =>
   k1 x0 x2 x4 v69 x15) (
   k1 x0 x2 x4 x14 v60))
theorem F73_j21_ok (R : ER) (k1 : V5) (e : Env) : den Pg R (cd Try.f73 [1,0,1,0,1,1,0,0,0,1]) e (setN (inB 4 (setN (setN (kont Pg R Try.f73) (fun e => F73_j2 R (e 0) (e 1) (e 2) (e 3) (e 4))) (fun e => F73_j15 R (e 0) (e 2) (e 14)))) (fun e => k1 (e 0) (e 2) (e 4) (e 14) (e 15))) = (F73_j21 R k1 (e 0) (e 2) (e 4) (e 14) (e 15)) := (den_block Pg R (cd Try.f73 [1,0,1,0,1,1,0,0,0,1]) 5 (cd Try.f73 [1,0,1,0,1,1,0,0,0,1,0]) e (setN (inB 4 (setN (setN (kont Pg R Try.f73) (fun e => F73_j2 R (e 0) (e 1) (e 2) (e 3) (e 4))) (fun e => F73_j15 R (e 0) (e 2) (e 14)))) (fun e => k1 (e 0) (e 2) (e 4) (e 14) (e 15))) _ (by kernel_rfl) (by kernel_rfl))
def F73_b3 (R : ER) (k1 : V5) (x0 x2 x4 x14 x15 : Value) : WP :=
  pv (bin .lss x14 x15) fun v70 =>
  cnd v70 (
   F73_j21 R k1 x0 x2 x4 x14 x15) (
   F73_j15 R x0 x2 x14)
theorem F73_b3_ok (R : ER) (k1 : V5) (e : Env) : den Pg R (cd Try.f73 [1,0,1,0,1,1,0,0,0]) e (setN (inB 4 (setN (setN (kont Pg R Try.f73) (fun e => F73_j2 R (e 0) (e 1) (e 2) (e 3) (e 4))) (fun e => F73_j15 R (e 0) (e 2) (e 14)))) (fun e => k1 (e 0) (e 2) (e 4) (e 14) (e 15))) = (F73_b3 R k1 (e 0) (e 2) (e 4) (e 14) (e 15)) := (den_join Pg R 0 (cd Try.f73 [1,0,1,0,1,1,0,0,0]) (cd Try.f73 [1,0,1,0,1,1,0,0,0,1]) e (setN (inB 4 (setN (setN (kont Pg R Try.f73) (fun e => F73_j2 R (e 0) (e 1) (e 2) (e 3) (e 4))) (fun e => F73_j15 R (e 0) (e 2) (e 14)))) (fun e => k1 (e 0) (e 2) (e 4) (e 14) (e 15))) (fun e => F73_j21 R k1 (e 0) (e 2) (e 4) (e 14) (e 15)) _ (by kernel_rfl) (fun e => F73_j21_ok R k1 e) (by kernel_rfl))
noncomputable def F73_l3 (R : ER) (n : Nat) : V5 := Nat.rec (motive := fun _ => V5) (fun _ _ _ _ _ => fun _ => False) (fun _ ih => fun x0 x2 x4 x14 x15 => F73_b3 R ih x0 x2 x4 x14 x15) n
theorem F73_l3_succ (R : ER) (n : Nat) (x0 x2 x4 x14 x15 : Value) : F73_l3 R (n + 1) x0 x2 x4 x14 x15 = F73_b3 R (F73_l3 R n) x0 x2 x4 x14 x15 := rfl
theorem F73_l3_ok (R : ER) : ∀ (n : Nat) (e : Env), iterL (den Pg R (cd Try.f73 [1,0,1,0,1,1,0,0,0])) n e (inB 4 (setN (setN (kont Pg R Try.f73) (fun e => F73_j2 R (e 0) (e 1) (e 2) (e 3) (e 4))) (fun e => F73_j15 R (e 0) (e 2) (e 14)))) = F73_l3 R n (e 0) (e 2) (e 4) (e 14) (e 15) :=
  iterL_join (den Pg R (cd Try.f73 [1,0,1,0,1,1,0,0,0])) (inB 4 (setN (setN (kont Pg R Try.f73) (fun e => F73_j2 R (e 0) (e 1) (e 2) (e 3) (e 4))) (fun e => F73_j15 R (e 0) (e 2) (e 14)))) (fun n e => F73_l3 R n (e 0) (e 2) (e 4) (e 14) (e 15)) (fun _ => rfl) (fun n e => (F73_b3_ok R (F73_l3 R n) e).trans (F73_l3_succ R n (e 0) (e 2) (e 4) (e 14) (e 15)).symm)
def F73_j20 (R : ER) (x0 x2 x4 x14 x15 : Value) : WP :=
  exN fun n => F73_l3 R n x0 x2 x4 x14 x15
theorem F73_j20_ok (R : ER) (e : Env) : den Pg R (cd Try.f73 [1,0,1,0,1,1,0]) e (setN (setN (kont Pg R Try.f73) (fun e => F73_j2 R (e 0) (e 1) (e 2) (e 3) (e 4))) (fun e => F73_j15 R (e 0) (e 2) (e 14))) = (F73_j20 R (e 0) (e 2) (e 4) (e 14) (e 15)) := (den_block Pg R (cd Try.f73 [1,0,1,0,1,1,0]) 4 (cd Try.f73 [1,0,1,0,1,1,0,0]) e (setN (setN (kont Pg R Try.f73) (fun e => F73_j2 R (e 0) (e 1) (e 2) (e 3) (e 4))) (fun e => F73_j15 R (e 0) (e 2) (e 14))) _ (by kernel_rfl) (den_loop Pg R (cd Try.f73 [1,0,1,0,1,1,0,0]) (cd Try.f73 [1,0,1,0,1,1,0,0,0]) e (inB 4 (setN (setN (kont Pg R Try.f73) (fun e => F73_j2 R (e 0) (e 1) (e 2) (e 3) (e 4))) (fun e => F73_j15 R (e 0) (e 2) (e 14)))) (fun n e => F73_l3 R n (e 0) (e 2) (e 4) (e 14) (e 15)) _ (by kernel_rfl) (F73_l3_ok R) (by kernel_rfl)))
def F73_j14 (R : ER) (x0 x1 x2 x4 : Value) : WP :=
  F73_j20 R x0 x2 x4 x1 x2
theorem F73_j14_ok (R : ER) (e : Env) : den Pg R (cd Try.f73 [1,0,1,0]) e (setN (kont Pg R Try.f73) (fun e => F73_j2 R (e 0) (e 1) (e 2) (e 3) (e 4))) = (F73_j14 R (e 0) (e 1) (e 2) (e 4)) := (den_join Pg R 2 (cd Try.f73 [1,0,1,0]) (cd Try.f73 [1,0,1,0,1,1,1]) e (setN (kont Pg R Try.f73) (fun e => F73_j2 R (e 0) (e 1) (e 2) (e 3) (e 4))) (fun e => F73_j15 R (e 0) (e 2) (e 14)) _ (by kernel_rfl) (fun e => F73_j15_ok R e) (den_join Pg R 1 (pre 2 (cd Try.f73 [1,0,1,0])) (cd Try.f73 [1,0,1,0,1,1,0]) e (setN (setN (kont Pg R Try.f73) (fun e => F73_j2 R (e 0) (e 1) (e 2) (e 3) (e 4))) (fun e => F73_j15 R (e 0) (e 2) (e 14))) (fun e => F73_j20 R (e 0) (e 2) (e 4) (e 14) (e 15)) _ (by kernel_rfl) (fun e => F73_j20_ok R e) (by kernel_rfl)))
def F73_j13 (R : ER) (x0 x1 x2 x3 x4 x80 : Value) : WP :=
  cnd x80 (F73_j14 R x0 x1 x2 x4) (F73_j2 R x0 x1 x2 x3 x4)
theorem F73_j13_ok (R : ER) (e : Env) : den Pg R (cd Try.f73 [1,0,1]) e (setN (kont Pg R Try.f73) (fun e => F73_j2 R (e 0) (e 1) (e 2) (e 3) (e 4))) = (F73_j13 R (e 0) (e 1) (e 2) (e 3) (e 4) (e 80)) := (den_if Pg R (cd Try.f73 [1,0,1]) (cd Try.f73 [1,0,1,0]) (cd Try.f73 [1,0,1,1]) e (setN (kont Pg R Try.f73) (fun e => F73_j2 R (e 0) (e 1) (e 2) (e 3) (e 4))) (F73_j14 R (e 0) (e 1) (e 2) (e 4)) _ _ (by kernel_rfl) (F73_j14_ok R e) rfl (by kernel_rfl))
def F73_j12 (R : ER) (x0 x1 x2 x3 x4 : Value) : WP :=
  pv (bin .sub x3 x2) fun v71 =>
  pv (bin .eql v71 (.int .i64 1)) fun v72 =>
  F73_j13 R x0 x1 x2 x3 x4 v72
theorem F73_j12_ok (R : ER) (e : Env) : den Pg R (cd Try.f73 [1,0]) e (setN (kont Pg R Try.f73) (fun e => F73_j2 R (e 0) (e 1) (e 2) (e 3) (e 4))) = (F73_j12 R (e 0) (e 1) (e 2) (e 3) (e 4)) := (den_join Pg R 0 (cd Try.f73 [1,0]) (cd Try.f73 [1,0,1]) e (setN (kont Pg R Try.f73) (fun e => F73_j2 R (e 0) (e 1) (e 2) (e 3) (e 4))) (fun e => F73_j13 R (e 0) (e 1) (e 2) (e 3) (e 4) (e 80)) _ (by kernel_rfl) (fun e => F73_j13_ok R e) (by kernel_rfl))
def F73_j1 (R : ER) (x0 x1 x2 x3 x4 : Value) : WP :=
  F73_j12 R x0 x1 x2 x3 x4
theorem F73_j1_ok (R : ER) (e : Env) : den Pg R (cd Try.f73 [1]) e (kont Pg R Try.f73) = (F73_j1 R (e 0) (e 1) (e 2) (e 3) (e 4)) := (den_join Pg R 0 (cd Try.f73 [1]) (cd Try.f73 [1,1]) e (kont Pg R Try.f73) (fun e => F73_j2 R (e 0) (e 1) (e 2) (e 3) (e 4)) _ (by kernel_rfl) (fun e => F73_j2_ok R e) (den_conv Pg R (pre 0 (cd Try.f73 [1])) (cd Try.f73 [1,0]) e (setN (kont Pg R Try.f73) (fun e => F73_j2 R (e 0) (e 1) (e 2) (e 3) (e 4))) _ (by kernel_rfl) (F73_j12_ok R e)))
def F73_j26 (R : ER) : WP :=
  R (.returned (.tuple ⟨[]⟩))
theorem F73_j26_ok (R : ER) (e : Env) : den Pg R (cd Try.f73 [0,1,0,1,1,1,1]) e (setN (kont Pg R Try.f73) (fun e => F73_j1 R (e 0) (e 1) (e 2) (e 3) (e 4))) = (F73_j26 R) := by kernel_rfl
def F73_j29 (R : ER) (k1 : V3) (x0 x10 x13 : Value) : WP :=
  drewV (
  pv (bin .add x13 (.int .i64 1)) fun v73 =>
  pv (bin .add x13 (.int .i64 1)) fun v74 =>
  pv (ixS 2 x0 v74) fun v75 =>
  ldN 2 v75 fun v76 =>
  pv (ixS 2 x0 x13) fun v77 =>
  ldN 2 v77 fun v78 =>
  pv (ixS 2 x0 x13) fun v79 =>
  mem fun w81 => stN 2 v79 v76 fun v80 =>
  pv (ixS 2 x0 v73) fun v82 =>
  mem fun w84 => stN 2 v82 v78 fun v83 =>
  pv (bin .add x13 (.int .i64 1)) fun v85 =>
  k1 x0 x10 v85)
theorem F73_j29_ok (R : ER) (k1 : V3) (e : Env) : den Pg R (cd Try.f73 [0,1,0,1,1,1,0,1,0,0,1]) e (setN (inB 2 (setN (setN (kont Pg R Try.f73) (fun e => F73_j1 R (e 0) (e 1) (e 2) (e 3) (e 4))) (fun e => F73_j26 R))) (fun e => k1 (e 0) (e 10) (e 13))) = (F73_j29 R k1 (e 0) (e 10) (e 13)) := by kernel_rfl
def F73_b4 (R : ER) (k1 : V3) (x0 x10 x13 : Value) : WP :=
  pv (bin .sub x10 (.int .i64 1)) fun v86 =>
  pv (bin .lss x13 v86) fun v87 =>
  cnd v87 (
   F73_j29 R k1 x0 x10 x13) (
   F73_j26 R)
theorem F73_b4_ok (R : ER) (k1 : V3) (e : Env) : den Pg R (cd Try.f73 [0,1,0,1,1,1,0,1,0,0]) e (setN (inB 2 (setN (setN (kont Pg R Try.f73) (fun e => F73_j1 R (e 0) (e 1) (e 2) (e 3) (e 4))) (fun e => F73_j26 R))) (fun e => k1 (e 0) (e 10) (e 13))) = (F73_b4 R k1 (e 0) (e 10) (e 13)) := (den_join Pg R 0 (cd Try.f73 [0,1,0,1,1,1,0,1,0,0]) (cd Try.f73 [0,1,0,1,1,1,0,1,0,0,1]) e (setN (inB 2 (setN (setN (kont Pg R Try.f73) (fun e => F73_j1 R (e 0) (e 1) (e 2) (e 3) (e 4))) (fun e => F73_j26 R))) (fun e => k1 (e 0) (e 10) (e 13))) (fun e => F73_j29 R k1 (e 0) (e 10) (e 13)) _ (by kernel_rfl) (fun e => F73_j29_ok R k1 e) (by kernel_rfl))
noncomputable def F73_l4 (R : ER) (n : Nat) : V3 := Nat.rec (motive := fun _ => V3) (fun _ _ _ => fun _ => False) (fun _ ih => fun x0 x10 x13 => F73_b4 R ih x0 x10 x13) n
theorem F73_l4_succ (R : ER) (n : Nat) (x0 x10 x13 : Value) : F73_l4 R (n + 1) x0 x10 x13 = F73_b4 R (F73_l4 R n) x0 x10 x13 := rfl
theorem F73_l4_ok (R : ER) : ∀ (n : Nat) (e : Env), iterL (den Pg R (cd Try.f73 [0,1,0,1,1,1,0,1,0,0])) n e (inB 2 (setN (setN (kont Pg R Try.f73) (fun e => F73_j1 R (e 0) (e 1) (e 2) (e 3) (e 4))) (fun e => F73_j26 R))) = F73_l4 R n (e 0) (e 10) (e 13) :=
  iterL_join (den Pg R (cd Try.f73 [0,1,0,1,1,1,0,1,0,0])) (inB 2 (setN (setN (kont Pg R Try.f73) (fun e => F73_j1 R (e 0) (e 1) (e 2) (e 3) (e 4))) (fun e => F73_j26 R))) (fun n e => F73_l4 R n (e 0) (e 10) (e 13)) (fun _ => rfl) (fun n e => (F73_b4_ok R (F73_l4 R n) e).trans (F73_l4_succ R n (e 0) (e 10) (e 13)).symm)
def F73_j28 (R : ER) (x0 x10 x13 : Value) : WP :=
  exN fun n => F73_l4 R n x0 x10 x13
theorem F73_j28_ok (R : ER) (e : Env) : den Pg R (cd Try.f73 [0,1,0,1,1,1,0,1]) e (setN (setN (kont Pg R Try.f73) (fun e => F73_j1 R (e 0) (e 1) (e 2) (e 3) (e 4))) (fun e => F73_j26 R)) = (F73_j28 R (e 0) (e 10) (e 13)) := (den_block Pg R (cd Try.f73 [0,1,0,1,1,1,0,1]) 2 (cd Try.f73 [0,1,0,1,1,1,0,1,0]) e (setN (setN (kont Pg R Try.f73) (fun e => F73_j1 R (e 0) (e 1) (e 2) (e 3) (e 4))) (fun e => F73_j26 R)) _ (by kernel_rfl) (den_loop Pg R (cd Try.f73 [0,1,0,1,1,1,0,1,0]) (cd Try.f73 [0,1,0,1,1,1,0,1,0,0]) e (inB 2 (setN (setN (kont Pg R Try.f73) (fun e => F73_j1 R (e 0) (e 1) (e 2) (e 3) (e 4))) (fun e => F73_j26 R))) (fun n e => F73_l4 R n (e 0) (e 10) (e 13)) _ (by kernel_rfl) (F73_l4_ok R) (by kernel_rfl)))
def F73_j27 (R : ER) (x0 x1 x10 : Value) : WP :=
  F73_j28 R x0 x10 x1
theorem F73_j27_ok (R : ER) (e : Env) : den Pg R (cd Try.f73 [0,1,0,1,1,1,0]) e (setN (setN (kont Pg R Try.f73) (fun e => F73_j1 R (e 0) (e 1) (e 2) (e 3) (e 4))) (fun e => F73_j26 R)) = (F73_j27 R (e 0) (e 1) (e 10)) := (den_join Pg R 0 (cd Try.f73 [0,1,0,1,1,1,0]) (cd Try.f73 [0,1,0,1,1,1,0,1]) e (setN (setN (kont Pg R Try.f73) (fun e => F73_j1 R (e 0) (e 1) (e 2) (e 3) (e 4))) (fun e => F73_j26 R)) (fun e => F73_j28 R (e 0) (e 10) (e 13)) _ (by kernel_rfl) (fun e => F73_j28_ok R e) (by kernel_rfl))
def F73_j25 (R : ER) (x0 x1 x10 : Value) : WP :=
  F73_j27 R x0 x1 x10
theorem F73_j25_ok (R : ER) (e : Env) : den Pg R (cd Try.f73 [0,1,0,1,1,1]) e (setN (kont Pg R Try.f73) (fun e => F73_j1 R (e 0) (e 1) (e 2) (e 3) (e 4))) = (F73_j25 R (e 0) (e 1) (e 10)) := (den_join Pg R 0 (cd Try.f73 [0,1,0,1,1,1]) (cd Try.f73 [0,1,0,1,1,1,1]) e (setN (kont Pg R Try.f73) (fun e => F73_j1 R (e 0) (e 1) (e 2) (e 3) (e 4))) (fun e => F73_j26 R) _ (by kernel_rfl) (fun e => F73_j26_ok R e) (den_conv Pg R (pre 0 (cd Try.f73 [0,1,0,1,1,1])) (cd Try.f73 [0,1,0,1,1,1,0]) e (setN (setN (kont Pg R Try.f73) (fun e => F73_j1 R (e 0) (e 1) (e 2) (e 3) (e 4))) (fun e => F73_j26 R)) _ (by kernel_rfl) (F73_j27_ok R e)))
def F73_j31 (R : ER) (k1 : V5) (x0 x1 x4 x10 x11 : Value) : WP :=
  pv (bin .add x10 x11) fun v88 =>
  pv (cvI .u64 v88) fun v89 =>
  pv (bin .shr v89 (.int .u64 1)) fun v90 =>
  pv (cvI .i64 v90) fun v91 =>
  drewV (
  pv (ixS 2 x0 v91) fun v92 =>
  ldN 2 v92 fun v93 =>
  pv (ixS 2 x0 x1) fun v94 =>
  ldN 2 v94 fun v95 =>
  mem fun w97 => calD Pg noR x4 ⟨[v93, v95]⟩ fun v96 =>
  pv (bin .lss v96 (.int .i64 0)) fun v98 =>
  cnd v98 (
   pv (bin .add v91 (.int .i64 1)) fun v99 =>
   k1 x0 x1 x4 v99 x11) (
   k1 x0 x1 x4 x10 v91))
theorem F73_j31_ok (R : ER) (k1 : V5) (e : Env) : den Pg R (cd Try.f73 [0,1,0,1,1,0,0,0,1]) e (setN (inB 0 (setN (setN (kont Pg R Try.f73) (fun e => F73_j1 R (e 0) (e 1) (e 2) (e 3) (e 4))) (fun e => F73_j25 R (e 0) (e 1) (e 10)))) (fun e => k1 (e 0) (e 1) (e 4) (e 10) (e 11))) = (F73_j31 R k1 (e 0) (e 1) (e 4) (e 10) (e 11)) := (den_block Pg R (cd Try.f73 [0,1,0,1,1,0,0,0,1]) 1 (cd Try.f73 [0,1,0,1,1,0,0,0,1,0]) e (setN (inB 0 (setN (setN (kont Pg R Try.f73) (fun e => F73_j1 R (e 0) (e 1) (e 2) (e 3) (e 4))) (fun e => F73_j25 R (e 0) (e 1) (e 10)))) (fun e => k1 (e 0) (e 1) (e 4) (e 10) (e 11))) _ (by kernel_rfl) (by kernel_rfl))
def F73_b5 (R : ER) (k1 : V5) (x0 x1 x4 x10 x11 : Value) : WP :=
  pv (bin .lss x10 x11) fun v100 =>
  cnd v100 (
   F73_j31 R k1 x0 x1 x4 x10 x11) (
   F73_j25 R x0 x1 x10)
theorem F73_b5_ok (R : ER) (k1 : V5) (e : Env) : den Pg R (cd Try.f73 [0,1,0,1,1,0,0,0]) e (setN (inB 0 (setN (setN (kont Pg R Try.f73) (fun e => F73_j1 R (e 0) (e 1) (e 2) (e 3) (e 4))) (fun e => F73_j25 R (e 0) (e 1) (e 10)))) (fun e => k1 (e 0) (e 1) (e 4) (e 10) (e 11))) = (F73_b5 R k1 (e 0) (e 1) (e 4) (e 10) (e 11)) := (den_join Pg R 0 (cd Try.f73 [0,1,0,1,1,0,0,0]) (cd Try.f73 [0,1,0,1,1,0,0,0,1]) e (setN (inB 0 (setN (setN (kont Pg R Try.f73) (fun e => F73_j1 R (e 0) (e 1) (e 2) (e 3) (e 4))) (fun e => F73_j25 R (e 0) (e 1) (e 10)))) (fun e => k1 (e 0) (e 1) (e 4) (e 10) (e 11))) (fun e => F73_j31 R k1 (e 0) (e 1) (e 4) (e 10) (e 11)) _ (by kernel_rfl) (fun e => F73_j31_ok R k1 e) (by kernel_rfl))
noncomputable def F73_l5 (R : ER) (n : Nat) : V5 := Nat.rec (motive := fun _ => V5) (fun _ _ _ _ _ => fun _ => False) (fun _ ih => fun x0 x1 x4 x10 x11 => F73_b5 R ih x0 x1 x4 x10 x11) n
theorem F73_l5_succ (R : ER) (n : Nat) (x0 x1 x4 x10 x11 : Value) : F73_l5 R (n + 1) x0 x1 x4 x10 x11 = F73_b5 R (F73_l5 R n) x0 x1 x4 x10 x11 := rfl
theorem F73_l5_ok (R : ER) : ∀ (n : Nat) (e : Env), iterL (den Pg R (cd Try.f73 [0,1,0,1,1,0,0,0])) n e (inB 0 (setN (setN (kont Pg R Try.f73) (fun e => F73_j1 R (e 0) (e 1) (e 2) (e 3) (e 4))) (fun e => F73_j25 R (e 0) (e 1) (e 10)))) = F73_l5 R n (e 0) (e 1) (e 4) (e 10) (e 11) :=
  iterL_join (den Pg R (cd Try.f73 [0,1,0,1,1,0,0,0])) (inB 0 (setN (setN (kont Pg R Try.f73) (fun e => F73_j1 R (e 0) (e 1) (e 2) (e 3) (e 4))) (fun e => F73_j25 R (e 0) (e 1) (e 10)))) (fun n e => F73_l5 R n (e 0) (e 1) (e 4) (e 10) (e 11)) (fun _ => rfl) (fun n e => (F73_b5_ok R (F73_l5 R n) e).trans (F73_l5_succ R n (e 0) (e 1) (e 4) (e 10) (e 11)).symm)
def F73_j30 (R : ER) (x0 x1 x4 x10 x11 : Value) : WP :=
  exN fun n => F73_l5 R n x0 x1 x4 x10 x11
theorem F73_j30_ok (R : ER) (e : Env) : den Pg R (cd Try.f73 [0,1,0,1,1,0]) e (setN (setN (kont Pg R Try.f73) (fun e => F73_j1 R (e 0) (e 1) (e 2) (e 3) (e 4))) (fun e => F73_j25 R (e 0) (e 1) (e 10))) = (F73_j30 R (e 0) (e 1) (e 4) (e 10) (e 11)) := (den_block Pg R (cd Try.f73 [0,1,0,1,1,0]) 0 (cd Try.f73 [0,1,0,1,1,0,0]) e (setN (setN (kont Pg R Try.f73) (fun e => F73_j1 R (e 0) (e 1) (e 2) (e 3) (e 4))) (fun e => F73_j25 R (e 0) (e 1) (e 10))) _ (by kernel_rfl) (den_loop Pg R (cd Try.f73 [0,1,0,1,1,0,0]) (cd Try.f73 [0,1,0,1,1,0,0,0]) e (inB 0 (setN (setN (kont Pg R Try.f73) (fun e => F73_j1 R (e 0) (e 1) (e 2) (e 3) (e 4))) (fun e => F73_j25 R (e 0) (e 1) (e 10)))) (fun n e => F73_l5 R n (e 0) (e 1) (e 4) (e 10) (e 11)) _ (by kernel_rfl) (F73_l5_ok R) (by kernel_rfl)))
def F73_j24 (R : ER) (x0 x1 x2 x3 x4 : Value) : WP :=
  F73_j30 R x0 x1 x4 x2 x3
theorem F73_j24_ok (R : ER) (e : Env) : den Pg R (cd Try.f73 [0,1,0]) e (setN (kont Pg R Try.f73) (fun e => F73_j1 R (e 0) (e 1) (e 2) (e 3) (e 4))) = (F73_j24 R (e 0) (e 1) (e 2) (e 3) (e 4)) := (den_join Pg R 2 (cd Try.f73 [0,1,0]) (cd Try.f73 [0,1,0,1,1,1]) e (setN (kont Pg R Try.f73) (fun e => F73_j1 R (e 0) (e 1) (e 2) (e 3) (e 4))) (fun e => F73_j25 R (e 0) (e 1) (e 10)) _ (by kernel_rfl) (fun e => F73_j25_ok R e) (den_join Pg R 1 (pre 2 (cd Try.f73 [0,1,0])) (cd Try.f73 [0,1,0,1,1,0]) e (setN (setN (kont Pg R Try.f73) (fun e => F73_j1 R (e 0) (e 1) (e 2) (e 3) (e 4))) (fun e => F73_j25 R (e 0) (e 1) (e 10))) (fun e => F73_j30 R (e 0) (e 1) (e 4) (e 10) (e 11)) _ (by kernel_rfl) (fun e => F73_j30_ok R e) (by kernel_rfl)))
def F73_j23 (R : ER) (x0 x1 x2 x3 x4 x28 : Value) : WP :=
  cnd x28 (F73_j24 R x0 x1 x2 x3 x4) (F73_j1 R x0 x1 x2 x3 x4)
theorem F73_j23_ok (R : ER) (e : Env) : den Pg R (cd Try.f73 [0,1]) e (setN (kont Pg R Try.f73) (fun e => F73_j1 R (e 0) (e 1) (e 2) (e 3) (e 4))) = (F73_j23 R (e 0) (e 1) (e 2) (e 3) (e 4) (e 28)) := (den_if Pg R (cd Try.f73 [0,1]) (cd Try.f73 [0,1,0]) (cd Try.f73 [0,1,1]) e (setN (kont Pg R Try.f73) (fun e => F73_j1 R (e 0) (e 1) (e 2) (e 3) (e 4))) (F73_j24 R (e 0) (e 1) (e 2) (e 3) (e 4)) _ _ (by kernel_rfl) (F73_j24_ok R e) rfl (by kernel_rfl))
def F73_j22 (R : ER) (x0 x1 x2 x3 x4 : Value) : WP :=
  pv (bin .sub x2 x1) fun v101 =>
  pv (bin .eql v101 (.int .i64 1)) fun v102 =>
  F73_j23 R x0 x1 x2 x3 x4 v102
theorem F73_j22_ok (R : ER) (e : Env) : den Pg R (cd Try.f73 [0]) e (setN (kont Pg R Try.f73) (fun e => F73_j1 R (e 0) (e 1) (e 2) (e 3) (e 4))) = (F73_j22 R (e 0) (e 1) (e 2) (e 3) (e 4)) := (den_join Pg R 0 (cd Try.f73 [0]) (cd Try.f73 [0,1]) e (setN (kont Pg R Try.f73) (fun e => F73_j1 R (e 0) (e 1) (e 2) (e 3) (e 4))) (fun e => F73_j23 R (e 0) (e 1) (e 2) (e 3) (e 4) (e 28)) _ (by kernel_rfl) (fun e => F73_j23_ok R e) (by kernel_rfl))
def F73 (R : ER) (x0 x1 x2 x3 x4 : Value) : WP :=
  F73_j22 R x0 x1 x2 x3 x4
theorem F73_den (R : ER) (x0 x1 x2 x3 x4 : Value) : den Pg R (cd Try.f73 []) (argsEnv [x0, x1, x2, x3, x4]) (kont Pg R Try.f73) = F73 R x0 x1 x2 x3 x4 :=
  have h : ∀ e, den Pg R (cd Try.f73 []) e (kont Pg R Try.f73) = F73 R (e 0) (e 1) (e 2) (e 3) (e 4) := fun e => (den_join Pg R 0 (cd Try.f73 []) (cd Try.f73 [1]) e (kont Pg R Try.f73) (fun e => F73_j1 R (e 0) (e 1) (e 2) (e 3) (e 4)) _ (by kernel_rfl) (fun e => F73_j1_ok R e) (den_conv Pg R (pre 0 (cd Try.f73 [])) (cd Try.f73 [0]) e (setN (kont Pg R Try.f73) (fun e => F73_j1 R (e 0) (e 1) (e 2) (e 3) (e 4))) _ (by kernel_rfl) (F73_j22_ok R e)))
  h _
theorem F73_calls {R : ER} {x0 x1 x2 x3 x4 : Value} {w : World} (h : F73 R x0 x1 x2 x3 x4 w) : Calls Pg 73 ⟨[x0, x1, x2, x3, x4]⟩ w R :=
  calls_of_den Try.func73 (by kernel_rfl) (by kernel_rfl) (F73_den R x0 x1 x2 x3 x4) h
/-! ### 84: cmp_isNaN_84 -/
def F84 (R : ER) (x0 : Value) : WP :=
  pv (bin .neq x0 x0) fun v1 =>
  R (.returned v1)
theorem F84_den (R : ER) (x0 : Value) : den Pg R (cd Try.f84 []) (argsEnv [x0]) (kont Pg R Try.f84) = F84 R x0 :=
  have h : ∀ e, den Pg R (cd Try.f84 []) e (kont Pg R Try.f84) = F84 R (e 0) := fun e => by kernel_rfl
  h _
theorem F84_calls {R : ER} {x0 : Value} {w : World} (h : F84 R x0 w) : Calls Pg 84 ⟨[x0]⟩ w R :=
  calls_of_den Try.func84 (by kernel_rfl) (by kernel_rfl) (F84_den R x0) h
/-! ### 85: slices_swapRangeCmpFunc -/
def F85_j2 (R : ER) (k1 : V5) (x0 x1 x2 x3 x10 : Value) : WP :=
  drewV (
  pv (bin .add x1 x10) fun v1 =>
  pv (bin .add x2 x10) fun v2 =>
  pv (bin .add x2 x10) fun v3 =>
  pv (ixS 2 x0 v3) fun v4 =>
  ldN 2 v4 fun v5 =>
  pv (bin .add x1 x10) fun v6 =>
  pv (ixS 2 x0 v6) fun v7 =>
  ldN 2 v7 fun v8 =>
  pv (ixS 2 x0 v1) fun v9 =>
  mem fun w11 => stN 2 v9 v5 fun v10 =>
  pv (ixS 2 x0 v2) fun v12 =>
  mem fun w14 => stN 2 v12 v8 fun v13 =>
  pv (bin .add x10 (.int .i64 1)) fun v15 =>
  k1 x0 x1 x2 x3 v15)
theorem F85_j2_ok (R : ER) (k1 : V5) (e : Env) : den Pg R (cd Try.f85 [1,0,0,1]) e (setN (inB 0 (kont Pg R Try.f85)) (fun e => k1 (e 0) (e 1) (e 2) (e 3) (e 10))) = (F85_j2 R k1 (e 0) (e 1) (e 2) (e 3) (e 10)) := by kernel_rfl
def F85_b1 (R : ER) (k1 : V5) (x0 x1 x2 x3 x10 : Value) : WP :=
  pv (bin .lss x10 x3) fun v16 =>
  cnd v16 (
   F85_j2 R k1 x0 x1 x2 x3 x10) (
   R (.returned (.tuple ⟨[]⟩)))
theorem F85_b1_ok (R : ER) (k1 : V5) (e : Env) : den Pg R (cd Try.f85 [1,0,0]) e (setN (inB 0 (kont Pg R Try.f85)) (fun e => k1 (e 0) (e 1) (e 2) (e 3) (e 10))) = (F85_b1 R k1 (e 0) (e 1) (e 2) (e 3) (e 10)) := (den_join Pg R 0 (cd Try.f85 [1,0,0]) (cd Try.f85 [1,0,0,1]) e (setN (inB 0 (kont Pg R Try.f85)) (fun e => k1 (e 0) (e 1) (e 2) (e 3) (e 10))) (fun e => F85_j2 R k1 (e 0) (e 1) (e 2) (e 3) (e 10)) _ (by kernel_rfl) (fun e => F85_j2_ok R k1 e) (by kernel_rfl))
noncomputable def F85_l1 (R : ER) (n : Nat) : V5 := Nat.rec (motive := fun _ => V5) (fun _ _ _ _ _ => fun _ => False) (fun _ ih => fun x0 x1 x2 x3 x10 => F85_b1 R ih x0 x1 x2 x3 x10) n
theorem F85_l1_succ (R : ER) (n : Nat) (x0 x1 x2 x3 x10 : Value) : F85_l1 R (n + 1) x0 x1 x2 x3 x10 = F85_b1 R (F85_l1 R n) x0 x1 x2 x3 x10 := rfl
theorem F85_l1_ok (R : ER) : ∀ (n : Nat) (e : Env), iterL (den Pg R (cd Try.f85 [1,0,0])) n e (inB 0 (kont Pg R Try.f85)) = F85_l1 R n (e 0) (e 1) (e 2) (e 3) (e 10) :=
  iterL_join (den Pg R (cd Try.f85 [1,0,0])) (inB 0 (kont Pg R Try.f85)) (fun n e => F85_l1 R n (e 0) (e 1) (e 2) (e 3) (e 10)) (fun _ => rfl) (fun n e => (F85_b1_ok R (F85_l1 R n) e).trans (F85_l1_succ R n (e 0) (e 1) (e 2) (e 3) (e 10)).symm)
def F85_j1 (R : ER) (x0 x1 x2 x3 x10 : Value) : WP :=
  exN fun n => F85_l1 R n x0 x1 x2 x3 x10
theorem F85_j1_ok (R : ER) (e : Env) : den Pg R (cd Try.f85 [1]) e (kont Pg R Try.f85) = (F85_j1 R (e 0) (e 1) (e 2) (e 3) (e 10)) := (den_block Pg R (cd Try.f85 [1]) 0 (cd Try.f85 [1,0]) e (kont Pg R Try.f85) _ (by kernel_rfl) (den_loop Pg R (cd Try.f85 [1,0]) (cd Try.f85 [1,0,0]) e (inB 0 (kont Pg R Try.f85)) (fun n e => F85_l1 R n (e 0) (e 1) (e 2) (e 3) (e 10)) _ (by kernel_rfl) (F85_l1_ok R) (by kernel_rfl)))
def F85 (R : ER) (x0 x1 x2 x3 x4 : Value) : WP :=
  F85_j1 R x0 x1 x2 x3 (.int .i64 0)
theorem F85_den (R : ER) (x0 x1 x2 x3 x4 : Value) : den Pg R (cd Try.f85 []) (argsEnv [x0, x1, x2, x3, x4]) (kont Pg R Try.f85) = F85 R x0 x1 x2 x3 x4 :=
  have h : ∀ e, den Pg R (cd Try.f85 []) e (kont Pg R Try.f85) = F85 R (e 0) (e 1) (e 2) (e 3) (e 4) := fun e => (den_join Pg R 0 (cd Try.f85 []) (cd Try.f85 [1]) e (kont Pg R Try.f85) (fun e => F85_j1 R (e 0) (e 1) (e 2) (e 3) (e 10)) _ (by kernel_rfl) (fun e => F85_j1_ok R e) (by kernel_rfl))
  h _
theorem F85_calls {R : ER} {x0 x1 x2 x3 x4 : Value} {w : World} (h : F85 R x0 x1 x2 x3 x4 w) : Calls Pg 85 ⟨[x0, x1, x2, x3, x4]⟩ w R :=
  calls_of_den Try.func85 (by kernel_rfl) (by kernel_rfl) (F85_den R x0 x1 x2 x3 x4) h
/-! ### 86: slices_rotateCmpFunc_86 -/
def F86_j1 (R : ER) (x0 x2 x4 x10 : Value) : WP :=
  pv (bin .sub x2 x10) fun v1 =>
  cal Pg R 92 ⟨[x0, v1, x2, x10, x4]⟩ fun v2 =>
  R (.returned (.tuple ⟨[]⟩))
theorem F86_j1_ok (R : ER) (e : Env) : den Pg R (cd Try.f86 [1,1,1]) e (kont Pg R Try.f86) = (F86_j1 R (e 0) (e 2) (e 4) (e 10)) := by kernel_rfl
def F86_j5 (R : ER) (k1 : V5) (x0 x2 x4 x10 x11 : Value) : WP :=
  pv (bin .sub x2 x10) fun v3 =>
  cal Pg R 92 ⟨[x0, v3, x2, x11, x4]⟩ fun v4 =>
  pv (bin .sub x10 x11) fun v5 =>
  k1 x0 x2 x4 v5 x11
theorem F86_j5_ok (R : ER) (k1 : V5) (e : Env) : den Pg R (cd Try.f86 [1,1,0,0,0,1,0,1,0]) e (inB 1 (setN (inB 0 (setN (kont Pg R Try.f86) (fun e => F86_j1 R (e 0) (e 2) (e 4) (e 10)))) (fun e => k1 (e 0) (e 2) (e 4) (e 10) (e 11)))) = (F86_j5 R k1 (e 0) (e 2) (e 4) (e 10) (e 11)) := by kernel_rfl
def F86_j6 (R : ER) (k1 : V5) (x0 x2 x4 x10 x11 : Value) : WP :=
  pv (bin .sub x2 x10) fun v6 =>
  pv (bin .add x2 x11) fun v7 =>
  pv (bin .sub v7 x10) fun v8 =>
  cal Pg R 92 ⟨[x0, v6, v8, x10, x4]⟩ fun v9 =>
  pv (bin .sub x11 x10) fun v10 =>
  k1 x0 x2 x4 x10 v10
theorem F86_j6_ok (R : ER) (k1 : V5) (e : Env) : den Pg R (cd Try.f86 [1,1,0,0,0,1,0,1,1]) e (inB 1 (setN (inB 0 (setN (kont Pg R Try.f86) (fun e => F86_j1 R (e 0) (e 2) (e 4) (e 10)))) (fun e => k1 (e 0) (e 2) (e 4) (e 10) (e 11)))) = (F86_j6 R k1 (e 0) (e 2) (e 4) (e 10) (e 11)) := by kernel_rfl
def F86_j4 (R : ER) (k1 : V5) (x0 x2 x4 x10 x11 x23 : Value) : WP :=
  cnd x23 (F86_j5 R k1 x0 x2 x4 x10 x11) (F86_j6 R k1 x0 x2 x4 x10 x11)
theorem F86_j4_ok (R : ER) (k1 : V5) (e : Env) : den Pg R (cd Try.f86 [1,1,0,0,0,1,0,1]) e (inB 1 (setN (inB 0 (setN (kont Pg R Try.f86) (fun e => F86_j1 R (e 0) (e 2) (e 4) (e 10)))) (fun e => k1 (e 0) (e 2) (e 4) (e 10) (e 11)))) = (F86_j4 R k1 (e 0) (e 2) (e 4) (e 10) (e 11) (e 23)) := (den_if Pg R (cd Try.f86 [1,1,0,0,0,1,0,1]) (cd Try.f86 [1,1,0,0,0,1,0,1,0]) (cd Try.f86 [1,1,0,0,0,1,0,1,1]) e (inB 1 (setN (inB 0 (setN (kont Pg R Try.f86) (fun e => F86_j1 R (e 0) (e 2) (e 4) (e 10)))) (fun e => k1 (e 0) (e 2) (e 4) (e 10) (e 11)))) (F86_j5 R k1 (e 0) (e 2) (e 4) (e 10) (e 11)) (F86_j6 R k1 (e 0) (e 2) (e 4) (e 10) (e 11)) _ (by kernel_rfl) (F86_j5_ok R k1 e) (F86_j6_ok R k1 e) (by kernel_rfl))
def F86_j3 (R : ER) (k1 : V5) (x0 x2 x4 x10 x11 : Value) : WP :=
  pv (bin .gtr x10 x11) fun v11 =>
  F86_j4 R k1 x0 x2 x4 x10 x11 v11
theorem F86_j3_ok (R : ER) (k1 : V5) (e : Env) : den Pg R (cd Try.f86 [1,1,0,0,0,1]) e (setN (inB 0 (setN (kont Pg R Try.f86) (fun e => F86_j1 R (e 0) (e 2) (e 4) (e 10)))) (fun e => k1 (e 0) (e 2) (e 4) (e 10) (e 11))) = (F86_j3 R k1 (e 0) (e 2) (e 4) (e 10) (e 11)) := (den_block Pg R (cd Try.f86 [1,1,0,0,0,1]) 1 (cd Try.f86 [1,1,0,0,0,1,0]) e (setN (inB 0 (setN (kont Pg R Try.f86) (fun e => F86_j1 R (e 0) (e 2) (e 4) (e 10)))) (fun e => k1 (e 0) (e 2) (e 4) (e 10) (e 11))) _ (by kernel_rfl) (den_join Pg R 0 (cd Try.f86 [1,1,0,0,0,1,0]) (cd Try.f86 [1,1,0,0,0,1,0,1]) e (inB 1 (setN (inB 0 (setN (kont Pg R Try.f86) (fun e => F86_j1 R (e 0) (e 2) (e 4) (e 10)))) (fun e => k1 (e 0) (e 2) (e 4) (e 10) (e 11)))) (fun e => F86_j4 R k1 (e 0) (e 2) (e 4) (e 10) (e 11) (e 23)) _ (by kernel_rfl) (fun e => F86_j4_ok R k1 e) (by kernel_rfl)))
def F86_b1 (R : ER) (k1 : V5) (x0 x2 x4 x10 x11 : Value) : WP :=
  pv (bin .neq x10 x11) fun v12 =>
  cnd v12 (
   F86_j3 R k1 x0 x2 x4 x10 x11) (
   F86_j1 R x0 x2 x4 x10)
theorem F86_b1_ok (R : ER) (k1 : V5) (e : Env) : den Pg R (cd Try.f86 [1,1,0,0,0]) e (setN (inB 0 (setN (kont Pg R Try.f86) (fun e => F86_j1 R (e 0) (e 2) (e 4) (e 10)))) (fun e => k1 (e 0) (e 2) (e 4) (e 10) (e 11))) = (F86_b1 R k1 (e 0) (e 2) (e 4) (e 10) (e 11)) := (den_join Pg R 0 (cd Try.f86 [1,1,0,0,0]) (cd Try.f86 [1,1,0,0,0,1]) e (setN (inB 0 (setN (kont Pg R Try.f86) (fun e => F86_j1 R (e 0) (e 2) (e 4) (e 10)))) (fun e => k1 (e 0) (e 2) (e 4) (e 10) (e 11))) (fun e => F86_j3 R k1 (e 0) (e 2) (e 4) (e 10) (e 11)) _ (by kernel_rfl) (fun e => F86_j3_ok R k1 e) (by kernel_rfl))
noncomputable def F86_l1 (R : ER) (n : Nat) : V5 := Nat.rec (motive := fun _ => V5) (fun _ _ _ _ _ => fun _ => False) (fun _ ih => fun x0 x2 x4 x10 x11 => F86_b1 R ih x0 x2 x4 x10 x11) n
theorem F86_l1_succ (R : ER) (n : Nat) (x0 x2 x4 x10 x11 : Value) : F86_l1 R (n + 1) x0 x2 x4 x10 x11 = F86_b1 R (F86_l1 R n) x0 x2 x4 x10 x11 := rfl
theorem F86_l1_ok (R : ER) : ∀ (n : Nat) (e : Env), iterL (den Pg R (cd Try.f86 [1,1,0,0,0])) n e (inB 0 (setN (kont Pg R Try.f86) (fun e => F86_j1 R (e 0) (e 2) (e 4) (e 10)))) = F86_l1 R n (e 0) (e 2) (e 4) (e 10) (e 11) :=
  iterL_join (den Pg R (cd Try.f86 [1,1,0,0,0])) (inB 0 (setN (kont Pg R Try.f86) (fun e => F86_j1 R (e 0) (e 2) (e 4) (e 10)))) (fun n e => F86_l1 R n (e 0) (e 2) (e 4) (e 10) (e 11)) (fun _ => rfl) (fun n e => (F86_b1_ok R (F86_l1 R n) e).trans (F86_l1_succ R n (e 0) (e 2) (e 4) (e 10) (e 11)).symm)
def F86_j2 (R : ER) (x0 x2 x4 x10 x11 : Value) : WP :=
  exN fun n => F86_l1 R n x0 x2 x4 x10 x11
theorem F86_j2_ok (R : ER) (e : Env) : den Pg R (cd Try.f86 [1,1,0]) e (setN (kont Pg R Try.f86) (fun e => F86_j1 R (e 0) (e 2) (e 4) (e 10))) = (F86_j2 R (e 0) (e 2) (e 4) (e 10) (e 11)) := (den_block Pg R (cd Try.f86 [1,1,0]) 0 (cd Try.f86 [1,1,0,0]) e (setN (kont Pg R Try.f86) (fun e => F86_j1 R (e 0) (e 2) (e 4) (e 10))) _ (by kernel_rfl) (den_loop Pg R (cd Try.f86 [1,1,0,0]) (cd Try.f86 [1,1,0,0,0]) e (inB 0 (setN (kont Pg R Try.f86) (fun e => F86_j1 R (e 0) (e 2) (e 4) (e 10)))) (fun n e => F86_l1 R n (e 0) (e 2) (e 4) (e 10) (e 11)) _ (by kernel_rfl) (F86_l1_ok R) (by kernel_rfl)))
def F86 (R : ER) (x0 x1 x2 x3 x4 : Value) : WP :=
  pv (bin .sub x2 x1) fun v13 =>
  pv (bin .sub x3 x2) fun v14 =>
  F86_j2 R x0 x2 x4 v13 v14
theorem F86_den (R : ER) (x0 x1 x2 x3 x4 : Value) : den Pg R (cd Try.f86 []) (argsEnv [x0, x1, x2, x3, x4]) (kont Pg R Try.f86) = F86 R x0 x1 x2 x3 x4 :=
  have h : ∀ e, den Pg R (cd Try.f86 []) e (kont Pg R Try.f86) = F86 R (e 0) (e 1) (e 2) (e 3) (e 4) := fun e => (den_join Pg R 2 (cd Try.f86 []) (cd Try.f86 [1,1,1]) e (kont Pg R Try.f86) (fun e => F86_j1 R (e 0) (e 2) (e 4) (e 10)) _ (by kernel_rfl) (fun e => F86_j1_ok R e) (den_join Pg R 1 (pre 2 (cd Try.f86 [])) (cd Try.f86 [1,1,0]) e (setN (kont Pg R Try.f86) (fun e => F86_j1 R (e 0) (e 2) (e 4) (e 10))) (fun e => F86_j2 R (e 0) (e 2) (e 4) (e 10) (e 11)) _ (by kernel_rfl) (fun e => F86_j2_ok R e) (by kernel_rfl)))
  h _
theorem F86_calls {R : ER} {x0 x1 x2 x3 x4 : Value} {w : World} (h : F86 R x0 x1 x2 x3 x4 w) : Calls Pg 86 ⟨[x0, x1, x2, x3, x4]⟩ w R :=
  calls_of_den Try.func86 (by kernel_rfl) (by kernel_rfl) (F86_den R x0 x1 x2 x3 x4) h
/-! ### 92: slices_swapRangeCmpFunc_92 -/
def F92_j2 (R : ER) (k1 : V5) (x0 x1 x2 x3 x10 : Value) : WP :=
  drewV (
  pv (bin .add x1 x10) fun v1 =>
  pv (bin .add x2 x10) fun v2 =>
  pv (bin .add x2 x10) fun v3 =>
  pv (ixS 2 x0 v3) fun v4 =>
  ldN 2 v4 fun v5 =>
  pv (bin .add x1 x10) fun v6 =>
  pv (ixS 2 x0 v6) fun v7 =>
  ldN 2 v7 fun v8 =>
  pv (ixS 2 x0 v1) fun v9 =>
  mem fun w11 => stN 2 v9 v5 fun v10 =>
  pv (ixS 2 x0 v2) fun v12 =>
  mem fun w14 => stN 2 v12 v8 fun v13 =>
  pv (bin .add x10 (.int .i64 1)) fun v15 =>
  k1 x0 x1 x2 x3 v15)
theorem F92_j2_ok (R : ER) (k1 : V5) (e : Env) : den Pg R (cd Try.f92 [1,0,0,1]) e (setN (inB 0 (kont Pg R Try.f92)) (fun e => k1 (e 0) (e 1) (e 2) (e 3) (e 10))) = (F92_j2 R k1 (e 0) (e 1) (e 2) (e 3) (e 10)) := by kernel_rfl
def F92_b1 (R : ER) (k1 : V5) (x0 x1 x2 x3 x10 : Value) : WP :=
  pv (bin .lss x10 x3) fun v16 =>
  cnd v16 (
   F92_j2 R k1 x0 x1 x2 x3 x10) (
   R (.returned (.tuple ⟨[]⟩)))
theorem F92_b1_ok (R : ER) (k1 : V5) (e : Env) : den Pg R (cd Try.f92 [1,0,0]) e (setN (inB 0 (kont Pg R Try.f92)) (fun e => k1 (e 0) (e 1) (e 2) (e 3) (e 10))) = (F92_b1 R k1 (e 0) (e 1) (e 2) (e 3) (e 10)) := (den_join Pg R 0 (cd Try.f92 [1,0,0]) (cd Try.f92 [1,0,0,1]) e (setN (inB 0 (kont Pg R Try.f92)) (fun e => k1 (e 0) (e 1) (e 2) (e 3) (e 10))) (fun e => F92_j2 R k1 (e 0) (e 1) (e 2) (e 3) (e 10)) _ (by kernel_rfl) (fun e => F92_j2_ok R k1 e) (by kernel_rfl))
noncomputable def F92_l1 (R : ER) (n : Nat) : V5 := Nat.rec (motive := fun _ => V5) (fun _ _ _ _ _ => fun _ => False) (fun _ ih => fun x0 x1 x2 x3 x10 => F92_b1 R ih x0 x1 x2 x3 x10) n
theorem F92_l1_succ (R : ER) (n : Nat) (x0 x1 x2 x3 x10 : Value) : F92_l1 R (n + 1) x0 x1 x2 x3 x10 = F92_b1 R (F92_l1 R n) x0 x1 x2 x3 x10 := rfl
theorem F92_l1_ok (R : ER) : ∀ (n : Nat) (e : Env), iterL (den Pg R (cd Try.f92 [1,0,0])) n e (inB 0 (kont Pg R Try.f92)) = F92_l1 R n (e 0) (e 1) (e 2) (e 3) (e 10) :=
  iterL_join (den Pg R (cd Try.f92 [1,0,0])) (inB 0 (kont Pg R Try.f92)) (fun n e => F92_l1 R n (e 0) (e 1) (e 2) (e 3) (e 10)) (fun _ => rfl) (fun n e => (F92_b1_ok R (F92_l1 R n) e).trans (F92_l1_succ R n (e 0) (e 1) (e 2) (e 3) (e 10)).symm)
def F92_j1 (R : ER) (x0 x1 x2 x3 x10 : Value) : WP :=
  exN fun n => F92_l1 R n x0 x1 x2 x3 x10
theorem F92_j1_ok (R : ER) (e : Env) : den Pg R (cd Try.f92 [1]) e (kont Pg R Try.f92) = (F92_j1 R (e 0) (e 1) (e 2) (e 3) (e 10)) := (den_block Pg R (cd Try.f92 [1]) 0 (cd Try.f92 [1,0]) e (kont Pg R Try.f92) _ (by kernel_rfl) (den_loop Pg R (cd Try.f92 [1,0]) (cd Try.f92 [1,0,0]) e (inB 0 (kont Pg R Try.f92)) (fun n e => F92_l1 R n (e 0) (e 1) (e 2) (e 3) (e 10)) _ (by kernel_rfl) (F92_l1_ok R) (by kernel_rfl)))
def F92 (R : ER) (x0 x1 x2 x3 x4 : Value) : WP :=
  F92_j1 R x0 x1 x2 x3 (.int .i64 0)
theorem F92_den (R : ER) (x0 x1 x2 x3 x4 : Value) : den Pg R (cd Try.f92 []) (argsEnv [x0, x1, x2, x3, x4]) (kont Pg R Try.f92) = F92 R x0 x1 x2 x3 x4 :=
  have h : ∀ e, den Pg R (cd Try.f92 []) e (kont Pg R Try.f92) = F92 R (e 0) (e 1) (e 2) (e 3) (e 4) := fun e => (den_join Pg R 0 (cd Try.f92 []) (cd Try.f92 [1]) e (kont Pg R Try.f92) (fun e => F92_j1 R (e 0) (e 1) (e 2) (e 3) (e 10)) _ (by kernel_rfl) (fun e => F92_j1_ok R e) (by kernel_rfl))
  h _
theorem F92_calls {R : ER} {x0 x1 x2 x3 x4 : Value} {w : World} (h : F92 R x0 x1 x2 x3 x4 w) : Calls Pg 92 ⟨[x0, x1, x2, x3, x4]⟩ w R :=
  calls_of_den Try.func92 (by kernel_rfl) (by kernel_rfl) (F92_den R x0 x1 x2 x3 x4) h
/-! ### 110: mqueue_messages_Less -/
def F110 (R : ER) (x0 x1 x2 : Value) : WP :=
  drewV (
  pv (ixS 3 x0 x1) fun v1 =>
  ldN 3 v1 fun v2 =>
  pv (ixS 3 x0 x2) fun v3 =>
  ldN 3 v3 fun v4 =>
  mem fun w6 => cal Pg noR 45 ⟨[v2, v4]⟩ fun v5 =>
  pv (bin .lss v5 (.int .i64 0)) fun v7 =>
  R (.returned v7))
theorem F110_den (R : ER) (x0 x1 x2 : Value) : den Pg R (cd Try.f110 []) (argsEnv [x0, x1, x2]) (kont Pg R Try.f110) = F110 R x0 x1 x2 :=
  have h : ∀ e, den Pg R (cd Try.f110 []) e (kont Pg R Try.f110) = F110 R (e 0) (e 1) (e 2) := fun e => by kernel_rfl
  h _
theorem F110_calls {R : ER} {x0 x1 x2 : Value} {w : World} (h : F110 R x0 x1 x2 w) : Calls Pg 110 ⟨[x0, x1, x2]⟩ w R :=
  calls_of_den Try.func110 (by kernel_rfl) (by kernel_rfl) (F110_den R x0 x1 x2) h
/-! ### 111: mqueue_messages_Pop -/
def F111 (R : ER) (x0 : Value) : WP :=
  drewV (
  pv (nilO x0) fun v1 =>
  ld1 v1 fun v2 =>
  pv (nilO x0) fun v3 =>
  ld1 v3 fun v4 =>
  pv (lenS v4) fun v5 =>
  pv (bin .sub v5 (.int .i64 1)) fun v6 =>
  pv (ixS 3 v2 v6) fun v7 =>
  ldN 3 v7 fun v8 =>
  mem fun w10 => al Pg 93 fun v9 =>
  rdN 3 v7 v8 <|
  rd1 v3 v4 <|
  rd1 v1 v2 <|
  mem fun w12 => stN 3 v9 v8 fun v11 =>
  drewV (
  pv (nilO x0) fun v13 =>
  ld1 v13 fun v14 =>
  pv (nilO x0) fun v15 =>
  ld1 v15 fun v16 =>
  pv (lenS v16) fun v17 =>
  pv (bin .sub v17 (.int .i64 1)) fun v18 =>
  pv (slS 3 v14 none (some v18)) fun v19 =>
  pv (nilO x0) fun v20 =>
  mem fun w22 => st1 v20 v19 fun v21 =>
  ldN 3 v9 fun v23 =>
  R (.returned (.iface 93 v23))))
theorem F111_den (R : ER) (x0 : Value) : den Pg R (cd Try.f111 []) (argsEnv [x0]) (kont Pg R Try.f111) = F111 R x0 :=
  have h : ∀ e, den Pg R (cd Try.f111 []) e (kont Pg R Try.f111) = F111 R (e 0) := fun e => by kernel_rfl
  h _
theorem F111_calls {R : ER} {x0 : Value} {w : World} (h : F111 R x0 w) : Calls Pg 111 ⟨[x0]⟩ w R :=
  calls_of_den Try.func111 (by kernel_rfl) (by kernel_rfl) (F111_den R x0) h
/-! ### 112: mqueue_messages_Push -/
def F112 (R : ER) (x0 x1 : Value) : WP :=
  drewV (
  pv (nilO x0) fun v1 =>
  ld1 v1 fun v2 =>
  mem fun w4 => valV Pg noR (Instr.typeAssert x1 20 93 false) fun v3 =>
  rd1 v1 v2 <|
  mem fun w6 => valV Pg noR (Instr.buildSlice 70 1 ⟨[(0, v3)]⟩) fun v5 =>
  rd1 v1 v2 <|
  mem fun w8 => blt Pg noR .append ⟨[70,70]⟩ 70 ⟨[false, false]⟩ ⟨[v2, v5]⟩ fun v7 =>
  pv (nilO x0) fun v9 =>
  mem fun w11 => st1 v9 v7 fun v10 =>
  R (.returned (.tuple ⟨[]⟩)))
theorem F112_den (R : ER) (x0 x1 : Value) : den Pg R (cd Try.f112 []) (argsEnv [x0, x1]) (kont Pg R Try.f112) = F112 R x0 x1 :=
  have h : ∀ e, den Pg R (cd Try.f112 []) e (kont Pg R Try.f112) = F112 R (e 0) (e 1) := fun e => by kernel_rfl
  h _
theorem F112_calls {R : ER} {x0 x1 : Value} {w : World} (h : F112 R x0 x1 w) : Calls Pg 112 ⟨[x0, x1]⟩ w R :=
  calls_of_den Try.func112 (by kernel_rfl) (by kernel_rfl) (F112_den R x0 x1) h
/-! ### 113: mqueue_messages_Swap -/
def F113 (R : ER) (x0 x1 x2 : Value) : WP :=
  drewV (
  pv (ixS 3 x0 x2) fun v1 =>
  ldN 3 v1 fun v2 =>
  pv (ixS 3 x0 x1) fun v3 =>
  ldN 3 v3 fun v4 =>
  pv (ixS 3 x0 x1) fun v5 =>
  mem fun w7 => stN 3 v5 v2 fun v6 =>
  pv (ixS 3 x0 x2) fun v8 =>
  mem fun w10 => stN 3 v8 v4 fun v9 =>
  R (.returned (.tuple ⟨[]⟩)))
theorem F113_den (R : ER) (x0 x1 x2 : Value) : den Pg R (cd Try.f113 []) (argsEnv [x0, x1, x2]) (kont Pg R Try.f113) = F113 R x0 x1 x2 :=
  have h : ∀ e, den Pg R (cd Try.f113 []) e (kont Pg R Try.f113) = F113 R (e 0) (e 1) (e 2) := fun e => by kernel_rfl
  h _
theorem F113_calls {R : ER} {x0 x1 x2 : Value} {w : World} (h : F113 R x0 x1 x2 w) : Calls Pg 113 ⟨[x0, x1, x2]⟩ w R :=
  calls_of_den Try.func113 (by kernel_rfl) (by kernel_rfl) (F113_den R x0 x1 x2) h
end Go.Proofs.Ythcekppbbanfeaa.Den
