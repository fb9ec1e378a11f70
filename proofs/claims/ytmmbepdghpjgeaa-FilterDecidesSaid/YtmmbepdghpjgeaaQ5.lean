/- Printed by a program of this session: what the functions mean, and that the model means just that. Conditions: none. -/
import Derived.Test.YtmmbepdghpjgeaaQ4
section
set_option linter.unusedVariables false
set_option maxRecDepth 100000
namespace Go.Proofs.Ytmmbepdghpjgeaa.Den
open Go
/-! ### 32: slices_Equal -/
def F32_j2 (R : ER) : WP :=
  R (.returned (.bool true))
theorem F32_j2_ok (R : ER) (e : Env) : den Pg R (cd Try.f32 [1,1,1]) e (kont Pg R Try.f32) = (F32_j2 R) := by kernel_rfl
def F32_j5 (R : ER) (k1 : V4) (x0 x1 x12 x13 : Value) : WP :=
  drewV (
  pv (ixS 1 x0 x13) fun v1 =>
  ld1 v1 fun v2 =>
  pv (ixS 1 x1 x13) fun v3 =>
  ld1 v3 fun v4 =>
  pv (bin .neq v2 v4) fun v5 =>
  cnd v5 (
   R (.returned (.bool false))) (
   pv (bin .add x13 (.int .i64 1)) fun v6 =>
  k1 x0 x1 x12 v6))
theorem F32_j5_ok (R : ER) (k1 : V4) (e : Env) : den Pg R (cd Try.f32 [1,1,0,1,0,0,1,1]) e (setN (inB 0 (setN (kont Pg R Try.f32) (fun e => F32_j2 R))) (fun e => k1 (e 0) (e 1) (e 12) (e 13))) = (F32_j5 R k1 (e 0) (e 1) (e 12) (e 13)) := (by kernel_rfl)
def F32_b1 (R : ER) (k1 : V4) (x0 x1 x12 x13 : Value) : WP :=
  pv (bin .lss x13 x12) fun v7 =>
  cnd v7 (
   F32_j5 R k1 x0 x1 x12 x13) (
   F32_j2 R)
theorem F32_b1_ok (R : ER) (k1 : V4) (e : Env) : den Pg R (cd Try.f32 [1,1,0,1,0,0]) e (setN (inB 0 (setN (kont Pg R Try.f32) (fun e => F32_j2 R))) (fun e => k1 (e 0) (e 1) (e 12) (e 13))) = (F32_b1 R k1 (e 0) (e 1) (e 12) (e 13)) := (den_join Pg R 1 (cd Try.f32 [1,1,0,1,0,0]) (cd Try.f32 [1,1,0,1,0,0,1,1]) e (setN (inB 0 (setN (kont Pg R Try.f32) (fun e => F32_j2 R))) (fun e => k1 (e 0) (e 1) (e 12) (e 13))) (fun e => F32_j5 R k1 (e 0) (e 1) (e 12) (e 13)) _ (by kernel_rfl) (fun e => F32_j5_ok R k1 e) (by kernel_rfl))
noncomputable def F32_l1 (R : ER) (n : Nat) : V4 := Nat.rec (motive := fun _ => V4) (fun _ _ _ _ => fun _ => False) (fun _ ih => fun x0 x1 x12 x13 => F32_b1 R ih x0 x1 x12 x13) n
theorem F32_l1_succ (R : ER) (n : Nat) (x0 x1 x12 x13 : Value) : F32_l1 R (n + 1) x0 x1 x12 x13 = F32_b1 R (F32_l1 R n) x0 x1 x12 x13 := rfl
theorem F32_l1_ok (R : ER) : ∀ (n : Nat) (e : Env), iterL (den Pg R (cd Try.f32 [1,1,0,1,0,0])) n e (inB 0 (setN (kont Pg R Try.f32) (fun e => F32_j2 R))) = F32_l1 R n (e 0) (e 1) (e 12) (e 13) :=
  iterL_join (den Pg R (cd Try.f32 [1,1,0,1,0,0])) (inB 0 (setN (kont Pg R Try.f32) (fun e => F32_j2 R))) (fun n e => F32_l1 R n (e 0) (e 1) (e 12) (e 13)) (fun _ => rfl) (fun n e => (F32_b1_ok R (F32_l1 R n) e).trans (F32_l1_succ R n (e 0) (e 1) (e 12) (e 13)).symm)
def F32_j4 (R : ER) (x0 x1 x12 x13 : Value) : WP :=
  exN fun n => F32_l1 R n x0 x1 x12 x13
theorem F32_j4_ok (R : ER) (e : Env) : den Pg R (cd Try.f32 [1,1,0,1]) e (setN (kont Pg R Try.f32) (fun e => F32_j2 R)) = (F32_j4 R (e 0) (e 1) (e 12) (e 13)) := (den_block Pg R (cd Try.f32 [1,1,0,1]) 0 (cd Try.f32 [1,1,0,1,0]) e (setN (kont Pg R Try.f32) (fun e => F32_j2 R)) _ (by kernel_rfl) (den_loop Pg R (cd Try.f32 [1,1,0,1,0]) (cd Try.f32 [1,1,0,1,0,0]) e (inB 0 (setN (kont Pg R Try.f32) (fun e => F32_j2 R))) (fun n e => F32_l1 R n (e 0) (e 1) (e 12) (e 13)) _ (by kernel_rfl) (F32_l1_ok R) (by kernel_rfl)))
def F32_j3 (R : ER) (x0 x1 : Value) : WP :=
  pv (lenS x0) fun v8 =>
  F32_j4 R x0 x1 v8 (.int .i64 0)
theorem F32_j3_ok (R : ER) (e : Env) : den Pg R (cd Try.f32 [1,1,0]) e (setN (kont Pg R Try.f32) (fun e => F32_j2 R)) = (F32_j3 R (e 0) (e 1)) := (den_join Pg R 0 (cd Try.f32 [1,1,0]) (cd Try.f32 [1,1,0,1]) e (setN (kont Pg R Try.f32) (fun e => F32_j2 R)) (fun e => F32_j4 R (e 0) (e 1) (e 12) (e 13)) _ (by kernel_rfl) (fun e => F32_j4_ok R e) (by kernel_rfl))
def F32_j1 (R : ER) (x0 x1 : Value) : WP :=
  F32_j3 R x0 x1
theorem F32_j1_ok (R : ER) (e : Env) : den Pg R (cd Try.f32 [1,1]) e (kont Pg R Try.f32) = (F32_j1 R (e 0) (e 1)) := (den_join Pg R 0 (cd Try.f32 [1,1]) (cd Try.f32 [1,1,1]) e (kont Pg R Try.f32) (fun e => F32_j2 R) _ (by kernel_rfl) (fun e => F32_j2_ok R e) (den_conv Pg R (pre 0 (cd Try.f32 [1,1])) (cd Try.f32 [1,1,0]) e (setN (kont Pg R Try.f32) (fun e => F32_j2 R)) _ (by kernel_rfl) (F32_j3_ok R e)))
def F32 (R : ER) (x0 x1 : Value) : WP :=
  pv (lenS x0) fun v9 =>
  pv (lenS x1) fun v10 =>
  pv (bin .neq v9 v10) fun v11 =>
  cnd v11 (
   R (.returned (.bool false))) (
   F32_j1 R x0 x1)
theorem F32_den (R : ER) (x0 x1 : Value) : den Pg R (cd Try.f32 []) (argsEnv [x0, x1]) (kont Pg R Try.f32) = F32 R x0 x1 :=
  have h : ∀ e, den Pg R (cd Try.f32 []) e (kont Pg R Try.f32) = F32 R (e 0) (e 1) := fun e => (den_join Pg R 1 (cd Try.f32 []) (cd Try.f32 [1,1]) e (kont Pg R Try.f32) (fun e => F32_j1 R (e 0) (e 1)) _ (by kernel_rfl) (fun e => F32_j1_ok R e) (by kernel_rfl))
  h _
theorem F32_calls {R : ER} {x0 x1 : Value} {w : World} (h : F32 R x0 x1 w) : Calls Pg 32 ⟨[x0, x1]⟩ w R :=
  calls_of_den Try.func32 (by kernel_rfl) (by kernel_rfl) (F32_den R x0 x1) h
/-! ### 33: filter_Filter_Counts -/
def F33 (R : ER) (x0 : Value) : WP :=
  pv (eqNilP x0) fun v1 =>
  cnd v1 (
   R (.returned (.slice none 0 0))) (
   pv (nilO x0) fun v2 =>
  pv (faO 1 v2) fun v3 =>
  ld1 v3 fun v4 =>
  cal Pg R 62 ⟨[v4]⟩ fun v5 =>
  R (.returned v5))
theorem F33_den (R : ER) (x0 : Value) : den Pg R (cd Try.f33 []) (argsEnv [x0]) (kont Pg R Try.f33) = F33 R x0 :=
  have h : ∀ e, den Pg R (cd Try.f33 []) e (kont Pg R Try.f33) = F33 R (e 0) := fun e => by kernel_rfl
  h _
theorem F33_calls {R : ER} {x0 : Value} {w : World} (h : F33 R x0 w) : Calls Pg 33 ⟨[x0]⟩ w R :=
  calls_of_den Try.func33 (by kernel_rfl) (by kernel_rfl) (F33_den R x0) h
/-! ### 34: slices_EqualFunc -/
def F34_j2 (R : ER) : WP :=
  R (.returned (.bool true))
theorem F34_j2_ok (R : ER) (e : Env) : den Pg R (cd Try.f34 [1,1,1]) e (kont Pg R Try.f34) = (F34_j2 R) := by kernel_rfl
def F34_j5 (R : ER) (k1 : V5) (x1 x2 x15 x16 x17 : Value) : WP :=
  pv (ixS 6 x15 x17) fun v1 =>
  ldN 6 v1 fun v2 =>
  al Pg 84 fun v3 =>
  stN 6 v3 v2 fun _ =>
  pv (ixS 6 x1 x17) fun v4 =>
  ldN 6 v4 fun v5 =>
  al Pg 87 fun v6 =>
  stN 6 v6 v5 fun _ =>
  ldN 6 v3 fun v7 =>
  ldN 6 v6 fun v8 =>
  calD Pg R x2 ⟨[v7, v8]⟩ fun v9 =>
  pv (unO .not v9) fun v10 =>
  cnd v10 (
   R (.returned (.bool false))) (
   pv (bin .add x17 (.int .i64 1)) fun v11 =>
  k1 x1 x2 x15 x16 v11)
theorem F34_j5_ok (R : ER) (k1 : V5) (e : Env) : den Pg R (cd Try.f34 [1,1,0,1,0,0,1,1]) e (setN (inB 0 (setN (kont Pg R Try.f34) (fun e => F34_j2 R))) (fun e => k1 (e 1) (e 2) (e 15) (e 16) (e 17))) = (F34_j5 R k1 (e 1) (e 2) (e 15) (e 16) (e 17)) := (by kernel_rfl)
def F34_b1 (R : ER) (k1 : V5) (x1 x2 x15 x16 x17 : Value) : WP :=
  pv (bin .lss x17 x16) fun v12 =>
  cnd v12 (
   F34_j5 R k1 x1 x2 x15 x16 x17) (
   F34_j2 R)
theorem F34_b1_ok (R : ER) (k1 : V5) (e : Env) : den Pg R (cd Try.f34 [1,1,0,1,0,0]) e (setN (inB 0 (setN (kont Pg R Try.f34) (fun e => F34_j2 R))) (fun e => k1 (e 1) (e 2) (e 15) (e 16) (e 17))) = (F34_b1 R k1 (e 1) (e 2) (e 15) (e 16) (e 17)) := (den_join Pg R 1 (cd Try.f34 [1,1,0,1,0,0]) (cd Try.f34 [1,1,0,1,0,0,1,1]) e (setN (inB 0 (setN (kont Pg R Try.f34) (fun e => F34_j2 R))) (fun e => k1 (e 1) (e 2) (e 15) (e 16) (e 17))) (fun e => F34_j5 R k1 (e 1) (e 2) (e 15) (e 16) (e 17)) _ (by kernel_rfl) (fun e => F34_j5_ok R k1 e) (by kernel_rfl))
noncomputable def F34_l1 (R : ER) (n : Nat) : V5 := Nat.rec (motive := fun _ => V5) (fun _ _ _ _ _ => fun _ => False) (fun _ ih => fun x1 x2 x15 x16 x17 => F34_b1 R ih x1 x2 x15 x16 x17) n
theorem F34_l1_succ (R : ER) (n : Nat) (x1 x2 x15 x16 x17 : Value) : F34_l1 R (n + 1) x1 x2 x15 x16 x17 = F34_b1 R (F34_l1 R n) x1 x2 x15 x16 x17 := rfl
theorem F34_l1_ok (R : ER) : ∀ (n : Nat) (e : Env), iterL (den Pg R (cd Try.f34 [1,1,0,1,0,0])) n e (inB 0 (setN (kont Pg R Try.f34) (fun e => F34_j2 R))) = F34_l1 R n (e 1) (e 2) (e 15) (e 16) (e 17) :=
  iterL_join (den Pg R (cd Try.f34 [1,1,0,1,0,0])) (inB 0 (setN (kont Pg R Try.f34) (fun e => F34_j2 R))) (fun n e => F34_l1 R n (e 1) (e 2) (e 15) (e 16) (e 17)) (fun _ => rfl) (fun n e => (F34_b1_ok R (F34_l1 R n) e).trans (F34_l1_succ R n (e 1) (e 2) (e 15) (e 16) (e 17)).symm)
def F34_j4 (R : ER) (x1 x2 x15 x16 x17 : Value) : WP :=
  exN fun n => F34_l1 R n x1 x2 x15 x16 x17
theorem F34_j4_ok (R : ER) (e : Env) : den Pg R (cd Try.f34 [1,1,0,1]) e (setN (kont Pg R Try.f34) (fun e => F34_j2 R)) = (F34_j4 R (e 1) (e 2) (e 15) (e 16) (e 17)) := (den_block Pg R (cd Try.f34 [1,1,0,1]) 0 (cd Try.f34 [1,1,0,1,0]) e (setN (kont Pg R Try.f34) (fun e => F34_j2 R)) _ (by kernel_rfl) (den_loop Pg R (cd Try.f34 [1,1,0,1,0]) (cd Try.f34 [1,1,0,1,0,0]) e (inB 0 (setN (kont Pg R Try.f34) (fun e => F34_j2 R))) (fun n e => F34_l1 R n (e 1) (e 2) (e 15) (e 16) (e 17)) _ (by kernel_rfl) (F34_l1_ok R) (by kernel_rfl)))
def F34_j3 (R : ER) (x0 x1 x2 : Value) : WP :=
  pv (lenS x0) fun v13 =>
  F34_j4 R x1 x2 x0 v13 (.int .i64 0)
theorem F34_j3_ok (R : ER) (e : Env) : den Pg R (cd Try.f34 [1,1,0]) e (setN (kont Pg R Try.f34) (fun e => F34_j2 R)) = (F34_j3 R (e 0) (e 1) (e 2)) := (den_join Pg R 0 (cd Try.f34 [1,1,0]) (cd Try.f34 [1,1,0,1]) e (setN (kont Pg R Try.f34) (fun e => F34_j2 R)) (fun e => F34_j4 R (e 1) (e 2) (e 15) (e 16) (e 17)) _ (by kernel_rfl) (fun e => F34_j4_ok R e) (by kernel_rfl))
def F34_j1 (R : ER) (x0 x1 x2 : Value) : WP :=
  F34_j3 R x0 x1 x2
theorem F34_j1_ok (R : ER) (e : Env) : den Pg R (cd Try.f34 [1,1]) e (kont Pg R Try.f34) = (F34_j1 R (e 0) (e 1) (e 2)) := (den_join Pg R 0 (cd Try.f34 [1,1]) (cd Try.f34 [1,1,1]) e (kont Pg R Try.f34) (fun e => F34_j2 R) _ (by kernel_rfl) (fun e => F34_j2_ok R e) (den_conv Pg R (pre 0 (cd Try.f34 [1,1])) (cd Try.f34 [1,1,0]) e (setN (kont Pg R Try.f34) (fun e => F34_j2 R)) _ (by kernel_rfl) (F34_j3_ok R e)))
def F34 (R : ER) (x0 x1 x2 : Value) : WP :=
  pv (lenS x0) fun v14 =>
  pv (lenS x1) fun v15 =>
  pv (bin .neq v14 v15) fun v16 =>
  cnd v16 (
   R (.returned (.bool false))) (
   F34_j1 R x0 x1 x2)
theorem F34_den (R : ER) (x0 x1 x2 : Value) : den Pg R (cd Try.f34 []) (argsEnv [x0, x1, x2]) (kont Pg R Try.f34) = F34 R x0 x1 x2 :=
  have h : ∀ e, den Pg R (cd Try.f34 []) e (kont Pg R Try.f34) = F34 R (e 0) (e 1) (e 2) := fun e => (den_join Pg R 1 (cd Try.f34 []) (cd Try.f34 [1,1]) e (kont Pg R Try.f34) (fun e => F34_j1 R (e 0) (e 1) (e 2)) _ (by kernel_rfl) (fun e => F34_j1_ok R e) (by kernel_rfl))
  h _
theorem F34_calls {R : ER} {x0 x1 x2 : Value} {w : World} (h : F34 R x0 x1 x2 w) : Calls Pg 34 ⟨[x0, x1, x2]⟩ w R :=
  calls_of_den Try.func34 (by kernel_rfl) (by kernel_rfl) (F34_den R x0 x1 x2) h
/-! ### 35: orpimentlaw39_FilterDecides_1 -/
def F35 (R : ER) (x0 x1 : Value) : WP :=
  bx 84 x0 fun v1 =>
  bx 87 x1 fun v2 =>
  drewV (
  ldN 6 v1 fun v3 =>
  mem fun w5 => cal Pg noR 30 ⟨[v3]⟩ fun v4 =>
  ldNS [w5] 6 v2 fun v6 =>
  pv (eqAgg [0,0,0,0,0,0] v4 v6) fun v7 =>
  R (.returned v7))
theorem F35_den (R : ER) (x0 x1 : Value) : den Pg R (cd Try.f35 []) (argsEnv [x0, x1]) (kont Pg R Try.f35) = F35 R x0 x1 :=
  have h : ∀ e, den Pg R (cd Try.f35 []) e (kont Pg R Try.f35) = F35 R (e 0) (e 1) := fun e => by kernel_rfl
  h _
theorem F35_calls {R : ER} {x0 x1 : Value} {w : World} (h : F35 R x0 x1 w) : Calls Pg 35 ⟨[x0, x1]⟩ w R :=
  calls_of_den Try.func35 (by kernel_rfl) (by kernel_rfl) (F35_den R x0 x1) h
/-! ### 37: filter_parser_rule -/
def F37_j2 (R : ER) (x2 x3 : Value) : WP :=
  ldN 16 x3 fun v1 =>
  stN 16 x2 v1 fun _ =>
  ldN 16 x2 fun v2 => R (.returned v2)
theorem F37_j2_ok (R : ER) (e : Env) : den Pg R (cd Try.f37 [1,1,1,1,1,1,1]) e (kont Pg R Try.f37) = (F37_j2 R (e 2) (e 3)) := by kernel_rfl
def F37_j3 (R : ER) (x0 x2 x3 : Value) : WP :=
  drewV (
  pv (nilO x0) fun v3 =>
  pv (faO 1 v3) fun v4 =>
  ld1 v4 fun v5 =>
  pv (nilO x0) fun v6 =>
  pv (faO 0 v6) fun v7 =>
  ld1 v7 fun v8 =>
  pv (lenStr v8) fun v9 =>
  pv (bin .lss v5 v9) fun v10 =>
  cnd v10 (
   pv (nilO x0) fun v11 =>
   pv (faO 1 v11) fun v12 =>
   ld1 v12 fun v13 =>
   cal Pg R 66 ⟨[x0, v13]⟩ fun v14 =>
   F37_j2 R x2 x3) (
   F37_j2 R x2 x3))
theorem F37_j3_ok (R : ER) (e : Env) : den Pg R (cd Try.f37 [1,1,1,1,1,1,0]) e (setN (kont Pg R Try.f37) (fun e => F37_j2 R (e 2) (e 3))) = (F37_j3 R (e 0) (e 2) (e 3)) := (by kernel_rfl)
def F37_j1 (R : ER) (x0 x2 x3 : Value) : WP :=
  F37_j3 R x0 x2 x3
theorem F37_j1_ok (R : ER) (e : Env) : den Pg R (cd Try.f37 [1,1,1,1,1,1]) e (kont Pg R Try.f37) = (F37_j1 R (e 0) (e 2) (e 3)) := (den_join Pg R 0 (cd Try.f37 [1,1,1,1,1,1]) (cd Try.f37 [1,1,1,1,1,1,1]) e (kont Pg R Try.f37) (fun e => F37_j2 R (e 2) (e 3)) _ (by kernel_rfl) (fun e => F37_j2_ok R e) (den_conv Pg R (pre 0 (cd Try.f37 [1,1,1,1,1,1])) (cd Try.f37 [1,1,1,1,1,1,0]) e (setN (kont Pg R Try.f37) (fun e => F37_j2 R (e 2) (e 3))) _ (by kernel_rfl) (F37_j3_ok R e)))
def F37_j6 (R : ER) (k1 : V5) (x0 x2 x3 x4 x5 : Value) : WP :=
  pv (lenS x4) fun v15 =>
  pv (bin .geq x5 v15) fun v16 =>
  cnd v16 (
   F37_j1 R x0 x2 x3) (
   k1 x0 x2 x3 x4 x5)
theorem F37_j6_ok (R : ER) (k1 : V5) (e : Env) : den Pg R (cd Try.f37 [1,1,1,1,1,0,0,0,1,0,1,1]) e (inB 1 (setN (inB 0 (setN (kont Pg R Try.f37) (fun e => F37_j1 R (e 0) (e 2) (e 3)))) (fun e => k1 (e 0) (e 2) (e 3) (e 4) (e 5)))) = (F37_j6 R k1 (e 0) (e 2) (e 3) (e 4) (e 5)) := by kernel_rfl
def F37_j9 (R : ER) (k1 : V5) (k2 : V6) (x0 x2 x3 x4 x5 x6 : Value) : WP :=
  cal Pg R 65 ⟨[x0, x3, x4, x6]⟩ fun v17 =>
  k2 x0 x2 x3 x4 x5 v17
theorem F37_j9_ok (R : ER) (k1 : V5) (k2 : V6) (e : Env) : den Pg R (cd Try.f37 [1,1,1,1,1,0,0,0,1,0,1,0,0,0,1,0,1,1]) e (inB 3 (setN (inB 2 (setN (inB 1 (setN (inB 0 (setN (kont Pg R Try.f37) (fun e => F37_j1 R (e 0) (e 2) (e 3)))) (fun e => k1 (e 0) (e 2) (e 3) (e 4) (e 5)))) (fun e => F37_j6 R k1 (e 0) (e 2) (e 3) (e 4) (e 5)))) (fun e => k2 (e 0) (e 2) (e 3) (e 4) (e 5) (e 6)))) = (F37_j9 R k1 k2 (e 0) (e 2) (e 3) (e 4) (e 5) (e 6)) := by kernel_rfl
def F37_j8 (R : ER) (k1 : V5) (k2 : V6) (x0 x2 x3 x4 x6 : Value) : WP :=
  pv (bin .add x6 (.int .i64 1)) fun v18 =>
  pv (ixS 1 x4 x6) fun v19 =>
  ld1 v19 fun v20 =>
  pv (binS .eql v20 (.string ⟨⟨[105,110]⟩⟩)) fun v21 =>
  cnd v21 (
   pv (bin .add v18 (.int .i64 1)) fun v22 =>
   F37_j9 R k1 k2 x0 x2 x3 x4 v22 x6) (
   F37_j9 R k1 k2 x0 x2 x3 x4 v18 x6)
theorem F37_j8_ok (R : ER) (k1 : V5) (k2 : V6) (e : Env) : den Pg R (cd Try.f37 [1,1,1,1,1,0,0,0,1,0,1,0,0,0,1]) e (setN (inB 2 (setN (inB 1 (setN (inB 0 (setN (kont Pg R Try.f37) (fun e => F37_j1 R (e 0) (e 2) (e 3)))) (fun e => k1 (e 0) (e 2) (e 3) (e 4) (e 5)))) (fun e => F37_j6 R k1 (e 0) (e 2) (e 3) (e 4) (e 5)))) (fun e => k2 (e 0) (e 2) (e 3) (e 4) (e 5) (e 6))) = (F37_j8 R k1 k2 (e 0) (e 2) (e 3) (e 4) (e 6)) := (den_block Pg R (cd Try.f37 [1,1,1,1,1,0,0,0,1,0,1,0,0,0,1]) 3 (cd Try.f37 [1,1,1,1,1,0,0,0,1,0,1,0,0,0,1,0]) e (setN (inB 2 (setN (inB 1 (setN (inB 0 (setN (kont Pg R Try.f37) (fun e => F37_j1 R (e 0) (e 2) (e 3)))) (fun e => k1 (e 0) (e 2) (e 3) (e 4) (e 5)))) (fun e => F37_j6 R k1 (e 0) (e 2) (e 3) (e 4) (e 5)))) (fun e => k2 (e 0) (e 2) (e 3) (e 4) (e 5) (e 6))) _ (by kernel_rfl) (den_join Pg R 1 (cd Try.f37 [1,1,1,1,1,0,0,0,1,0,1,0,0,0,1,0]) (cd Try.f37 [1,1,1,1,1,0,0,0,1,0,1,0,0,0,1,0,1,1]) e (inB 3 (setN (inB 2 (setN (inB 1 (setN (inB 0 (setN (kont Pg R Try.f37) (fun e => F37_j1 R (e 0) (e 2) (e 3)))) (fun e => k1 (e 0) (e 2) (e 3) (e 4) (e 5)))) (fun e => F37_j6 R k1 (e 0) (e 2) (e 3) (e 4) (e 5)))) (fun e => k2 (e 0) (e 2) (e 3) (e 4) (e 5) (e 6)))) (fun e => F37_j9 R k1 k2 (e 0) (e 2) (e 3) (e 4) (e 5) (e 6)) _ (by kernel_rfl) (fun e => F37_j9_ok R k1 k2 e) (by kernel_rfl)))
def F37_b2 (R : ER) (k1 : V5) (k2 : V6) (x0 x2 x3 x4 x5 x6 : Value) : WP :=
  pv (bin .geq x6 (.int .i64 0)) fun v23 =>
  cnd v23 (
   F37_j8 R k1 k2 x0 x2 x3 x4 x6) (
   F37_j6 R k1 x0 x2 x3 x4 x5)
theorem F37_b2_ok (R : ER) (k1 : V5) (k2 : V6) (e : Env) : den Pg R (cd Try.f37 [1,1,1,1,1,0,0,0,1,0,1,0,0,0]) e (setN (inB 2 (setN (inB 1 (setN (inB 0 (setN (kont Pg R Try.f37) (fun e => F37_j1 R (e 0) (e 2) (e 3)))) (fun e => k1 (e 0) (e 2) (e 3) (e 4) (e 5)))) (fun e => F37_j6 R k1 (e 0) (e 2) (e 3) (e 4) (e 5)))) (fun e => k2 (e 0) (e 2) (e 3) (e 4) (e 5) (e 6))) = (F37_b2 R k1 k2 (e 0) (e 2) (e 3) (e 4) (e 5) (e 6)) := (den_join Pg R 0 (cd Try.f37 [1,1,1,1,1,0,0,0,1,0,1,0,0,0]) (cd Try.f37 [1,1,1,1,1,0,0,0,1,0,1,0,0,0,1]) e (setN (inB 2 (setN (inB 1 (setN (inB 0 (setN (kont Pg R Try.f37) (fun e => F37_j1 R (e 0) (e 2) (e 3)))) (fun e => k1 (e 0) (e 2) (e 3) (e 4) (e 5)))) (fun e => F37_j6 R k1 (e 0) (e 2) (e 3) (e 4) (e 5)))) (fun e => k2 (e 0) (e 2) (e 3) (e 4) (e 5) (e 6))) (fun e => F37_j8 R k1 k2 (e 0) (e 2) (e 3) (e 4) (e 6)) _ (by kernel_rfl) (fun e => F37_j8_ok R k1 k2 e) (by kernel_rfl))
noncomputable def F37_l1 (R : ER) (k1 : V5) (n : Nat) : V6 := Nat.rec (motive := fun _ => V6) (fun _ _ _ _ _ _ => fun _ => False) (fun _ ih => fun x0 x2 x3 x4 x5 x6 => F37_b2 R k1 ih x0 x2 x3 x4 x5 x6) n
theorem F37_l1_succ (R : ER) (k1 : V5) (n : Nat) (x0 x2 x3 x4 x5 x6 : Value) : F37_l1 R k1 (n + 1) x0 x2 x3 x4 x5 x6 = F37_b2 R k1 (F37_l1 R k1 n) x0 x2 x3 x4 x5 x6 := rfl
theorem F37_l1_ok (R : ER) (k1 : V5) : ∀ (n : Nat) (e : Env), iterL (den Pg R (cd Try.f37 [1,1,1,1,1,0,0,0,1,0,1,0,0,0])) n e (inB 2 (setN (inB 1 (setN (inB 0 (setN (kont Pg R Try.f37) (fun e => F37_j1 R (e 0) (e 2) (e 3)))) (fun e => k1 (e 0) (e 2) (e 3) (e 4) (e 5)))) (fun e => F37_j6 R k1 (e 0) (e 2) (e 3) (e 4) (e 5)))) = F37_l1 R k1 n (e 0) (e 2) (e 3) (e 4) (e 5) (e 6) :=
  iterL_join (den Pg R (cd Try.f37 [1,1,1,1,1,0,0,0,1,0,1,0,0,0])) (inB 2 (setN (inB 1 (setN (inB 0 (setN (kont Pg R Try.f37) (fun e => F37_j1 R (e 0) (e 2) (e 3)))) (fun e => k1 (e 0) (e 2) (e 3) (e 4) (e 5)))) (fun e => F37_j6 R k1 (e 0) (e 2) (e 3) (e 4) (e 5)))) (fun n e => F37_l1 R k1 n (e 0) (e 2) (e 3) (e 4) (e 5) (e 6)) (fun _ => rfl) (fun n e => (F37_b2_ok R k1 (F37_l1 R k1 n) e).trans (F37_l1_succ R k1 n (e 0) (e 2) (e 3) (e 4) (e 5) (e 6)).symm)
def F37_j7 (R : ER) (k1 : V5) (x0 x2 x3 x4 x5 x6 : Value) : WP :=
  exN fun n => F37_l1 R k1 n x0 x2 x3 x4 x5 x6
theorem F37_j7_ok (R : ER) (k1 : V5) (e : Env) : den Pg R (cd Try.f37 [1,1,1,1,1,0,0,0,1,0,1,0]) e (setN (inB 1 (setN (inB 0 (setN (kont Pg R Try.f37) (fun e => F37_j1 R (e 0) (e 2) (e 3)))) (fun e => k1 (e 0) (e 2) (e 3) (e 4) (e 5)))) (fun e => F37_j6 R k1 (e 0) (e 2) (e 3) (e 4) (e 5))) = (F37_j7 R k1 (e 0) (e 2) (e 3) (e 4) (e 5) (e 6)) := (den_block Pg R (cd Try.f37 [1,1,1,1,1,0,0,0,1,0,1,0]) 2 (cd Try.f37 [1,1,1,1,1,0,0,0,1,0,1,0,0]) e (setN (inB 1 (setN (inB 0 (setN (kont Pg R Try.f37) (fun e => F37_j1 R (e 0) (e 2) (e 3)))) (fun e => k1 (e 0) (e 2) (e 3) (e 4) (e 5)))) (fun e => F37_j6 R k1 (e 0) (e 2) (e 3) (e 4) (e 5))) _ (by kernel_rfl) (den_loop Pg R (cd Try.f37 [1,1,1,1,1,0,0,0,1,0,1,0,0]) (cd Try.f37 [1,1,1,1,1,0,0,0,1,0,1,0,0,0]) e (inB 2 (setN (inB 1 (setN (inB 0 (setN (kont Pg R Try.f37) (fun e => F37_j1 R (e 0) (e 2) (e 3)))) (fun e => k1 (e 0) (e 2) (e 3) (e 4) (e 5)))) (fun e => F37_j6 R k1 (e 0) (e 2) (e 3) (e 4) (e 5)))) (fun n e => F37_l1 R k1 n (e 0) (e 2) (e 3) (e 4) (e 5) (e 6)) _ (by kernel_rfl) (F37_l1_ok R k1) (by kernel_rfl)))
def F37_j5 (R : ER) (k1 : V5) (x0 x2 x3 x4 x5 : Value) : WP :=
  pv (slS 1 x4 (some x5) none) fun v24 =>
  cal Pg R 63 ⟨[x0, v24]⟩ fun v25 =>
  pv (bin .add x5 v25) fun v26 =>
  F37_j7 R k1 x0 x2 x3 x4 x5 v26
theorem F37_j5_ok (R : ER) (k1 : V5) (e : Env) : den Pg R (cd Try.f37 [1,1,1,1,1,0,0,0,1]) e (setN (inB 0 (setN (kont Pg R Try.f37) (fun e => F37_j1 R (e 0) (e 2) (e 3)))) (fun e => k1 (e 0) (e 2) (e 3) (e 4) (e 5))) = (F37_j5 R k1 (e 0) (e 2) (e 3) (e 4) (e 5)) := (den_block Pg R (cd Try.f37 [1,1,1,1,1,0,0,0,1]) 1 (cd Try.f37 [1,1,1,1,1,0,0,0,1,0]) e (setN (inB 0 (setN (kont Pg R Try.f37) (fun e => F37_j1 R (e 0) (e 2) (e 3)))) (fun e => k1 (e 0) (e 2) (e 3) (e 4) (e 5))) _ (by kernel_rfl) (den_join Pg R 1 (cd Try.f37 [1,1,1,1,1,0,0,0,1,0]) (cd Try.f37 [1,1,1,1,1,0,0,0,1,0,1,1]) e (inB 1 (setN (inB 0 (setN (kont Pg R Try.f37) (fun e => F37_j1 R (e 0) (e 2) (e 3)))) (fun e => k1 (e 0) (e 2) (e 3) (e 4) (e 5)))) (fun e => F37_j6 R k1 (e 0) (e 2) (e 3) (e 4) (e 5)) _ (by kernel_rfl) (fun e => F37_j6_ok R k1 e) (den_join Pg R 0 (pre 1 (cd Try.f37 [1,1,1,1,1,0,0,0,1,0])) (cd Try.f37 [1,1,1,1,1,0,0,0,1,0,1,0]) e (setN (inB 1 (setN (inB 0 (setN (kont Pg R Try.f37) (fun e => F37_j1 R (e 0) (e 2) (e 3)))) (fun e => k1 (e 0) (e 2) (e 3) (e 4) (e 5)))) (fun e => F37_j6 R k1 (e 0) (e 2) (e 3) (e 4) (e 5))) (fun e => F37_j7 R k1 (e 0) (e 2) (e 3) (e 4) (e 5) (e 6)) _ (by kernel_rfl) (fun e => F37_j7_ok R k1 e) (by kernel_rfl))))
def F37_b1 (R : ER) (k1 : V5) (x0 x2 x3 x4 x5 : Value) : WP :=
  cal Pg R 64 ⟨[x0]⟩ fun v27 =>
  cnd v27 (
   F37_j5 R k1 x0 x2 x3 x4 x5) (
   F37_j1 R x0 x2 x3)
theorem F37_b1_ok (R : ER) (k1 : V5) (e : Env) : den Pg R (cd Try.f37 [1,1,1,1,1,0,0,0]) e (setN (inB 0 (setN (kont Pg R Try.f37) (fun e => F37_j1 R (e 0) (e 2) (e 3)))) (fun e => k1 (e 0) (e 2) (e 3) (e 4) (e 5))) = (F37_b1 R k1 (e 0) (e 2) (e 3) (e 4) (e 5)) := (den_join Pg R 0 (cd Try.f37 [1,1,1,1,1,0,0,0]) (cd Try.f37 [1,1,1,1,1,0,0,0,1]) e (setN (inB 0 (setN (kont Pg R Try.f37) (fun e => F37_j1 R (e 0) (e 2) (e 3)))) (fun e => k1 (e 0) (e 2) (e 3) (e 4) (e 5))) (fun e => F37_j5 R k1 (e 0) (e 2) (e 3) (e 4) (e 5)) _ (by kernel_rfl) (fun e => F37_j5_ok R k1 e) (by kernel_rfl))
noncomputable def F37_l2 (R : ER) (n : Nat) : V5 := Nat.rec (motive := fun _ => V5) (fun _ _ _ _ _ => fun _ => False) (fun _ ih => fun x0 x2 x3 x4 x5 => F37_b1 R ih x0 x2 x3 x4 x5) n
theorem F37_l2_succ (R : ER) (n : Nat) (x0 x2 x3 x4 x5 : Value) : F37_l2 R (n + 1) x0 x2 x3 x4 x5 = F37_b1 R (F37_l2 R n) x0 x2 x3 x4 x5 := rfl
theorem F37_l2_ok (R : ER) : ∀ (n : Nat) (e : Env), iterL (den Pg R (cd Try.f37 [1,1,1,1,1,0,0,0])) n e (inB 0 (setN (kont Pg R Try.f37) (fun e => F37_j1 R (e 0) (e 2) (e 3)))) = F37_l2 R n (e 0) (e 2) (e 3) (e 4) (e 5) :=
  iterL_join (den Pg R (cd Try.f37 [1,1,1,1,1,0,0,0])) (inB 0 (setN (kont Pg R Try.f37) (fun e => F37_j1 R (e 0) (e 2) (e 3)))) (fun n e => F37_l2 R n (e 0) (e 2) (e 3) (e 4) (e 5)) (fun _ => rfl) (fun n e => (F37_b1_ok R (F37_l2 R n) e).trans (F37_l2_succ R n (e 0) (e 2) (e 3) (e 4) (e 5)).symm)
def F37_j4 (R : ER) (x0 x2 x3 x4 x5 : Value) : WP :=
  exN fun n => F37_l2 R n x0 x2 x3 x4 x5
theorem F37_j4_ok (R : ER) (e : Env) : den Pg R (cd Try.f37 [1,1,1,1,1,0]) e (setN (kont Pg R Try.f37) (fun e => F37_j1 R (e 0) (e 2) (e 3))) = (F37_j4 R (e 0) (e 2) (e 3) (e 4) (e 5)) := (den_block Pg R (cd Try.f37 [1,1,1,1,1,0]) 0 (cd Try.f37 [1,1,1,1,1,0,0]) e (setN (kont Pg R Try.f37) (fun e => F37_j1 R (e 0) (e 2) (e 3))) _ (by kernel_rfl) (den_loop Pg R (cd Try.f37 [1,1,1,1,1,0,0]) (cd Try.f37 [1,1,1,1,1,0,0,0]) e (inB 0 (setN (kont Pg R Try.f37) (fun e => F37_j1 R (e 0) (e 2) (e 3)))) (fun n e => F37_l2 R n (e 0) (e 2) (e 3) (e 4) (e 5)) _ (by kernel_rfl) (F37_l2_ok R) (by kernel_rfl)))
def F37 (R : ER) (x0 : Value) : WP :=
  al Pg 29 fun v28 =>
  pv (bldO [.int .i64 0, .int .i64 0] [(0,1, (.int .i64 0)), (1,1, (.int .i64 65535))]) fun v29 =>
  pv (bldO [.int .i64 0, .int .i64 0] [(0,1, (.int .i64 0)), (1,1, (.int .i64 65535))]) fun v30 =>
  pv (bldO [.int .i64 0, .bool false, .bool false, .int .i64 0, .int .i64 0, .int .i64 0, .int .u32 0, .int .i64 0, .bool false, .int .u32 0, .int .i64 0, .bool false, .int .i64 0, .int .i64 0, .int .i64 0, .int .i64 0] [(3,1, (.int .i64 3)), (4,1, (.int .i64 (-1))), (5,1, (.int .i64 (-1))), (12,2, v29), (14,2, v30)]) fun v31 =>
  al Pg 29 fun v32 =>
  stN 16 v32 v31 fun _ =>
  valV Pg R (Instr.buildSlice 104 2 ⟨[(0, (.string ⟨⟨[112,97,115,115]⟩⟩)), (1, (.string ⟨⟨[98,108,111,99,107]⟩⟩))]⟩) fun v33 =>
  cal Pg R 63 ⟨[x0, v33]⟩ fun v34 =>
  pv (bin .add (.int .i64 1) v34) fun v35 =>
  pv (faO 0 v32) fun v36 =>
  st1 v36 v35 fun _ =>
  valV Pg R (Instr.buildSlice 104 8 ⟨[(0, (.string ⟨⟨[113,117,105,99,107]⟩⟩)), (1, (.string ⟨⟨[105,110]⟩⟩)), (2, (.string ⟨⟨[111,117,116]⟩⟩)), (3, (.string ⟨⟨[111,110]⟩⟩)), (4, (.string ⟨⟨[112,114,111,116,111]⟩⟩)), (5, (.string ⟨⟨[102,114,111,109]⟩⟩)), (6, (.string ⟨⟨[116,111]⟩⟩)), (7, (.string ⟨⟨[107,101,101,112]⟩⟩))]⟩) fun v37 =>
  F37_j4 R x0 v28 v32 v37 (.int .i64 0)
theorem F37_den (R : ER) (x0 : Value) : den Pg R (cd Try.f37 []) (argsEnv [x0]) (kont Pg R Try.f37) = F37 R x0 :=
  have h : ∀ e, den Pg R (cd Try.f37 []) e (kont Pg R Try.f37) = F37 R (e 0) := fun e => (den_join Pg R 5 (cd Try.f37 []) (cd Try.f37 [1,1,1,1,1,1]) e (kont Pg R Try.f37) (fun e => F37_j1 R (e 0) (e 2) (e 3)) _ (by kernel_rfl) (fun e => F37_j1_ok R e) (den_join Pg R 4 (pre 5 (cd Try.f37 [])) (cd Try.f37 [1,1,1,1,1,0]) e (setN (kont Pg R Try.f37) (fun e => F37_j1 R (e 0) (e 2) (e 3))) (fun e => F37_j4 R (e 0) (e 2) (e 3) (e 4) (e 5)) _ (by kernel_rfl) (fun e => F37_j4_ok R e) (by kernel_rfl)))
  h _
theorem F37_calls {R : ER} {x0 : Value} {w : World} (h : F37 R x0 w) : Calls Pg 37 ⟨[x0]⟩ w R :=
  calls_of_den Try.func37 (by kernel_rfl) (by kernel_rfl) (F37_den R x0) h
/-! ### 38: orpimentref39_words -/
def F38_j1 (R : ER) (x3 : Value) : WP :=
  R (.returned x3)
theorem F38_j1_ok (R : ER) (e : Env) : den Pg R (cd Try.f38 [1,1,1]) e (kont Pg R Try.f38) = (F38_j1 R (e 3)) := by kernel_rfl
def F38_j5 (R : ER) (k1 : V3) (x0 x3 x4 : Value) : WP :=
  pv (bin .add x4 (.int .i64 1)) fun v1 =>
  k1 x0 x3 v1
theorem F38_j5_ok (R : ER) (k1 : V3) (e : Env) : den Pg R (cd Try.f38 [1,1,0,1,0,0,1,1]) e (setN (inB 0 (setN (kont Pg R Try.f38) (fun e => F38_j1 R (e 3)))) (fun e => k1 (e 0) (e 3) (e 4))) = (F38_j5 R k1 (e 0) (e 3) (e 4)) := by kernel_rfl
def F38_j8 (R : ER) (k1 : V3) (x0 x3 x4 : Value) : WP :=
  drewV (
  pv (lenS x3) fun v2 =>
  pv (bin .sub v2 (.int .i64 1)) fun v3 =>
  pv (lenS x3) fun v4 =>
  pv (bin .sub v4 (.int .i64 1)) fun v5 =>
  pv (ixS 1 x3 v5) fun v6 =>
  ld1 v6 fun v7 =>
  pv (bin .add x4 (.int .i64 1)) fun v8 =>
  pv (slStr x0 (some x4) (some v8)) fun v9 =>
  pv (binS .add v7 v9) fun v10 =>
  pv (ixS 1 x3 v3) fun v11 =>
  mem fun w13 => st1 v11 v10 fun v12 =>
  F38_j5 R k1 x0 x3 x4)
theorem F38_j8_ok (R : ER) (k1 : V3) (e : Env) : den Pg R (cd Try.f38 [1,1,0,1,0,0,1,0,0,1,1]) e (inB 1 (setN (setN (inB 0 (setN (kont Pg R Try.f38) (fun e => F38_j1 R (e 3)))) (fun e => k1 (e 0) (e 3) (e 4))) (fun e => F38_j5 R k1 (e 0) (e 3) (e 4)))) = (F38_j8 R k1 (e 0) (e 3) (e 4)) := by kernel_rfl
def F38_j7 (R : ER) (k1 : V3) (x0 x3 x4 x15 : Value) : WP :=
  cnd x15 (valV Pg R (Instr.buildSlice 104 1 ⟨[(0, (.string ⟨⟨[]⟩⟩))]⟩) fun v14 =>
  blt Pg R .append ⟨[104,104]⟩ 104 ⟨[false, false]⟩ ⟨[x3, v14]⟩ fun v15 =>
  F38_j5 R k1 x0 v15 x4) (F38_j8 R k1 x0 x3 x4)
theorem F38_j7_ok (R : ER) (k1 : V3) (e : Env) : den Pg R (cd Try.f38 [1,1,0,1,0,0,1,0,0,1]) e (inB 1 (setN (setN (inB 0 (setN (kont Pg R Try.f38) (fun e => F38_j1 R (e 3)))) (fun e => k1 (e 0) (e 3) (e 4))) (fun e => F38_j5 R k1 (e 0) (e 3) (e 4)))) = (F38_j7 R k1 (e 0) (e 3) (e 4) (e 15)) := (den_if Pg R (cd Try.f38 [1,1,0,1,0,0,1,0,0,1]) (cd Try.f38 [1,1,0,1,0,0,1,0,0,1,0]) (cd Try.f38 [1,1,0,1,0,0,1,0,0,1,1]) e (inB 1 (setN (setN (inB 0 (setN (kont Pg R Try.f38) (fun e => F38_j1 R (e 3)))) (fun e => k1 (e 0) (e 3) (e 4))) (fun e => F38_j5 R k1 (e 0) (e 3) (e 4)))) _ (F38_j8 R k1 (e 0) (e 3) (e 4)) _ (by kernel_rfl) rfl (F38_j8_ok R k1 e) (by kernel_rfl))
def F38_j6 (R : ER) (k1 : V3) (x0 x3 x4 : Value) : WP :=
  pv (ixStr x0 x4) fun v16 =>
  pv (bin .eql v16 (.int .u8 32)) fun v17 =>
  F38_j7 R k1 x0 x3 x4 v17
theorem F38_j6_ok (R : ER) (k1 : V3) (e : Env) : den Pg R (cd Try.f38 [1,1,0,1,0,0,1,0]) e (setN (setN (inB 0 (setN (kont Pg R Try.f38) (fun e => F38_j1 R (e 3)))) (fun e => k1 (e 0) (e 3) (e 4))) (fun e => F38_j5 R k1 (e 0) (e 3) (e 4))) = (F38_j6 R k1 (e 0) (e 3) (e 4)) := (den_block Pg R (cd Try.f38 [1,1,0,1,0,0,1,0]) 1 (cd Try.f38 [1,1,0,1,0,0,1,0,0]) e (setN (setN (inB 0 (setN (kont Pg R Try.f38) (fun e => F38_j1 R (e 3)))) (fun e => k1 (e 0) (e 3) (e 4))) (fun e => F38_j5 R k1 (e 0) (e 3) (e 4))) _ (by kernel_rfl) (den_join Pg R 0 (cd Try.f38 [1,1,0,1,0,0,1,0,0]) (cd Try.f38 [1,1,0,1,0,0,1,0,0,1]) e (inB 1 (setN (setN (inB 0 (setN (kont Pg R Try.f38) (fun e => F38_j1 R (e 3)))) (fun e => k1 (e 0) (e 3) (e 4))) (fun e => F38_j5 R k1 (e 0) (e 3) (e 4)))) (fun e => F38_j7 R k1 (e 0) (e 3) (e 4) (e 15)) _ (by kernel_rfl) (fun e => F38_j7_ok R k1 e) (by kernel_rfl)))
def F38_j4 (R : ER) (k1 : V3) (x0 x3 x4 : Value) : WP :=
  F38_j6 R k1 x0 x3 x4
theorem F38_j4_ok (R : ER) (k1 : V3) (e : Env) : den Pg R (cd Try.f38 [1,1,0,1,0,0,1]) e (setN (inB 0 (setN (kont Pg R Try.f38) (fun e => F38_j1 R (e 3)))) (fun e => k1 (e 0) (e 3) (e 4))) = (F38_j4 R k1 (e 0) (e 3) (e 4)) := (den_join Pg R 0 (cd Try.f38 [1,1,0,1,0,0,1]) (cd Try.f38 [1,1,0,1,0,0,1,1]) e (setN (inB 0 (setN (kont Pg R Try.f38) (fun e => F38_j1 R (e 3)))) (fun e => k1 (e 0) (e 3) (e 4))) (fun e => F38_j5 R k1 (e 0) (e 3) (e 4)) _ (by kernel_rfl) (fun e => F38_j5_ok R k1 e) (den_conv Pg R (pre 0 (cd Try.f38 [1,1,0,1,0,0,1])) (cd Try.f38 [1,1,0,1,0,0,1,0]) e (setN (setN (inB 0 (setN (kont Pg R Try.f38) (fun e => F38_j1 R (e 3)))) (fun e => k1 (e 0) (e 3) (e 4))) (fun e => F38_j5 R k1 (e 0) (e 3) (e 4))) _ (by kernel_rfl) (F38_j6_ok R k1 e)))
def F38_b1 (R : ER) (k1 : V3) (x0 x3 x4 : Value) : WP :=
  pv (lenStr x0) fun v18 =>
  pv (bin .lss x4 v18) fun v19 =>
  cnd v19 (
   F38_j4 R k1 x0 x3 x4) (
   F38_j1 R x3)
theorem F38_b1_ok (R : ER) (k1 : V3) (e : Env) : den Pg R (cd Try.f38 [1,1,0,1,0,0]) e (setN (inB 0 (setN (kont Pg R Try.f38) (fun e => F38_j1 R (e 3)))) (fun e => k1 (e 0) (e 3) (e 4))) = (F38_b1 R k1 (e 0) (e 3) (e 4)) := (den_join Pg R 0 (cd Try.f38 [1,1,0,1,0,0]) (cd Try.f38 [1,1,0,1,0,0,1]) e (setN (inB 0 (setN (kont Pg R Try.f38) (fun e => F38_j1 R (e 3)))) (fun e => k1 (e 0) (e 3) (e 4))) (fun e => F38_j4 R k1 (e 0) (e 3) (e 4)) _ (by kernel_rfl) (fun e => F38_j4_ok R k1 e) (by kernel_rfl))
noncomputable def F38_l1 (R : ER) (n : Nat) : V3 := Nat.rec (motive := fun _ => V3) (fun _ _ _ => fun _ => False) (fun _ ih => fun x0 x3 x4 => F38_b1 R ih x0 x3 x4) n
theorem F38_l1_succ (R : ER) (n : Nat) (x0 x3 x4 : Value) : F38_l1 R (n + 1) x0 x3 x4 = F38_b1 R (F38_l1 R n) x0 x3 x4 := rfl
theorem F38_l1_ok (R : ER) : ∀ (n : Nat) (e : Env), iterL (den Pg R (cd Try.f38 [1,1,0,1,0,0])) n e (inB 0 (setN (kont Pg R Try.f38) (fun e => F38_j1 R (e 3)))) = F38_l1 R n (e 0) (e 3) (e 4) :=
  iterL_join (den Pg R (cd Try.f38 [1,1,0,1,0,0])) (inB 0 (setN (kont Pg R Try.f38) (fun e => F38_j1 R (e 3)))) (fun n e => F38_l1 R n (e 0) (e 3) (e 4)) (fun _ => rfl) (fun n e => (F38_b1_ok R (F38_l1 R n) e).trans (F38_l1_succ R n (e 0) (e 3) (e 4)).symm)
def F38_j3 (R : ER) (x0 x3 x4 : Value) : WP :=
  exN fun n => F38_l1 R n x0 x3 x4
theorem F38_j3_ok (R : ER) (e : Env) : den Pg R (cd Try.f38 [1,1,0,1]) e (setN (kont Pg R Try.f38) (fun e => F38_j1 R (e 3))) = (F38_j3 R (e 0) (e 3) (e 4)) := (den_block Pg R (cd Try.f38 [1,1,0,1]) 0 (cd Try.f38 [1,1,0,1,0]) e (setN (kont Pg R Try.f38) (fun e => F38_j1 R (e 3))) _ (by kernel_rfl) (den_loop Pg R (cd Try.f38 [1,1,0,1,0]) (cd Try.f38 [1,1,0,1,0,0]) e (inB 0 (setN (kont Pg R Try.f38) (fun e => F38_j1 R (e 3)))) (fun n e => F38_l1 R n (e 0) (e 3) (e 4)) _ (by kernel_rfl) (F38_l1_ok R) (by kernel_rfl)))
def F38_j2 (R : ER) (x0 x3 : Value) : WP :=
  F38_j3 R x0 x3 (.int .i64 0)
theorem F38_j2_ok (R : ER) (e : Env) : den Pg R (cd Try.f38 [1,1,0]) e (setN (kont Pg R Try.f38) (fun e => F38_j1 R (e 3))) = (F38_j2 R (e 0) (e 3)) := (den_join Pg R 0 (cd Try.f38 [1,1,0]) (cd Try.f38 [1,1,0,1]) e (setN (kont Pg R Try.f38) (fun e => F38_j1 R (e 3))) (fun e => F38_j3 R (e 0) (e 3) (e 4)) _ (by kernel_rfl) (fun e => F38_j3_ok R e) (by kernel_rfl))
def F38 (R : ER) (x0 : Value) : WP :=
  valV Pg R (Instr.buildSlice 104 1 ⟨[(0, (.string ⟨⟨[]⟩⟩))]⟩) fun v20 =>
  F38_j2 R x0 v20
theorem F38_den (R : ER) (x0 : Value) : den Pg R (cd Try.f38 []) (argsEnv [x0]) (kont Pg R Try.f38) = F38 R x0 :=
  have h : ∀ e, den Pg R (cd Try.f38 []) e (kont Pg R Try.f38) = F38 R (e 0) := fun e => (den_join Pg R 2 (cd Try.f38 []) (cd Try.f38 [1,1,1]) e (kont Pg R Try.f38) (fun e => F38_j1 R (e 3)) _ (by kernel_rfl) (fun e => F38_j1_ok R e) (den_join Pg R 1 (pre 2 (cd Try.f38 [])) (cd Try.f38 [1,1,0]) e (setN (kont Pg R Try.f38) (fun e => F38_j1 R (e 3))) (fun e => F38_j2 R (e 0) (e 3)) _ (by kernel_rfl) (fun e => F38_j2_ok R e) (by kernel_rfl)))
  h _
theorem F38_calls {R : ER} {x0 : Value} {w : World} (h : F38 R x0 w) : Calls Pg 38 ⟨[x0]⟩ w R :=
  calls_of_den Try.func38 (by kernel_rfl) (by kernel_rfl) (F38_den R x0) h
/-! ### 39: orpimentref39_number -/
def F39_j1 (R : ER) (x0 x4 x5 : Value) : WP :=
  drewV (
  pv (slStr x0 (some x5) none) fun v1 =>
  R (.returned (.tuple ⟨[x4, v1]⟩)))
theorem F39_j1_ok (R : ER) (e : Env) : den Pg R (cd Try.f39 [1,1,1]) e (kont Pg R Try.f39) = (F39_j1 R (e 0) (e 4) (e 5)) := by kernel_rfl
def F39_j3 (R : ER) (k1 : V3) (x0 x4 x5 : Value) : WP :=
  pv (bin .mul (.int .i64 10) x4) fun v2 =>
  pv (ixStr x0 x5) fun v3 =>
  pv (bin .sub v3 (.int .u8 48)) fun v4 =>
  pv (cvI .i64 v4) fun v5 =>
  pv (bin .add v2 v5) fun v6 =>
  pv (bin .add x5 (.int .i64 1)) fun v7 =>
  k1 x0 v6 v7
theorem F39_j3_ok (R : ER) (k1 : V3) (e : Env) : den Pg R (cd Try.f39 [1,1,0,0,0,1]) e (setN (inB 0 (setN (kont Pg R Try.f39) (fun e => F39_j1 R (e 0) (e 4) (e 5)))) (fun e => k1 (e 0) (e 4) (e 5))) = (F39_j3 R k1 (e 0) (e 4) (e 5)) := by kernel_rfl
def F39_j4 (R : ER) (k1 : V3) (x0 x4 x5 : Value) : WP :=
  pv (lenStr x0) fun v8 =>
  pv (bin .lss x5 v8) fun v9 =>
  gd v9 true (pv (some x5)) fun v10 =>
  gd v9 true (pv (bin .lss v10 (.int .i64 5))) fun v11 =>
  pv (pickO v9 v11 (.bool false)) fun v12 =>
  gd v12 true (pv (some x0)) fun v13 =>
  gd v12 true (pv (some x5)) fun v14 =>
  gd v12 true (pv (ixStr v13 v14)) fun v15 =>
  gd v12 true (pv (bin .geq v15 (.int .u8 48))) fun v16 =>
  pv (pickO v12 v16 (.bool false)) fun v17 =>
  gd v17 true (pv (some x0)) fun v18 =>
  gd v17 true (pv (some x5)) fun v19 =>
  gd v17 true (pv (ixStr v18 v19)) fun v20 =>
  gd v17 true (pv (bin .leq v20 (.int .u8 57))) fun v21 =>
  pv (pickO v17 v21 (.bool false)) fun v22 =>
  cnd v22 (
   F39_j3 R k1 x0 x4 x5) (
   F39_j1 R x0 x4 x5)
theorem F39_j4_ok (R : ER) (k1 : V3) (e : Env) : den Pg R (cd Try.f39 [1,1,0,0,0,0]) e (setN (setN (inB 0 (setN (kont Pg R Try.f39) (fun e => F39_j1 R (e 0) (e 4) (e 5)))) (fun e => k1 (e 0) (e 4) (e 5))) (fun e => F39_j3 R k1 (e 0) (e 4) (e 5))) = (F39_j4 R k1 (e 0) (e 4) (e 5)) := (by kernel_rfl)
def F39_b1 (R : ER) (k1 : V3) (x0 x4 x5 : Value) : WP :=
  F39_j4 R k1 x0 x4 x5
theorem F39_b1_ok (R : ER) (k1 : V3) (e : Env) : den Pg R (cd Try.f39 [1,1,0,0,0]) e (setN (inB 0 (setN (kont Pg R Try.f39) (fun e => F39_j1 R (e 0) (e 4) (e 5)))) (fun e => k1 (e 0) (e 4) (e 5))) = (F39_b1 R k1 (e 0) (e 4) (e 5)) := (den_join Pg R 0 (cd Try.f39 [1,1,0,0,0]) (cd Try.f39 [1,1,0,0,0,1]) e (setN (inB 0 (setN (kont Pg R Try.f39) (fun e => F39_j1 R (e 0) (e 4) (e 5)))) (fun e => k1 (e 0) (e 4) (e 5))) (fun e => F39_j3 R k1 (e 0) (e 4) (e 5)) _ (by kernel_rfl) (fun e => F39_j3_ok R k1 e) (den_conv Pg R (pre 0 (cd Try.f39 [1,1,0,0,0])) (cd Try.f39 [1,1,0,0,0,0]) e (setN (setN (inB 0 (setN (kont Pg R Try.f39) (fun e => F39_j1 R (e 0) (e 4) (e 5)))) (fun e => k1 (e 0) (e 4) (e 5))) (fun e => F39_j3 R k1 (e 0) (e 4) (e 5))) _ (by kernel_rfl) (F39_j4_ok R k1 e)))
noncomputable def F39_l1 (R : ER) (n : Nat) : V3 := Nat.rec (motive := fun _ => V3) (fun _ _ _ => fun _ => False) (fun _ ih => fun x0 x4 x5 => F39_b1 R ih x0 x4 x5) n
theorem F39_l1_succ (R : ER) (n : Nat) (x0 x4 x5 : Value) : F39_l1 R (n + 1) x0 x4 x5 = F39_b1 R (F39_l1 R n) x0 x4 x5 := rfl
theorem F39_l1_ok (R : ER) : ∀ (n : Nat) (e : Env), iterL (den Pg R (cd Try.f39 [1,1,0,0,0])) n e (inB 0 (setN (kont Pg R Try.f39) (fun e => F39_j1 R (e 0) (e 4) (e 5)))) = F39_l1 R n (e 0) (e 4) (e 5) :=
  iterL_join (den Pg R (cd Try.f39 [1,1,0,0,0])) (inB 0 (setN (kont Pg R Try.f39) (fun e => F39_j1 R (e 0) (e 4) (e 5)))) (fun n e => F39_l1 R n (e 0) (e 4) (e 5)) (fun _ => rfl) (fun n e => (F39_b1_ok R (F39_l1 R n) e).trans (F39_l1_succ R n (e 0) (e 4) (e 5)).symm)
def F39_j2 (R : ER) (x0 x4 x5 : Value) : WP :=
  exN fun n => F39_l1 R n x0 x4 x5
theorem F39_j2_ok (R : ER) (e : Env) : den Pg R (cd Try.f39 [1,1,0]) e (setN (kont Pg R Try.f39) (fun e => F39_j1 R (e 0) (e 4) (e 5))) = (F39_j2 R (e 0) (e 4) (e 5)) := (den_block Pg R (cd Try.f39 [1,1,0]) 0 (cd Try.f39 [1,1,0,0]) e (setN (kont Pg R Try.f39) (fun e => F39_j1 R (e 0) (e 4) (e 5))) _ (by kernel_rfl) (den_loop Pg R (cd Try.f39 [1,1,0,0]) (cd Try.f39 [1,1,0,0,0]) e (inB 0 (setN (kont Pg R Try.f39) (fun e => F39_j1 R (e 0) (e 4) (e 5)))) (fun n e => F39_l1 R n (e 0) (e 4) (e 5)) _ (by kernel_rfl) (F39_l1_ok R) (by kernel_rfl)))
def F39 (R : ER) (x0 : Value) : WP :=
  F39_j2 R x0 (.int .i64 0) (.int .i64 0)
theorem F39_den (R : ER) (x0 : Value) : den Pg R (cd Try.f39 []) (argsEnv [x0]) (kont Pg R Try.f39) = F39 R x0 :=
  have h : ∀ e, den Pg R (cd Try.f39 []) e (kont Pg R Try.f39) = F39 R (e 0) := fun e => (den_join Pg R 2 (cd Try.f39 []) (cd Try.f39 [1,1,1]) e (kont Pg R Try.f39) (fun e => F39_j1 R (e 0) (e 4) (e 5)) _ (by kernel_rfl) (fun e => F39_j1_ok R e) (den_join Pg R 1 (pre 2 (cd Try.f39 [])) (cd Try.f39 [1,1,0]) e (setN (kont Pg R Try.f39) (fun e => F39_j1 R (e 0) (e 4) (e 5))) (fun e => F39_j2 R (e 0) (e 4) (e 5)) _ (by kernel_rfl) (fun e => F39_j2_ok R e) (by kernel_rfl)))
  h _
theorem F39_calls {R : ER} {x0 : Value} {w : World} (h : F39 R x0 w) : Calls Pg 39 ⟨[x0]⟩ w R :=
  calls_of_den Try.func39 (by kernel_rfl) (by kernel_rfl) (F39_den R x0) h
/-! ### 40: orpimentref39_pattern -/
def F40_j2 (R : ER) (x2 x3 : Value) : WP :=
  ldN 3 x3 fun v1 =>
  stN 3 x2 v1 fun _ =>
  ldN 3 x2 fun v2 => R (.returned v2)
theorem F40_j2_ok (R : ER) (e : Env) : den Pg R (cd Try.f40 [1,1,1,1]) e (kont Pg R Try.f40) = (F40_j2 R (e 2) (e 3)) := by kernel_rfl
def F40_j6 (R : ER) (k1 : V4) (x0 x2 x3 x4 : Value) : WP :=
  pv (bin .add x4 (.int .i64 1)) fun v3 =>
  k1 x0 x2 x3 v3
theorem F40_j6_ok (R : ER) (k1 : V4) (e : Env) : den Pg R (cd Try.f40 [1,1,1,0,1,0,0,1,1]) e (setN (inB 0 (setN (kont Pg R Try.f40) (fun e => F40_j2 R (e 2) (e 3)))) (fun e => k1 (e 0) (e 2) (e 3) (e 4))) = (F40_j6 R k1 (e 0) (e 2) (e 3) (e 4)) := by kernel_rfl
def F40_j8 (R : ER) (k1 : V4) (x2 x3 x4 x6 : Value) : WP :=
  pv (lenStr x6) fun v4 =>
  pv (bin .gtr v4 (.int .i64 0)) fun v5 =>
  cnd v5 (
   pv (slStr x6 (some (.int .i64 1)) none) fun v6 =>
   F40_j6 R k1 v6 x2 x3 x4) (
   F40_j6 R k1 x6 x2 x3 x4)
theorem F40_j8_ok (R : ER) (k1 : V4) (e : Env) : den Pg R (cd Try.f40 [1,1,1,0,1,0,0,1,0,0,1,1]) e (inB 1 (setN (setN (inB 0 (setN (kont Pg R Try.f40) (fun e => F40_j2 R (e 2) (e 3)))) (fun e => k1 (e 0) (e 2) (e 3) (e 4))) (fun e => F40_j6 R k1 (e 0) (e 2) (e 3) (e 4)))) = (F40_j8 R k1 (e 2) (e 3) (e 4) (e 6)) := by kernel_rfl
def F40_j9 (R : ER) (k1 : V4) (x2 x3 x4 x5 x6 : Value) : WP :=
  pv (bin .lss x4 (.int .i64 4)) fun v7 =>
  cnd v7 (
   pv (faO 0 x3) fun v8 =>
   ld1 v8 fun v9 =>
   pv (bin .shl v9 (.int .u64 8)) fun v10 =>
   pv (bin .rem x5 (.int .i64 256)) fun v11 =>
   pv (cvI .u32 v11) fun v12 =>
   pv (bin .or v10 v12) fun v13 =>
   pv (faO 0 x3) fun v14 =>
   st1 v14 v13 fun _ =>
   F40_j8 R k1 x2 x3 x4 x6) (
   pv (faO 1 x3) fun v15 =>
   st1 v15 x5 fun _ =>
   F40_j8 R k1 x2 x3 x4 x6)
theorem F40_j9_ok (R : ER) (k1 : V4) (e : Env) : den Pg R (cd Try.f40 [1,1,1,0,1,0,0,1,0,0,1,0]) e (setN (inB 1 (setN (setN (inB 0 (setN (kont Pg R Try.f40) (fun e => F40_j2 R (e 2) (e 3)))) (fun e => k1 (e 0) (e 2) (e 3) (e 4))) (fun e => F40_j6 R k1 (e 0) (e 2) (e 3) (e 4)))) (fun e => F40_j8 R k1 (e 2) (e 3) (e 4) (e 6))) = (F40_j9 R k1 (e 2) (e 3) (e 4) (e 5) (e 6)) := (by kernel_rfl)
def F40_j7 (R : ER) (k1 : V4) (x0 x2 x3 x4 : Value) : WP :=
  cal Pg R 39 ⟨[x0]⟩ fun v16 =>
  pv (extO 0 v16) fun v17 =>
  pv (extO 1 v16) fun v18 =>
  F40_j9 R k1 x2 x3 x4 v17 v18
theorem F40_j7_ok (R : ER) (k1 : V4) (e : Env) : den Pg R (cd Try.f40 [1,1,1,0,1,0,0,1,0]) e (setN (setN (inB 0 (setN (kont Pg R Try.f40) (fun e => F40_j2 R (e 2) (e 3)))) (fun e => k1 (e 0) (e 2) (e 3) (e 4))) (fun e => F40_j6 R k1 (e 0) (e 2) (e 3) (e 4))) = (F40_j7 R k1 (e 0) (e 2) (e 3) (e 4)) := (den_block Pg R (cd Try.f40 [1,1,1,0,1,0,0,1,0]) 1 (cd Try.f40 [1,1,1,0,1,0,0,1,0,0]) e (setN (setN (inB 0 (setN (kont Pg R Try.f40) (fun e => F40_j2 R (e 2) (e 3)))) (fun e => k1 (e 0) (e 2) (e 3) (e 4))) (fun e => F40_j6 R k1 (e 0) (e 2) (e 3) (e 4))) _ (by kernel_rfl) (den_join Pg R 1 (cd Try.f40 [1,1,1,0,1,0,0,1,0,0]) (cd Try.f40 [1,1,1,0,1,0,0,1,0,0,1,1]) e (inB 1 (setN (setN (inB 0 (setN (kont Pg R Try.f40) (fun e => F40_j2 R (e 2) (e 3)))) (fun e => k1 (e 0) (e 2) (e 3) (e 4))) (fun e => F40_j6 R k1 (e 0) (e 2) (e 3) (e 4)))) (fun e => F40_j8 R k1 (e 2) (e 3) (e 4) (e 6)) _ (by kernel_rfl) (fun e => F40_j8_ok R k1 e) (den_join Pg R 0 (pre 1 (cd Try.f40 [1,1,1,0,1,0,0,1,0,0])) (cd Try.f40 [1,1,1,0,1,0,0,1,0,0,1,0]) e (setN (inB 1 (setN (setN (inB 0 (setN (kont Pg R Try.f40) (fun e => F40_j2 R (e 2) (e 3)))) (fun e => k1 (e 0) (e 2) (e 3) (e 4))) (fun e => F40_j6 R k1 (e 0) (e 2) (e 3) (e 4)))) (fun e => F40_j8 R k1 (e 2) (e 3) (e 4) (e 6))) (fun e => F40_j9 R k1 (e 2) (e 3) (e 4) (e 5) (e 6)) _ (by kernel_rfl) (fun e => F40_j9_ok R k1 e) (by kernel_rfl))))
def F40_j5 (R : ER) (k1 : V4) (x0 x2 x3 x4 : Value) : WP :=
  F40_j7 R k1 x0 x2 x3 x4
theorem F40_j5_ok (R : ER) (k1 : V4) (e : Env) : den Pg R (cd Try.f40 [1,1,1,0,1,0,0,1]) e (setN (inB 0 (setN (kont Pg R Try.f40) (fun e => F40_j2 R (e 2) (e 3)))) (fun e => k1 (e 0) (e 2) (e 3) (e 4))) = (F40_j5 R k1 (e 0) (e 2) (e 3) (e 4)) := (den_join Pg R 0 (cd Try.f40 [1,1,1,0,1,0,0,1]) (cd Try.f40 [1,1,1,0,1,0,0,1,1]) e (setN (inB 0 (setN (kont Pg R Try.f40) (fun e => F40_j2 R (e 2) (e 3)))) (fun e => k1 (e 0) (e 2) (e 3) (e 4))) (fun e => F40_j6 R k1 (e 0) (e 2) (e 3) (e 4)) _ (by kernel_rfl) (fun e => F40_j6_ok R k1 e) (den_conv Pg R (pre 0 (cd Try.f40 [1,1,1,0,1,0,0,1])) (cd Try.f40 [1,1,1,0,1,0,0,1,0]) e (setN (setN (inB 0 (setN (kont Pg R Try.f40) (fun e => F40_j2 R (e 2) (e 3)))) (fun e => k1 (e 0) (e 2) (e 3) (e 4))) (fun e => F40_j6 R k1 (e 0) (e 2) (e 3) (e 4))) _ (by kernel_rfl) (F40_j7_ok R k1 e)))
def F40_b1 (R : ER) (k1 : V4) (x0 x2 x3 x4 : Value) : WP :=
  pv (bin .lss x4 (.int .i64 5)) fun v19 =>
  cnd v19 (
   F40_j5 R k1 x0 x2 x3 x4) (
   F40_j2 R x2 x3)
theorem F40_b1_ok (R : ER) (k1 : V4) (e : Env) : den Pg R (cd Try.f40 [1,1,1,0,1,0,0]) e (setN (inB 0 (setN (kont Pg R Try.f40) (fun e => F40_j2 R (e 2) (e 3)))) (fun e => k1 (e 0) (e 2) (e 3) (e 4))) = (F40_b1 R k1 (e 0) (e 2) (e 3) (e 4)) := (den_join Pg R 0 (cd Try.f40 [1,1,1,0,1,0,0]) (cd Try.f40 [1,1,1,0,1,0,0,1]) e (setN (inB 0 (setN (kont Pg R Try.f40) (fun e => F40_j2 R (e 2) (e 3)))) (fun e => k1 (e 0) (e 2) (e 3) (e 4))) (fun e => F40_j5 R k1 (e 0) (e 2) (e 3) (e 4)) _ (by kernel_rfl) (fun e => F40_j5_ok R k1 e) (by kernel_rfl))
noncomputable def F40_l1 (R : ER) (n : Nat) : V4 := Nat.rec (motive := fun _ => V4) (fun _ _ _ _ => fun _ => False) (fun _ ih => fun x0 x2 x3 x4 => F40_b1 R ih x0 x2 x3 x4) n
theorem F40_l1_succ (R : ER) (n : Nat) (x0 x2 x3 x4 : Value) : F40_l1 R (n + 1) x0 x2 x3 x4 = F40_b1 R (F40_l1 R n) x0 x2 x3 x4 := rfl
theorem F40_l1_ok (R : ER) : ∀ (n : Nat) (e : Env), iterL (den Pg R (cd Try.f40 [1,1,1,0,1,0,0])) n e (inB 0 (setN (kont Pg R Try.f40) (fun e => F40_j2 R (e 2) (e 3)))) = F40_l1 R n (e 0) (e 2) (e 3) (e 4) :=
  iterL_join (den Pg R (cd Try.f40 [1,1,1,0,1,0,0])) (inB 0 (setN (kont Pg R Try.f40) (fun e => F40_j2 R (e 2) (e 3)))) (fun n e => F40_l1 R n (e 0) (e 2) (e 3) (e 4)) (fun _ => rfl) (fun n e => (F40_b1_ok R (F40_l1 R n) e).trans (F40_l1_succ R n (e 0) (e 2) (e 3) (e 4)).symm)
def F40_j4 (R : ER) (x0 x2 x3 x4 : Value) : WP :=
  exN fun n => F40_l1 R n x0 x2 x3 x4
theorem F40_j4_ok (R : ER) (e : Env) : den Pg R (cd Try.f40 [1,1,1,0,1]) e (setN (kont Pg R Try.f40) (fun e => F40_j2 R (e 2) (e 3))) = (F40_j4 R (e 0) (e 2) (e 3) (e 4)) := (den_block Pg R (cd Try.f40 [1,1,1,0,1]) 0 (cd Try.f40 [1,1,1,0,1,0]) e (setN (kont Pg R Try.f40) (fun e => F40_j2 R (e 2) (e 3))) _ (by kernel_rfl) (den_loop Pg R (cd Try.f40 [1,1,1,0,1,0]) (cd Try.f40 [1,1,1,0,1,0,0]) e (inB 0 (setN (kont Pg R Try.f40) (fun e => F40_j2 R (e 2) (e 3)))) (fun n e => F40_l1 R n (e 0) (e 2) (e 3) (e 4)) _ (by kernel_rfl) (F40_l1_ok R) (by kernel_rfl)))
def F40_j3 (R : ER) (x0 x2 x3 : Value) : WP :=
  F40_j4 R x0 x2 x3 (.int .i64 0)
theorem F40_j3_ok (R : ER) (e : Env) : den Pg R (cd Try.f40 [1,1,1,0]) e (setN (kont Pg R Try.f40) (fun e => F40_j2 R (e 2) (e 3))) = (F40_j3 R (e 0) (e 2) (e 3)) := (den_join Pg R 0 (cd Try.f40 [1,1,1,0]) (cd Try.f40 [1,1,1,0,1]) e (setN (kont Pg R Try.f40) (fun e => F40_j2 R (e 2) (e 3))) (fun e => F40_j4 R (e 0) (e 2) (e 3) (e 4)) _ (by kernel_rfl) (fun e => F40_j4_ok R e) (by kernel_rfl))
def F40_j1 (R : ER) (x0 x2 x3 : Value) : WP :=
  F40_j3 R x0 x2 x3
theorem F40_j1_ok (R : ER) (e : Env) : den Pg R (cd Try.f40 [1,1,1]) e (kont Pg R Try.f40) = (F40_j1 R (e 0) (e 2) (e 3)) := (den_join Pg R 0 (cd Try.f40 [1,1,1]) (cd Try.f40 [1,1,1,1]) e (kont Pg R Try.f40) (fun e => F40_j2 R (e 2) (e 3)) _ (by kernel_rfl) (fun e => F40_j2_ok R e) (den_conv Pg R (pre 0 (cd Try.f40 [1,1,1])) (cd Try.f40 [1,1,1,0]) e (setN (kont Pg R Try.f40) (fun e => F40_j2 R (e 2) (e 3))) _ (by kernel_rfl) (F40_j3_ok R e)))
def F40_j10 (R : ER) (x0 x2 x3 : Value) : WP :=
  pv (lenStr x0) fun v20 =>
  pv (bin .gtr v20 (.int .i64 0)) fun v21 =>
  gd v21 true (pv (some x0)) fun v22 =>
  gd v21 true (pv (ixStr v22 (.int .i64 0))) fun v23 =>
  gd v21 true (pv (bin .eql v23 (.int .u8 33))) fun v24 =>
  pv (pickO v21 v24 (.bool false)) fun v25 =>
  cnd v25 (
   drewV (
   pv (slStr x0 (some (.int .i64 1)) none) fun v26 =>
   pv (faO 2 x3) fun v27 =>
   mem fun w29 => st1 v27 (.bool true) fun v28 =>
   F40_j1 R v26 x2 x3)) (
   F40_j1 R x0 x2 x3)
theorem F40_j10_ok (R : ER) (e : Env) : den Pg R (cd Try.f40 [1,1,0]) e (setN (kont Pg R Try.f40) (fun e => F40_j1 R (e 0) (e 2) (e 3))) = (F40_j10 R (e 0) (e 2) (e 3)) := (by kernel_rfl)
def F40 (R : ER) (x0 : Value) : WP :=
  al Pg 35 fun v30 =>
  pv (bldO [.int .u32 0, .int .i64 0, .bool false] []) fun v31 =>
  al Pg 35 fun v32 =>
  stN 3 v32 v31 fun _ =>
  F40_j10 R x0 v30 v32
theorem F40_den (R : ER) (x0 : Value) : den Pg R (cd Try.f40 []) (argsEnv [x0]) (kont Pg R Try.f40) = F40 R x0 :=
  have h : ∀ e, den Pg R (cd Try.f40 []) e (kont Pg R Try.f40) = F40 R (e 0) := fun e => (den_join Pg R 2 (cd Try.f40 []) (cd Try.f40 [1,1,1]) e (kont Pg R Try.f40) (fun e => F40_j1 R (e 0) (e 2) (e 3)) _ (by kernel_rfl) (fun e => F40_j1_ok R e) (den_join Pg R 1 (pre 2 (cd Try.f40 [])) (cd Try.f40 [1,1,0]) e (setN (kont Pg R Try.f40) (fun e => F40_j1 R (e 0) (e 2) (e 3))) (fun e => F40_j10 R (e 0) (e 2) (e 3)) _ (by kernel_rfl) (fun e => F40_j10_ok R e) (by kernel_rfl)))
  h _
theorem F40_calls {R : ER} {x0 : Value} {w : World} (h : F40 R x0 w) : Calls Pg 40 ⟨[x0]⟩ w R :=
  calls_of_den Try.func40 (by kernel_rfl) (by kernel_rfl) (F40_den R x0) h
/-! ### 41: orpimentref39_Text -/
def F41_j5 (R : ER) (x5 : Value) : WP :=
  R (.returned (.tuple ⟨[x5, (.int .i64 0)]⟩))
theorem F41_j5_ok (R : ER) (e : Env) : den Pg R (cd Try.f41 [1,1,1,1,1,1,1,1,1]) e (kont Pg R Try.f41) = (F41_j5 R (e 5)) := by kernel_rfl
def F41_j4 (R : ER) (x1 x5 : Value) : WP :=
  drewV (
  pv (faO 6 x1) fun v1 =>
  ldN 3 v1 fun v2 =>
  pv (faO 12 x1) fun v3 =>
  ldN 2 v3 fun v4 =>
  mem fun w6 => cal Pg noR 68 ⟨[(.string ⟨⟨[102,114,111,109]⟩⟩), v2, v4]⟩ fun v5 =>
  pv (binS .add x5 v5) fun v7 =>
  pv (faO 9 x1) fun v8 =>
  ldNS [w6] 3 v8 fun v9 =>
  pv (faO 14 x1) fun v10 =>
  ldNS [w6] 2 v10 fun v11 =>
  mem fun w13 => cal Pg noR 68 ⟨[(.string ⟨⟨[116,111]⟩⟩), v9, v11]⟩ fun v12 =>
  pv (binS .add v7 v12) fun v14 =>
  pv (faO 2 x1) fun v15 =>
  ld1 v15 fun v16 =>
  cnd v16 (
   pv (binS .add v14 (.string ⟨⟨[32,107,101,101,112]⟩⟩)) fun v17 =>
   F41_j5 R v17) (
   F41_j5 R v14))
theorem F41_j4_ok (R : ER) (e : Env) : den Pg R (cd Try.f41 [1,1,1,1,1,1,1]) e (kont Pg R Try.f41) = (F41_j4 R (e 1) (e 5)) := (den_join Pg R 1 (cd Try.f41 [1,1,1,1,1,1,1]) (cd Try.f41 [1,1,1,1,1,1,1,1,1]) e (kont Pg R Try.f41) (fun e => F41_j5 R (e 5)) _ (by kernel_rfl) (fun e => F41_j5_ok R e) (by kernel_rfl))
def F41_j3 (R : ER) (x1 x5 : Value) : WP :=
  pv (faO 5 x1) fun v18 =>
  ld1 v18 fun v19 =>
  pv (bin .geq v19 (.int .i64 0)) fun v20 =>
  cnd v20 (
   pv (binS .add x5 (.string ⟨⟨[32,112,114,111,116,111,32]⟩⟩)) fun v21 =>
   pv (faO 5 x1) fun v22 =>
   ld1 v22 fun v23 =>
   cal Pg R 67 ⟨[v23]⟩ fun v24 =>
   pv (binS .add v21 v24) fun v25 =>
   F41_j4 R x1 v25) (
   F41_j4 R x1 x5)
theorem F41_j3_ok (R : ER) (e : Env) : den Pg R (cd Try.f41 [1,1,1,1,1,1]) e (kont Pg R Try.f41) = (F41_j3 R (e 1) (e 5)) := (den_join Pg R 0 (cd Try.f41 [1,1,1,1,1,1]) (cd Try.f41 [1,1,1,1,1,1,1]) e (kont Pg R Try.f41) (fun e => F41_j4 R (e 1) (e 5)) _ (by kernel_rfl) (fun e => F41_j4_ok R e) (by kernel_rfl))
def F41_j2 (R : ER) (x1 x5 : Value) : WP :=
  valV Pg R (Instr.buildSlice 104 4 ⟨[(0, (.string ⟨⟨[]⟩⟩)), (1, (.string ⟨⟨[32,105,110]⟩⟩)), (2, (.string ⟨⟨[32,111,117,116]⟩⟩)), (3, (.string ⟨⟨[]⟩⟩))]⟩) fun v26 =>
  pv (faO 3 x1) fun v27 =>
  ld1 v27 fun v28 =>
  pv (ixS 1 v26 v28) fun v29 =>
  ld1 v29 fun v30 =>
  pv (binS .add x5 v30) fun v31 =>
  pv (faO 4 x1) fun v32 =>
  ld1 v32 fun v33 =>
  pv (bin .geq v33 (.int .i64 0)) fun v34 =>
  cnd v34 (
   pv (binS .add v31 (.string ⟨⟨[32,111,110,32]⟩⟩)) fun v35 =>
   pv (faO 4 x1) fun v36 =>
   ld1 v36 fun v37 =>
   cal Pg R 67 ⟨[v37]⟩ fun v38 =>
   pv (binS .add v35 v38) fun v39 =>
   F41_j3 R x1 v39) (
   F41_j3 R x1 v31)
theorem F41_j2_ok (R : ER) (e : Env) : den Pg R (cd Try.f41 [1,1,1,1]) e (kont Pg R Try.f41) = (F41_j2 R (e 1) (e 5)) := (den_join Pg R 1 (cd Try.f41 [1,1,1,1]) (cd Try.f41 [1,1,1,1,1,1]) e (kont Pg R Try.f41) (fun e => F41_j3 R (e 1) (e 5)) _ (by kernel_rfl) (fun e => F41_j3_ok R e) (by kernel_rfl))
def F41_j1 (R : ER) (x1 : Value) : WP :=
  valV Pg R (Instr.buildSlice 104 3 ⟨[(0, (.string ⟨⟨[]⟩⟩)), (1, (.string ⟨⟨[112,97,115,115]⟩⟩)), (2, (.string ⟨⟨[98,108,111,99,107]⟩⟩))]⟩) fun v40 =>
  pv (faO 0 x1) fun v41 =>
  ld1 v41 fun v42 =>
  pv (ixS 1 v40 v42) fun v43 =>
  ld1 v43 fun v44 =>
  pv (faO 1 x1) fun v45 =>
  ld1 v45 fun v46 =>
  cnd v46 (
   pv (binS .add v44 (.string ⟨⟨[32,113,117,105,99,107]⟩⟩)) fun v47 =>
   F41_j2 R x1 v47) (
   F41_j2 R x1 v44)
theorem F41_j1_ok (R : ER) (e : Env) : den Pg R (cd Try.f41 [1,1]) e (kont Pg R Try.f41) = (F41_j1 R (e 1)) := (den_join Pg R 1 (cd Try.f41 [1,1]) (cd Try.f41 [1,1,1,1]) e (kont Pg R Try.f41) (fun e => F41_j2 R (e 1) (e 5)) _ (by kernel_rfl) (fun e => F41_j2_ok R e) (by kernel_rfl))
def F41 (R : ER) (x0 : Value) : WP :=
  bx 38 x0 fun v48 =>
  ldN 16 v48 fun v49 =>
  cal Pg R 57 ⟨[v49]⟩ fun v50 =>
  pv (bin .neq v50 (.int .i64 0)) fun v51 =>
  cnd v51 (
   R (.returned (.tuple ⟨[(.string ⟨⟨[]⟩⟩), v50]⟩))) (
   F41_j1 R v48)
theorem F41_den (R : ER) (x0 : Value) : den Pg R (cd Try.f41 []) (argsEnv [x0]) (kont Pg R Try.f41) = F41 R x0 :=
  have h : ∀ e, den Pg R (cd Try.f41 []) e (kont Pg R Try.f41) = F41 R (e 0) := fun e => (den_join Pg R 1 (cd Try.f41 []) (cd Try.f41 [1,1]) e (kont Pg R Try.f41) (fun e => F41_j1 R (e 1)) _ (by kernel_rfl) (fun e => F41_j1_ok R e) (by kernel_rfl))
  h _
theorem F41_calls {R : ER} {x0 : Value} {w : World} (h : F41 R x0 w) : Calls Pg 41 ⟨[x0]⟩ w R :=
  calls_of_den Try.func41 (by kernel_rfl) (by kernel_rfl) (F41_den R x0) h
/-! ### 42: filter_within -/
def F42 (R : ER) (x0 x1 x2 : Value) : WP :=
  pv (bin .geq x0 x1) fun v1 =>
  gd v1 true (pv (some x0)) fun v2 =>
  gd v1 true (pv (some x2)) fun v3 =>
  gd v1 true (pv (bin .leq v2 v3)) fun v4 =>
  pv (pickO v1 v4 (.bool false)) fun v5 =>
  R (.returned v5)
theorem F42_den (R : ER) (x0 x1 x2 : Value) : den Pg R (cd Try.f42 []) (argsEnv [x0, x1, x2]) (kont Pg R Try.f42) = F42 R x0 x1 x2 :=
  have h : ∀ e, den Pg R (cd Try.f42 []) e (kont Pg R Try.f42) = F42 R (e 0) (e 1) (e 2) := fun e => by kernel_rfl
  h _
theorem F42_calls {R : ER} {x0 x1 x2 : Value} {w : World} (h : F42 R x0 x1 x2 w) : Calls Pg 42 ⟨[x0, x1, x2]⟩ w R :=
  calls_of_den Try.func42 (by kernel_rfl) (by kernel_rfl) (F42_den R x0 x1 x2) h
/-! ### 43: filter_Range_valid -/
def F43 (R : ER) (x0 : Value) : WP :=
  bx 27 x0 fun v1 =>
  pv (faO 0 v1) fun v2 =>
  ld1 v2 fun v3 =>
  pv (bin .geq v3 (.int .i64 0)) fun v4 =>
  gd v4 true (pv (faO 0 v1)) fun v5 =>
  gd v4 true (ld1 v5) fun v6 =>
  gd v4 true (pv (faO 1 v1)) fun v7 =>
  gd v4 true (ld1 v7) fun v8 =>
  gd v4 true (pv (bin .leq v6 v8)) fun v9 =>
  pv (pickO v4 v9 (.bool false)) fun v10 =>
  gd v10 true (pv (faO 1 v1)) fun v11 =>
  gd v10 true (ld1 v11) fun v12 =>
  gd v10 true (pv (bin .leq v12 (.int .i64 65535))) fun v13 =>
  pv (pickO v10 v13 (.bool false)) fun v14 =>
  R (.returned v14)
theorem F43_den (R : ER) (x0 : Value) : den Pg R (cd Try.f43 []) (argsEnv [x0]) (kont Pg R Try.f43) = F43 R x0 :=
  have h : ∀ e, den Pg R (cd Try.f43 []) e (kont Pg R Try.f43) = F43 R (e 0) := fun e => by kernel_rfl
  h _
theorem F43_calls {R : ER} {x0 : Value} {w : World} (h : F43 R x0 w) : Calls Pg 43 ⟨[x0]⟩ w R :=
  calls_of_den Try.func43 (by kernel_rfl) (by kernel_rfl) (F43_den R x0) h
/-! ### 44: filter_Pattern_behind -/
def F44 (R : ER) (x0 : Value) : WP :=
  bx 25 x0 fun v1 =>
  pv (faO 0 v1) fun v2 =>
  ld1 v2 fun v3 =>
  pv (cvI .u64 v3) fun v4 =>
  pv (faO 1 v1) fun v5 =>
  ld1 v5 fun v6 =>
  pv (bin .shl v4 v6) fun v7 =>
  pv (bin .and v7 (.int .u64 4294967295)) fun v8 =>
  pv (bin .neq v8 (.int .u64 0)) fun v9 =>
  R (.returned v9)
theorem F44_den (R : ER) (x0 : Value) : den Pg R (cd Try.f44 []) (argsEnv [x0]) (kont Pg R Try.f44) = F44 R x0 :=
  have h : ∀ e, den Pg R (cd Try.f44 []) e (kont Pg R Try.f44) = F44 R (e 0) := fun e => by kernel_rfl
  h _
theorem F44_calls {R : ER} {x0 : Value} {w : World} (h : F44 R x0 w) : Calls Pg 44 ⟨[x0]⟩ w R :=
  calls_of_den Try.func44 (by kernel_rfl) (by kernel_rfl) (F44_den R x0) h
/-! ### 45: filter_checkPacket -/
def F45 (R : ER) (x0 : Value) : WP :=
  bx 45 x0 fun v1 =>
  pv (faO 0 v1) fun v2 =>
  ld1 v2 fun v3 =>
  cal Pg R 42 ⟨[v3, (.int .i64 1), (.int .i64 2)]⟩ fun v4 =>
  pv (unO .not v4) fun v5 =>
  cnd v5 (
   R (.returned (.int .i64 17))) (
   pv (faO 1 v1) fun v6 =>
   ld1 v6 fun v7 =>
   cal Pg R 42 ⟨[v7, (.int .i64 0), (.int .i64 255)]⟩ fun v8 =>
   pv (unO .not v8) fun v9 =>
   gd v9 false (pv (faO 4 v1)) fun v10 =>
   gd v9 false (ld1 v10) fun v11 =>
   gd v9 false (cal Pg R 42 ⟨[v11, (.int .i64 0), (.int .i64 255)]⟩) fun v12 =>
   gd v9 false (pv (unO .not v12)) fun v13 =>
   pv (pickO v9 (.bool true) v13) fun v14 =>
   gd v14 false (pv (faO 5 v1)) fun v15 =>
   gd v14 false (ld1 v15) fun v16 =>
   gd v14 false (cal Pg R 42 ⟨[v16, (.int .i64 0), (.int .i64 65535)]⟩) fun v17 =>
   gd v14 false (pv (unO .not v17)) fun v18 =>
   pv (pickO v14 (.bool true) v18) fun v19 =>
   gd v19 false (pv (faO 6 v1)) fun v20 =>
   gd v19 false (ld1 v20) fun v21 =>
   gd v19 false (cal Pg R 42 ⟨[v21, (.int .i64 0), (.int .i64 65535)]⟩) fun v22 =>
   gd v19 false (pv (unO .not v22)) fun v23 =>
   pv (pickO v19 (.bool true) v23) fun v24 =>
   cnd v24 (
    R (.returned (.int .i64 34))) (
    R (.returned (.int .i64 0))))
theorem F45_den (R : ER) (x0 : Value) : den Pg R (cd Try.f45 []) (argsEnv [x0]) (kont Pg R Try.f45) = F45 R x0 :=
  have h : ∀ e, den Pg R (cd Try.f45 []) e (kont Pg R Try.f45) = F45 R (e 0) := fun e => (by kernel_rfl)
  h _
theorem F45_calls {R : ER} {x0 : Value} {w : World} (h : F45 R x0 w) : Calls Pg 45 ⟨[x0]⟩ w R :=
  calls_of_den Try.func45 (by kernel_rfl) (by kernel_rfl) (F45_den R x0) h
/-! ### 46: filter_Rule_fits -/
def F46 (R : ER) (x0 x1 : Value) : WP :=
  bx 29 x0 fun v1 =>
  bx 45 x1 fun v2 =>
  pv (faO 3 v1) fun v3 =>
  ld1 v3 fun v4 =>
  pv (faO 0 v2) fun v5 =>
  ld1 v5 fun v6 =>
  pv (bin .and v4 v6) fun v7 =>
  pv (bin .neq v7 (.int .i64 0)) fun v8 =>
  gd v8 true (pv (faO 4 v1)) fun v9 =>
  gd v8 true (ld1 v9) fun v10 =>
  gd v8 true (pv (bin .eql v10 (.int .i64 (-1)))) fun v11 =>
  gd v8 true (pv (some v11)) fun v12 =>
  gd v12 false (pv (faO 4 v1)) fun v13 =>
  gd v12 false (ld1 v13) fun v14 =>
  gd v12 false (pv (faO 1 v2)) fun v15 =>
  gd v12 false (ld1 v15) fun v16 =>
  gd v12 false (pv (bin .eql v14 v16)) fun v17 =>
  gd v8 true (pv (pickO v12 (.bool true) v17)) fun v18 =>
  pv (pickO v8 v18 (.bool false)) fun v19 =>
  gd v19 true (pv (faO 5 v1)) fun v20 =>
  gd v19 true (ld1 v20) fun v21 =>
  gd v19 true (pv (bin .eql v21 (.int .i64 (-1)))) fun v22 =>
  gd v19 true (pv (some v22)) fun v23 =>
  gd v23 false (pv (faO 5 v1)) fun v24 =>
  gd v23 false (ld1 v24) fun v25 =>
  gd v23 false (pv (faO 4 v2)) fun v26 =>
  gd v23 false (ld1 v26) fun v27 =>
  gd v23 false (pv (bin .eql v25 v27)) fun v28 =>
  gd v19 true (pv (pickO v23 (.bool true) v28)) fun v29 =>
  pv (pickO v19 v29 (.bool false)) fun v30 =>
  gd v30 true (pv (faO 6 v1)) fun v31 =>
  gd v30 true (ldN 3 v31) fun v32 =>
  gd v30 true (pv (faO 2 v2)) fun v33 =>
  gd v30 true (ld1 v33) fun v34 =>
  gd v30 true (cal Pg R 69 ⟨[v32, v34]⟩) fun v35 =>
  pv (pickO v30 v35 (.bool false)) fun v36 =>
  gd v36 true (pv (faO 9 v1)) fun v37 =>
  gd v36 true (ldN 3 v37) fun v38 =>
  gd v36 true (pv (faO 3 v2)) fun v39 =>
  gd v36 true (ld1 v39) fun v40 =>
  gd v36 true (cal Pg R 69 ⟨[v38, v40]⟩) fun v41 =>
  pv (pickO v36 v41 (.bool false)) fun v42 =>
  gd v42 true (pv (faO 12 v1)) fun v43 =>
  gd v42 true (ldN 2 v43) fun v44 =>
  gd v42 true (pv (faO 5 v2)) fun v45 =>
  gd v42 true (ld1 v45) fun v46 =>
  gd v42 true (cal Pg R 70 ⟨[v44, v46]⟩) fun v47 =>
  pv (pickO v42 v47 (.bool false)) fun v48 =>
  gd v48 true (pv (faO 14 v1)) fun v49 =>
  gd v48 true (ldN 2 v49) fun v50 =>
  gd v48 true (pv (faO 6 v2)) fun v51 =>
  gd v48 true (ld1 v51) fun v52 =>
  gd v48 true (cal Pg R 70 ⟨[v50, v52]⟩) fun v53 =>
  pv (pickO v48 v53 (.bool false)) fun v54 =>
  R (.returned v54)
theorem F46_den (R : ER) (x0 x1 : Value) : den Pg R (cd Try.f46 []) (argsEnv [x0, x1]) (kont Pg R Try.f46) = F46 R x0 x1 :=
  have h : ∀ e, den Pg R (cd Try.f46 []) e (kont Pg R Try.f46) = F46 R (e 0) (e 1) := fun e => by kernel_rfl
  h _
theorem F46_calls {R : ER} {x0 x1 : Value} {w : World} (h : F46 R x0 x1 w) : Calls Pg 46 ⟨[x0, x1]⟩ w R :=
  calls_of_den Try.func46 (by kernel_rfl) (by kernel_rfl) (F46_den R x0 x1) h
/-! ### 47: filter_checkAll -/
def F47_j2 (R : ER) : WP :=
  R (.returned (.int .i64 0))
theorem F47_j2_ok (R : ER) (e : Env) : den Pg R (cd Try.f47 [1,1,1]) e (kont Pg R Try.f47) = (F47_j2 R) := by kernel_rfl
def F47_j5 (R : ER) (k1 : V3) (x9 x10 x11 : Value) : WP :=
  pv (ixS 16 x9 x11) fun v1 =>
  ldN 16 v1 fun v2 =>
  al Pg 29 fun v3 =>
  stN 16 v3 v2 fun _ =>
  ldN 16 v3 fun v4 =>
  cal Pg R 15 ⟨[v4]⟩ fun v5 =>
  pv (bin .neq v5 (.int .i64 0)) fun v6 =>
  cnd v6 (
   R (.returned v5)) (
   pv (bin .add x11 (.int .i64 1)) fun v7 =>
  k1 x9 x10 v7)
theorem F47_j5_ok (R : ER) (k1 : V3) (e : Env) : den Pg R (cd Try.f47 [1,1,0,1,0,0,1,1]) e (setN (inB 0 (setN (kont Pg R Try.f47) (fun e => F47_j2 R))) (fun e => k1 (e 9) (e 10) (e 11))) = (F47_j5 R k1 (e 9) (e 10) (e 11)) := (by kernel_rfl)
def F47_b1 (R : ER) (k1 : V3) (x9 x10 x11 : Value) : WP :=
  pv (bin .lss x11 x10) fun v8 =>
  cnd v8 (
   F47_j5 R k1 x9 x10 x11) (
   F47_j2 R)
theorem F47_b1_ok (R : ER) (k1 : V3) (e : Env) : den Pg R (cd Try.f47 [1,1,0,1,0,0]) e (setN (inB 0 (setN (kont Pg R Try.f47) (fun e => F47_j2 R))) (fun e => k1 (e 9) (e 10) (e 11))) = (F47_b1 R k1 (e 9) (e 10) (e 11)) := (den_join Pg R 1 (cd Try.f47 [1,1,0,1,0,0]) (cd Try.f47 [1,1,0,1,0,0,1,1]) e (setN (inB 0 (setN (kont Pg R Try.f47) (fun e => F47_j2 R))) (fun e => k1 (e 9) (e 10) (e 11))) (fun e => F47_j5 R k1 (e 9) (e 10) (e 11)) _ (by kernel_rfl) (fun e => F47_j5_ok R k1 e) (by kernel_rfl))
noncomputable def F47_l1 (R : ER) (n : Nat) : V3 := Nat.rec (motive := fun _ => V3) (fun _ _ _ => fun _ => False) (fun _ ih => fun x9 x10 x11 => F47_b1 R ih x9 x10 x11) n
theorem F47_l1_succ (R : ER) (n : Nat) (x9 x10 x11 : Value) : F47_l1 R (n + 1) x9 x10 x11 = F47_b1 R (F47_l1 R n) x9 x10 x11 := rfl
theorem F47_l1_ok (R : ER) : ∀ (n : Nat) (e : Env), iterL (den Pg R (cd Try.f47 [1,1,0,1,0,0])) n e (inB 0 (setN (kont Pg R Try.f47) (fun e => F47_j2 R))) = F47_l1 R n (e 9) (e 10) (e 11) :=
  iterL_join (den Pg R (cd Try.f47 [1,1,0,1,0,0])) (inB 0 (setN (kont Pg R Try.f47) (fun e => F47_j2 R))) (fun n e => F47_l1 R n (e 9) (e 10) (e 11)) (fun _ => rfl) (fun n e => (F47_b1_ok R (F47_l1 R n) e).trans (F47_l1_succ R n (e 9) (e 10) (e 11)).symm)
def F47_j4 (R : ER) (x9 x10 x11 : Value) : WP :=
  exN fun n => F47_l1 R n x9 x10 x11
theorem F47_j4_ok (R : ER) (e : Env) : den Pg R (cd Try.f47 [1,1,0,1]) e (setN (kont Pg R Try.f47) (fun e => F47_j2 R)) = (F47_j4 R (e 9) (e 10) (e 11)) := (den_block Pg R (cd Try.f47 [1,1,0,1]) 0 (cd Try.f47 [1,1,0,1,0]) e (setN (kont Pg R Try.f47) (fun e => F47_j2 R)) _ (by kernel_rfl) (den_loop Pg R (cd Try.f47 [1,1,0,1,0]) (cd Try.f47 [1,1,0,1,0,0]) e (inB 0 (setN (kont Pg R Try.f47) (fun e => F47_j2 R))) (fun n e => F47_l1 R n (e 9) (e 10) (e 11)) _ (by kernel_rfl) (F47_l1_ok R) (by kernel_rfl)))
def F47_j3 (R : ER) (x0 : Value) : WP :=
  pv (lenS x0) fun v9 =>
  F47_j4 R x0 v9 (.int .i64 0)
theorem F47_j3_ok (R : ER) (e : Env) : den Pg R (cd Try.f47 [1,1,0]) e (setN (kont Pg R Try.f47) (fun e => F47_j2 R)) = (F47_j3 R (e 0)) := (den_join Pg R 0 (cd Try.f47 [1,1,0]) (cd Try.f47 [1,1,0,1]) e (setN (kont Pg R Try.f47) (fun e => F47_j2 R)) (fun e => F47_j4 R (e 9) (e 10) (e 11)) _ (by kernel_rfl) (fun e => F47_j4_ok R e) (by kernel_rfl))
def F47_j1 (R : ER) (x0 : Value) : WP :=
  F47_j3 R x0
theorem F47_j1_ok (R : ER) (e : Env) : den Pg R (cd Try.f47 [1,1]) e (kont Pg R Try.f47) = (F47_j1 R (e 0)) := (den_join Pg R 0 (cd Try.f47 [1,1]) (cd Try.f47 [1,1,1]) e (kont Pg R Try.f47) (fun e => F47_j2 R) _ (by kernel_rfl) (fun e => F47_j2_ok R e) (den_conv Pg R (pre 0 (cd Try.f47 [1,1])) (cd Try.f47 [1,1,0]) e (setN (kont Pg R Try.f47) (fun e => F47_j2 R)) _ (by kernel_rfl) (F47_j3_ok R e)))
def F47 (R : ER) (x0 : Value) : WP :=
  pv (lenS x0) fun v10 =>
  pv (bin .gtr v10 (.int .i64 200)) fun v11 =>
  cnd v11 (
   R (.returned (.int .i64 18))) (
   F47_j1 R x0)
theorem F47_den (R : ER) (x0 : Value) : den Pg R (cd Try.f47 []) (argsEnv [x0]) (kont Pg R Try.f47) = F47 R x0 :=
  have h : ∀ e, den Pg R (cd Try.f47 []) e (kont Pg R Try.f47) = F47 R (e 0) := fun e => (den_join Pg R 1 (cd Try.f47 []) (cd Try.f47 [1,1]) e (kont Pg R Try.f47) (fun e => F47_j1 R (e 0)) _ (by kernel_rfl) (fun e => F47_j1_ok R e) (by kernel_rfl))
  h _
theorem F47_calls {R : ER} {x0 : Value} {w : World} (h : F47 R x0 w) : Calls Pg 47 ⟨[x0]⟩ w R :=
  calls_of_den Try.func47 (by kernel_rfl) (by kernel_rfl) (F47_den R x0) h
/-! ### 48: filter_connection_turned -/
def F48 (R : ER) (x0 : Value) : WP :=
  bx 119 x0 fun v1 =>
  al Pg 119 fun v2 =>
  pv (faO 0 v1) fun v3 =>
  ld1 v3 fun v4 =>
  pv (faO 2 v1) fun v5 =>
  ld1 v5 fun v6 =>
  pv (faO 1 v1) fun v7 =>
  ld1 v7 fun v8 =>
  pv (faO 4 v1) fun v9 =>
  ld1 v9 fun v10 =>
  pv (faO 3 v1) fun v11 =>
  ld1 v11 fun v12 =>
  pv (bldO [.int .i64 0, .int .u32 0, .int .u32 0, .int .i64 0, .int .i64 0] [(0,1, v4), (1,1, v6), (2,1, v8), (3,1, v10), (4,1, v12)]) fun v13 =>
  stN 5 v2 v13 fun _ =>
  ldN 5 v2 fun v14 => R (.returned v14)
theorem F48_den (R : ER) (x0 : Value) : den Pg R (cd Try.f48 []) (argsEnv [x0]) (kont Pg R Try.f48) = F48 R x0 :=
  have h : ∀ e, den Pg R (cd Try.f48 []) e (kont Pg R Try.f48) = F48 R (e 0) := fun e => by kernel_rfl
  h _
theorem F48_calls {R : ER} {x0 : Value} {w : World} (h : F48 R x0 w) : Calls Pg 48 ⟨[x0]⟩ w R :=
  calls_of_den Try.func48 (by kernel_rfl) (by kernel_rfl) (F48_den R x0) h
/-! ### 49: filter_deciding -/
def F49_j2 (R : ER) (x5 : Value) : WP :=
  R (.returned x5)
theorem F49_j2_ok (R : ER) (e : Env) : den Pg R (cd Try.f49 [1,0,1,1,1]) e (kont Pg R Try.f49) = (F49_j2 R (e 5)) := by kernel_rfl
def F49_j6 (R : ER) (k1 : V5) (x3 x5 x8 x9 x10 : Value) : WP :=
  pv (bin .add x10 (.int .i64 1)) fun v1 =>
  k1 x3 x5 x8 x9 v1
theorem F49_j6_ok (R : ER) (k1 : V5) (e : Env) : den Pg R (cd Try.f49 [1,0,1,1,0,1,0,0,1,1,1]) e (setN (inB 0 (setN (kont Pg R Try.f49) (fun e => F49_j2 R (e 5)))) (fun e => k1 (e 3) (e 5) (e 8) (e 9) (e 10))) = (F49_j6 R k1 (e 3) (e 5) (e 8) (e 9) (e 10)) := by kernel_rfl
def F49_j7 (R : ER) (k1 : V5) (x3 x5 x8 x9 x10 : Value) : WP :=
  pv (ixS 16 x8 x10) fun v2 =>
  ldN 16 v2 fun v3 =>
  al Pg 29 fun v4 =>
  stN 16 v4 v3 fun _ =>
  ldN 16 v4 fun v5 =>
  ldN 8 x3 fun v6 =>
  cal Pg R 46 ⟨[v5, v6]⟩ fun v7 =>
  pv (unO .not v7) fun v8 =>
  cnd v8 (
   F49_j6 R k1 x3 x5 x8 x9 x10) (
   pv (faO 1 v4) fun v9 =>
   ld1 v9 fun v10 =>
   cnd v10 (
    F49_j2 R x10) (
    F49_j6 R k1 x3 x10 x8 x9 x10))
theorem F49_j7_ok (R : ER) (k1 : V5) (e : Env) : den Pg R (cd Try.f49 [1,0,1,1,0,1,0,0,1,1,0]) e (setN (setN (inB 0 (setN (kont Pg R Try.f49) (fun e => F49_j2 R (e 5)))) (fun e => k1 (e 3) (e 5) (e 8) (e 9) (e 10))) (fun e => F49_j6 R k1 (e 3) (e 5) (e 8) (e 9) (e 10))) = (F49_j7 R k1 (e 3) (e 5) (e 8) (e 9) (e 10)) := (den_block Pg R (cd Try.f49 [1,0,1,1,0,1,0,0,1,1,0]) 1 (cd Try.f49 [1,0,1,1,0,1,0,0,1,1,0,0]) e (setN (setN (inB 0 (setN (kont Pg R Try.f49) (fun e => F49_j2 R (e 5)))) (fun e => k1 (e 3) (e 5) (e 8) (e 9) (e 10))) (fun e => F49_j6 R k1 (e 3) (e 5) (e 8) (e 9) (e 10))) _ (by kernel_rfl) (by kernel_rfl))
def F49_j5 (R : ER) (k1 : V5) (x3 x5 x8 x9 x10 : Value) : WP :=
  F49_j7 R k1 x3 x5 x8 x9 x10
theorem F49_j5_ok (R : ER) (k1 : V5) (e : Env) : den Pg R (cd Try.f49 [1,0,1,1,0,1,0,0,1,1]) e (setN (inB 0 (setN (kont Pg R Try.f49) (fun e => F49_j2 R (e 5)))) (fun e => k1 (e 3) (e 5) (e 8) (e 9) (e 10))) = (F49_j5 R k1 (e 3) (e 5) (e 8) (e 9) (e 10)) := (den_join Pg R 0 (cd Try.f49 [1,0,1,1,0,1,0,0,1,1]) (cd Try.f49 [1,0,1,1,0,1,0,0,1,1,1]) e (setN (inB 0 (setN (kont Pg R Try.f49) (fun e => F49_j2 R (e 5)))) (fun e => k1 (e 3) (e 5) (e 8) (e 9) (e 10))) (fun e => F49_j6 R k1 (e 3) (e 5) (e 8) (e 9) (e 10)) _ (by kernel_rfl) (fun e => F49_j6_ok R k1 e) (den_conv Pg R (pre 0 (cd Try.f49 [1,0,1,1,0,1,0,0,1,1])) (cd Try.f49 [1,0,1,1,0,1,0,0,1,1,0]) e (setN (setN (inB 0 (setN (kont Pg R Try.f49) (fun e => F49_j2 R (e 5)))) (fun e => k1 (e 3) (e 5) (e 8) (e 9) (e 10))) (fun e => F49_j6 R k1 (e 3) (e 5) (e 8) (e 9) (e 10))) _ (by kernel_rfl) (F49_j7_ok R k1 e)))
def F49_b1 (R : ER) (k1 : V5) (x3 x5 x8 x9 x10 : Value) : WP :=
  pv (bin .lss x10 x9) fun v11 =>
  cnd v11 (
   F49_j5 R k1 x3 x5 x8 x9 x10) (
   F49_j2 R x5)
theorem F49_b1_ok (R : ER) (k1 : V5) (e : Env) : den Pg R (cd Try.f49 [1,0,1,1,0,1,0,0]) e (setN (inB 0 (setN (kont Pg R Try.f49) (fun e => F49_j2 R (e 5)))) (fun e => k1 (e 3) (e 5) (e 8) (e 9) (e 10))) = (F49_b1 R k1 (e 3) (e 5) (e 8) (e 9) (e 10)) := (den_join Pg R 1 (cd Try.f49 [1,0,1,1,0,1,0,0]) (cd Try.f49 [1,0,1,1,0,1,0,0,1,1]) e (setN (inB 0 (setN (kont Pg R Try.f49) (fun e => F49_j2 R (e 5)))) (fun e => k1 (e 3) (e 5) (e 8) (e 9) (e 10))) (fun e => F49_j5 R k1 (e 3) (e 5) (e 8) (e 9) (e 10)) _ (by kernel_rfl) (fun e => F49_j5_ok R k1 e) (by kernel_rfl))
noncomputable def F49_l1 (R : ER) (n : Nat) : V5 := Nat.rec (motive := fun _ => V5) (fun _ _ _ _ _ => fun _ => False) (fun _ ih => fun x3 x5 x8 x9 x10 => F49_b1 R ih x3 x5 x8 x9 x10) n
theorem F49_l1_succ (R : ER) (n : Nat) (x3 x5 x8 x9 x10 : Value) : F49_l1 R (n + 1) x3 x5 x8 x9 x10 = F49_b1 R (F49_l1 R n) x3 x5 x8 x9 x10 := rfl
theorem F49_l1_ok (R : ER) : ∀ (n : Nat) (e : Env), iterL (den Pg R (cd Try.f49 [1,0,1,1,0,1,0,0])) n e (inB 0 (setN (kont Pg R Try.f49) (fun e => F49_j2 R (e 5)))) = F49_l1 R n (e 3) (e 5) (e 8) (e 9) (e 10) :=
  iterL_join (den Pg R (cd Try.f49 [1,0,1,1,0,1,0,0])) (inB 0 (setN (kont Pg R Try.f49) (fun e => F49_j2 R (e 5)))) (fun n e => F49_l1 R n (e 3) (e 5) (e 8) (e 9) (e 10)) (fun _ => rfl) (fun n e => (F49_b1_ok R (F49_l1 R n) e).trans (F49_l1_succ R n (e 3) (e 5) (e 8) (e 9) (e 10)).symm)
def F49_j4 (R : ER) (x3 x5 x8 x9 x10 : Value) : WP :=
  exN fun n => F49_l1 R n x3 x5 x8 x9 x10
theorem F49_j4_ok (R : ER) (e : Env) : den Pg R (cd Try.f49 [1,0,1,1,0,1]) e (setN (kont Pg R Try.f49) (fun e => F49_j2 R (e 5))) = (F49_j4 R (e 3) (e 5) (e 8) (e 9) (e 10)) := (den_block Pg R (cd Try.f49 [1,0,1,1,0,1]) 0 (cd Try.f49 [1,0,1,1,0,1,0]) e (setN (kont Pg R Try.f49) (fun e => F49_j2 R (e 5))) _ (by kernel_rfl) (den_loop Pg R (cd Try.f49 [1,0,1,1,0,1,0]) (cd Try.f49 [1,0,1,1,0,1,0,0]) e (inB 0 (setN (kont Pg R Try.f49) (fun e => F49_j2 R (e 5)))) (fun n e => F49_l1 R n (e 3) (e 5) (e 8) (e 9) (e 10)) _ (by kernel_rfl) (F49_l1_ok R) (by kernel_rfl)))
def F49_j3 (R : ER) (x0 x3 x5 : Value) : WP :=
  pv (lenS x0) fun v12 =>
  F49_j4 R x3 x5 x0 v12 (.int .i64 0)
theorem F49_j3_ok (R : ER) (e : Env) : den Pg R (cd Try.f49 [1,0,1,1,0]) e (setN (kont Pg R Try.f49) (fun e => F49_j2 R (e 5))) = (F49_j3 R (e 0) (e 3) (e 5)) := (den_join Pg R 0 (cd Try.f49 [1,0,1,1,0]) (cd Try.f49 [1,0,1,1,0,1]) e (setN (kont Pg R Try.f49) (fun e => F49_j2 R (e 5))) (fun e => F49_j4 R (e 3) (e 5) (e 8) (e 9) (e 10)) _ (by kernel_rfl) (fun e => F49_j4_ok R e) (by kernel_rfl))
def F49_j1 (R : ER) (x0 x3 : Value) : WP :=
  F49_j3 R x0 x3 (.int .i64 (-2))
theorem F49_j1_ok (R : ER) (e : Env) : den Pg R (cd Try.f49 [1]) e (kont Pg R Try.f49) = (F49_j1 R (e 0) (e 3)) := (den_scope Pg R (cd Try.f49 [1]) (cd Try.f49 [1,0]) e (kont Pg R Try.f49) _ (by kernel_rfl) (den_join Pg R 2 (cd Try.f49 [1,0]) (cd Try.f49 [1,0,1,1,1]) e (kont Pg R Try.f49) (fun e => F49_j2 R (e 5)) _ (by kernel_rfl) (fun e => F49_j2_ok R e) (den_join Pg R 1 (pre 2 (cd Try.f49 [1,0])) (cd Try.f49 [1,0,1,1,0]) e (setN (kont Pg R Try.f49) (fun e => F49_j2 R (e 5))) (fun e => F49_j3 R (e 0) (e 3) (e 5)) _ (by kernel_rfl) (fun e => F49_j3_ok R e) (by kernel_rfl))))
def F49 (R : ER) (x0 x1 : Value) : WP :=
  bx 45 x1 fun v13 =>
  F49_j1 R x0 v13
theorem F49_den (R : ER) (x0 x1 : Value) : den Pg R (cd Try.f49 []) (argsEnv [x0, x1]) (kont Pg R Try.f49) = F49 R x0 x1 :=
  have h : ∀ e, den Pg R (cd Try.f49 []) e (kont Pg R Try.f49) = F49 R (e 0) (e 1) := fun e => (den_join Pg R 0 (cd Try.f49 []) (cd Try.f49 [1]) e (kont Pg R Try.f49) (fun e => F49_j1 R (e 0) (e 3)) _ (by kernel_rfl) (fun e => F49_j1_ok R e) (by kernel_rfl))
  h _
theorem F49_calls {R : ER} {x0 x1 : Value} {w : World} (h : F49 R x0 x1 w) : Calls Pg 49 ⟨[x0, x1]⟩ w R :=
  calls_of_den Try.func49 (by kernel_rfl) (by kernel_rfl) (F49_den R x0 x1) h
/-! ### 50: filter_Filter_make -/
def F50_j1 (R : ER) (x0 x2 x4 : Value) : WP :=
  pv (nilO x0) fun v1 =>
  pv (faO 5 v1) fun v2 =>
  ld1 v2 fun v3 =>
  pv (bin .add v3 (.int .i64 1)) fun v4 =>
  pv (nilO x0) fun v5 =>
  pv (faO 5 v5) fun v6 =>
  st1 v6 v4 fun _ =>
  drewV (
  pv (nilO x0) fun v7 =>
  pv (faO 4 v7) fun v8 =>
  ld1 v8 fun v9 =>
  ldN 5 x4 fun v10 =>
  pv (nilO x0) fun v11 =>
  pv (faO 5 v11) fun v12 =>
  ld1 v12 fun v13 =>
  pv (bldO [.int .i64 0, .int .i64 0] [(0,1, x2), (1,1, v13)]) fun v14 =>
  mem fun w16 => unitV Pg noR (Instr.mapUpdate 115 v9 v10 v14) fun v15 =>
  R (.returned (.tuple ⟨[]⟩)))
theorem F50_j1_ok (R : ER) (e : Env) : den Pg R (cd Try.f50 [1,1]) e (kont Pg R Try.f50) = (F50_j1 R (e 0) (e 2) (e 4)) := by kernel_rfl
def F50_j2 (R : ER) (x0 x2 x4 : Value) : WP :=
  drewV (
  pv (nilO x0) fun v17 =>
  pv (faO 4 v17) fun v18 =>
  ld1 v18 fun v19 =>
  mem fun w21 => blt Pg noR .len ⟨[115]⟩ 3 ⟨[false]⟩ ⟨[v19]⟩ fun v20 =>
  pv (nilO x0) fun v22 =>
  pv (faO 2 v22) fun v23 =>
  ld1S [w21] v23 fun v24 =>
  pv (bin .geq v20 v24) fun v25 =>
  cnd v25 (
   cal Pg R 51 ⟨[x0, (.func (.func 71) ⟨[]⟩ ⟨[]⟩)]⟩ fun v26 =>
   drewV (
   pv (nilO x0) fun v27 =>
   pv (faO 4 v27) fun v28 =>
   ld1 v28 fun v29 =>
   pv (ixS 5 v26 (.int .i64 0)) fun v30 =>
   ldN 5 v30 fun v31 =>
   mem fun w33 => blt Pg noR .delete ⟨[115,119]⟩ 0 ⟨[false, false]⟩ ⟨[v29, v31]⟩ fun v32 =>
   F50_j1 R x0 x2 x4)) (
   F50_j1 R x0 x2 x4))
theorem F50_j2_ok (R : ER) (e : Env) : den Pg R (cd Try.f50 [1,0]) e (setN (kont Pg R Try.f50) (fun e => F50_j1 R (e 0) (e 2) (e 4))) = (F50_j2 R (e 0) (e 2) (e 4)) := (by kernel_rfl)
def F50 (R : ER) (x0 x1 x2 : Value) : WP :=
  bx 119 x1 fun v34 =>
  F50_j2 R x0 x2 v34
theorem F50_den (R : ER) (x0 x1 x2 : Value) : den Pg R (cd Try.f50 []) (argsEnv [x0, x1, x2]) (kont Pg R Try.f50) = F50 R x0 x1 x2 :=
  have h : ∀ e, den Pg R (cd Try.f50 []) e (kont Pg R Try.f50) = F50 R (e 0) (e 1) (e 2) := fun e => (den_join Pg R 1 (cd Try.f50 []) (cd Try.f50 [1,1]) e (kont Pg R Try.f50) (fun e => F50_j1 R (e 0) (e 2) (e 4)) _ (by kernel_rfl) (fun e => F50_j1_ok R e) (den_join Pg R 0 (pre 1 (cd Try.f50 [])) (cd Try.f50 [1,0]) e (setN (kont Pg R Try.f50) (fun e => F50_j1 R (e 0) (e 2) (e 4))) (fun e => F50_j2 R (e 0) (e 2) (e 4)) _ (by kernel_rfl) (fun e => F50_j2_ok R e) (by kernel_rfl)))
  h _
theorem F50_calls {R : ER} {x0 x1 x2 : Value} {w : World} (h : F50 R x0 x1 x2 w) : Calls Pg 50 ⟨[x0, x1, x2]⟩ w R :=
  calls_of_den Try.func50 (by kernel_rfl) (by kernel_rfl) (F50_den R x0 x1 x2) h
/-! ### 51: filter_Filter_ordered -/
def F51_j1 (R : ER) (x2 x3 x5 : Value) : WP :=
  cal Pg R 74 ⟨[x5, (.func (.func 75) ⟨[]⟩ ⟨[x3, x2]⟩)]⟩ fun v1 =>
  R (.returned x5)
theorem F51_j1_ok (R : ER) (e : Env) : den Pg R (cd Try.f51 [1,1,1]) e (kont Pg R Try.f51) = (F51_j1 R (e 2) (e 3) (e 5)) := by kernel_rfl
def F51_b1 (R : ER) (k1 : V4) (x2 x3 x5 x11 : Value) : WP :=
  valV Pg R (Instr.next x11 false 0) fun v2 =>
  pv (extO 0 v2) fun v3 =>
  cnd v3 (
   valV Pg R (Instr.entry x11) fun v4 =>
  pv (extO 0 v4) fun v5 =>
  al Pg 119 fun v6 =>
  stN 5 v6 v5 fun _ =>
  ldN 5 v6 fun v7 =>
  valV Pg R (Instr.buildSlice 123 1 ⟨[(0, v7)]⟩) fun v8 =>
  blt Pg R .append ⟨[123,123]⟩ 123 ⟨[false, false]⟩ ⟨[x5, v8]⟩ fun v9 =>
  k1 x2 x3 v9 x11) (
   F51_j1 R x2 x3 x5)
theorem F51_b1_ok (R : ER) (k1 : V4) (e : Env) : den Pg R (cd Try.f51 [1,1,0,1,0,0]) e (setN (inB 0 (setN (kont Pg R Try.f51) (fun e => F51_j1 R (e 2) (e 3) (e 5)))) (fun e => k1 (e 2) (e 3) (e 5) (e 11))) = (F51_b1 R k1 (e 2) (e 3) (e 5) (e 11)) := by kernel_rfl
noncomputable def F51_l1 (R : ER) (n : Nat) : V4 := Nat.rec (motive := fun _ => V4) (fun _ _ _ _ => fun _ => False) (fun _ ih => fun x2 x3 x5 x11 => F51_b1 R ih x2 x3 x5 x11) n
theorem F51_l1_succ (R : ER) (n : Nat) (x2 x3 x5 x11 : Value) : F51_l1 R (n + 1) x2 x3 x5 x11 = F51_b1 R (F51_l1 R n) x2 x3 x5 x11 := rfl
theorem F51_l1_ok (R : ER) : ∀ (n : Nat) (e : Env), iterL (den Pg R (cd Try.f51 [1,1,0,1,0,0])) n e (inB 0 (setN (kont Pg R Try.f51) (fun e => F51_j1 R (e 2) (e 3) (e 5)))) = F51_l1 R n (e 2) (e 3) (e 5) (e 11) :=
  iterL_join (den Pg R (cd Try.f51 [1,1,0,1,0,0])) (inB 0 (setN (kont Pg R Try.f51) (fun e => F51_j1 R (e 2) (e 3) (e 5)))) (fun n e => F51_l1 R n (e 2) (e 3) (e 5) (e 11)) (fun _ => rfl) (fun n e => (F51_b1_ok R (F51_l1 R n) e).trans (F51_l1_succ R n (e 2) (e 3) (e 5) (e 11)).symm)
def F51_j3 (R : ER) (x2 x3 x5 x11 : Value) : WP :=
  exN fun n => F51_l1 R n x2 x3 x5 x11
theorem F51_j3_ok (R : ER) (e : Env) : den Pg R (cd Try.f51 [1,1,0,1]) e (setN (kont Pg R Try.f51) (fun e => F51_j1 R (e 2) (e 3) (e 5))) = (F51_j3 R (e 2) (e 3) (e 5) (e 11)) := (den_block Pg R (cd Try.f51 [1,1,0,1]) 0 (cd Try.f51 [1,1,0,1,0]) e (setN (kont Pg R Try.f51) (fun e => F51_j1 R (e 2) (e 3) (e 5))) _ (by kernel_rfl) (den_loop Pg R (cd Try.f51 [1,1,0,1,0]) (cd Try.f51 [1,1,0,1,0,0]) e (inB 0 (setN (kont Pg R Try.f51) (fun e => F51_j1 R (e 2) (e 3) (e 5)))) (fun n e => F51_l1 R n (e 2) (e 3) (e 5) (e 11)) _ (by kernel_rfl) (F51_l1_ok R) (by kernel_rfl)))
def F51_j2 (R : ER) (x2 x3 x5 : Value) : WP :=
  ld1 x2 fun v10 =>
  pv (nilO v10) fun v11 =>
  pv (faO 4 v11) fun v12 =>
  ld1 v12 fun v13 =>
  valV Pg R (Instr.range 115 v13) fun v14 =>
  F51_j3 R x2 x3 x5 v14
theorem F51_j2_ok (R : ER) (e : Env) : den Pg R (cd Try.f51 [1,1,0]) e (setN (kont Pg R Try.f51) (fun e => F51_j1 R (e 2) (e 3) (e 5))) = (F51_j2 R (e 2) (e 3) (e 5)) := (den_join Pg R 0 (cd Try.f51 [1,1,0]) (cd Try.f51 [1,1,0,1]) e (setN (kont Pg R Try.f51) (fun e => F51_j1 R (e 2) (e 3) (e 5))) (fun e => F51_j3 R (e 2) (e 3) (e 5) (e 11)) _ (by kernel_rfl) (fun e => F51_j3_ok R e) (by kernel_rfl))
def F51 (R : ER) (x0 x1 : Value) : WP :=
  bx 55 x0 fun v15 =>
  bx 129 x1 fun v16 =>
  F51_j2 R v15 v16 (.slice none 0 0)
theorem F51_den (R : ER) (x0 x1 : Value) : den Pg R (cd Try.f51 []) (argsEnv [x0, x1]) (kont Pg R Try.f51) = F51 R x0 x1 :=
  have h : ∀ e, den Pg R (cd Try.f51 []) e (kont Pg R Try.f51) = F51 R (e 0) (e 1) := fun e => (den_join Pg R 2 (cd Try.f51 []) (cd Try.f51 [1,1,1]) e (kont Pg R Try.f51) (fun e => F51_j1 R (e 2) (e 3) (e 5)) _ (by kernel_rfl) (fun e => F51_j1_ok R e) (den_join Pg R 1 (pre 2 (cd Try.f51 [])) (cd Try.f51 [1,1,0]) e (setN (kont Pg R Try.f51) (fun e => F51_j1 R (e 2) (e 3) (e 5))) (fun e => F51_j2 R (e 2) (e 3) (e 5)) _ (by kernel_rfl) (fun e => F51_j2_ok R e) (by kernel_rfl)))
  h _
theorem F51_calls {R : ER} {x0 x1 : Value} {w : World} (h : F51 R x0 x1 w) : Calls Pg 51 ⟨[x0, x1]⟩ w R :=
  calls_of_den Try.func51 (by kernel_rfl) (by kernel_rfl) (F51_den R x0 x1) h
/-! ### 52: filter_Filter_States_1 -/
def F52 (R : ER) (x0 x1 : Value) : WP :=
  bx 121 x0 fun v1 =>
  bx 121 x1 fun v2 =>
  pv (faO 1 v1) fun v3 =>
  ld1 v3 fun v4 =>
  pv (faO 1 v2) fun v5 =>
  ld1 v5 fun v6 =>
  cal Pg R 53 ⟨[v4, v6]⟩ fun v7 =>
  R (.returned v7)
theorem F52_den (R : ER) (x0 x1 : Value) : den Pg R (cd Try.f52 []) (argsEnv [x0, x1]) (kont Pg R Try.f52) = F52 R x0 x1 :=
  have h : ∀ e, den Pg R (cd Try.f52 []) e (kont Pg R Try.f52) = F52 R (e 0) (e 1) := fun e => by kernel_rfl
  h _
theorem F52_calls {R : ER} {x0 x1 : Value} {w : World} (h : F52 R x0 x1 w) : Calls Pg 52 ⟨[x0, x1]⟩ w R :=
  calls_of_den Try.func52 (by kernel_rfl) (by kernel_rfl) (F52_den R x0 x1) h
/-! ### 53: cmp_Compare -/
def F53_j1 (R : ER) (x0 x1 x6 : Value) : WP :=
  cnd x6 (
   R (.returned (.int .i64 1))) (
   pv (bin .lss x0 x1) fun v1 =>
  cnd v1 (
   R (.returned (.int .i64 (-1)))) (
   pv (bin .gtr x0 x1) fun v2 =>
  cnd v2 (
   R (.returned (.int .i64 1))) (
   R (.returned (.int .i64 0)))))
theorem F53_j1_ok (R : ER) (e : Env) : den Pg R (cd Try.f53 [1,1,1,1]) e (kont Pg R Try.f53) = (F53_j1 R (e 0) (e 1) (e 6)) := by kernel_rfl
def F53 (R : ER) (x0 x1 : Value) : WP :=
  cal Pg R 76 ⟨[x0]⟩ fun v3 =>
  cal Pg R 76 ⟨[x1]⟩ fun v4 =>
  cnd v3 (
   cnd v4 (
    R (.returned (.int .i64 0))) (
    R (.returned (.int .i64 (-1))))) (
   F53_j1 R x0 x1 v4)
theorem F53_den (R : ER) (x0 x1 : Value) : den Pg R (cd Try.f53 []) (argsEnv [x0, x1]) (kont Pg R Try.f53) = F53 R x0 x1 :=
  have h : ∀ e, den Pg R (cd Try.f53 []) e (kont Pg R Try.f53) = F53 R (e 0) (e 1) := fun e => (den_join Pg R 3 (cd Try.f53 []) (cd Try.f53 [1,1,1,1]) e (kont Pg R Try.f53) (fun e => F53_j1 R (e 0) (e 1) (e 6)) _ (by kernel_rfl) (fun e => F53_j1_ok R e) (by kernel_rfl))
  h _
theorem F53_calls {R : ER} {x0 x1 : Value} {w : World} (h : F53 R x0 x1 w) : Calls Pg 53 ⟨[x0, x1]⟩ w R :=
  calls_of_den Try.func53 (by kernel_rfl) (by kernel_rfl) (F53_den R x0 x1) h
/-! ### 54: slices_IndexFunc -/
def F54_j1 (R : ER) : WP :=
  R (.returned (.int .i64 (-1)))
theorem F54_j1_ok (R : ER) (e : Env) : den Pg R (cd Try.f54 [1,1]) e (kont Pg R Try.f54) = (F54_j1 R) := by kernel_rfl
def F54_j4 (R : ER) (k1 : V4) (x0 x1 x7 x8 : Value) : WP :=
  pv (ixS 8 x0 x8) fun v1 =>
  ldN 8 v1 fun v2 =>
  calD Pg R x1 ⟨[v2]⟩ fun v3 =>
  cnd v3 (
   R (.returned x8)) (
   pv (bin .add x8 (.int .i64 1)) fun v4 =>
  k1 x0 x1 x7 v4)
theorem F54_j4_ok (R : ER) (k1 : V4) (e : Env) : den Pg R (cd Try.f54 [1,0,1,0,0,1,1]) e (setN (inB 0 (setN (kont Pg R Try.f54) (fun e => F54_j1 R))) (fun e => k1 (e 0) (e 1) (e 7) (e 8))) = (F54_j4 R k1 (e 0) (e 1) (e 7) (e 8)) := by kernel_rfl
def F54_b1 (R : ER) (k1 : V4) (x0 x1 x7 x8 : Value) : WP :=
  pv (bin .lss x8 x7) fun v5 =>
  cnd v5 (
   F54_j4 R k1 x0 x1 x7 x8) (
   F54_j1 R)
theorem F54_b1_ok (R : ER) (k1 : V4) (e : Env) : den Pg R (cd Try.f54 [1,0,1,0,0]) e (setN (inB 0 (setN (kont Pg R Try.f54) (fun e => F54_j1 R))) (fun e => k1 (e 0) (e 1) (e 7) (e 8))) = (F54_b1 R k1 (e 0) (e 1) (e 7) (e 8)) := (den_join Pg R 1 (cd Try.f54 [1,0,1,0,0]) (cd Try.f54 [1,0,1,0,0,1,1]) e (setN (inB 0 (setN (kont Pg R Try.f54) (fun e => F54_j1 R))) (fun e => k1 (e 0) (e 1) (e 7) (e 8))) (fun e => F54_j4 R k1 (e 0) (e 1) (e 7) (e 8)) _ (by kernel_rfl) (fun e => F54_j4_ok R k1 e) (by kernel_rfl))
noncomputable def F54_l1 (R : ER) (n : Nat) : V4 := Nat.rec (motive := fun _ => V4) (fun _ _ _ _ => fun _ => False) (fun _ ih => fun x0 x1 x7 x8 => F54_b1 R ih x0 x1 x7 x8) n
theorem F54_l1_succ (R : ER) (n : Nat) (x0 x1 x7 x8 : Value) : F54_l1 R (n + 1) x0 x1 x7 x8 = F54_b1 R (F54_l1 R n) x0 x1 x7 x8 := rfl
theorem F54_l1_ok (R : ER) : ∀ (n : Nat) (e : Env), iterL (den Pg R (cd Try.f54 [1,0,1,0,0])) n e (inB 0 (setN (kont Pg R Try.f54) (fun e => F54_j1 R))) = F54_l1 R n (e 0) (e 1) (e 7) (e 8) :=
  iterL_join (den Pg R (cd Try.f54 [1,0,1,0,0])) (inB 0 (setN (kont Pg R Try.f54) (fun e => F54_j1 R))) (fun n e => F54_l1 R n (e 0) (e 1) (e 7) (e 8)) (fun _ => rfl) (fun n e => (F54_b1_ok R (F54_l1 R n) e).trans (F54_l1_succ R n (e 0) (e 1) (e 7) (e 8)).symm)
def F54_j3 (R : ER) (x0 x1 x7 x8 : Value) : WP :=
  exN fun n => F54_l1 R n x0 x1 x7 x8
theorem F54_j3_ok (R : ER) (e : Env) : den Pg R (cd Try.f54 [1,0,1]) e (setN (kont Pg R Try.f54) (fun e => F54_j1 R)) = (F54_j3 R (e 0) (e 1) (e 7) (e 8)) := (den_block Pg R (cd Try.f54 [1,0,1]) 0 (cd Try.f54 [1,0,1,0]) e (setN (kont Pg R Try.f54) (fun e => F54_j1 R)) _ (by kernel_rfl) (den_loop Pg R (cd Try.f54 [1,0,1,0]) (cd Try.f54 [1,0,1,0,0]) e (inB 0 (setN (kont Pg R Try.f54) (fun e => F54_j1 R))) (fun n e => F54_l1 R n (e 0) (e 1) (e 7) (e 8)) _ (by kernel_rfl) (F54_l1_ok R) (by kernel_rfl)))
def F54_j2 (R : ER) (x0 x1 : Value) : WP :=
  pv (lenS x0) fun v6 =>
  F54_j3 R x0 x1 v6 (.int .i64 0)
theorem F54_j2_ok (R : ER) (e : Env) : den Pg R (cd Try.f54 [1,0]) e (setN (kont Pg R Try.f54) (fun e => F54_j1 R)) = (F54_j2 R (e 0) (e 1)) := (den_join Pg R 0 (cd Try.f54 [1,0]) (cd Try.f54 [1,0,1]) e (setN (kont Pg R Try.f54) (fun e => F54_j1 R)) (fun e => F54_j3 R (e 0) (e 1) (e 7) (e 8)) _ (by kernel_rfl) (fun e => F54_j3_ok R e) (by kernel_rfl))
def F54 (R : ER) (x0 x1 : Value) : WP :=
  F54_j2 R x0 x1
theorem F54_den (R : ER) (x0 x1 : Value) : den Pg R (cd Try.f54 []) (argsEnv [x0, x1]) (kont Pg R Try.f54) = F54 R x0 x1 :=
  have h : ∀ e, den Pg R (cd Try.f54 []) e (kont Pg R Try.f54) = F54 R (e 0) (e 1) := fun e => (den_join Pg R 1 (cd Try.f54 []) (cd Try.f54 [1,1]) e (kont Pg R Try.f54) (fun e => F54_j1 R) _ (by kernel_rfl) (fun e => F54_j1_ok R e) (den_join Pg R 0 (pre 1 (cd Try.f54 [])) (cd Try.f54 [1,0]) e (setN (kont Pg R Try.f54) (fun e => F54_j1 R)) (fun e => F54_j2 R (e 0) (e 1)) _ (by kernel_rfl) (fun e => F54_j2_ok R e) (by kernel_rfl)))
  h _
theorem F54_calls {R : ER} {x0 x1 : Value} {w : World} (h : F54 R x0 x1 w) : Calls Pg 54 ⟨[x0, x1]⟩ w R :=
  calls_of_den Try.func54 (by kernel_rfl) (by kernel_rfl) (F54_den R x0 x1) h
/-! ### 55: filter_Equivalent_1 -/
def F55 (R : ER) (x0 x1 x2 : Value) : WP :=
  bx 45 x0 fun v1 =>
  drewV (
  ld1 x1 fun v2 =>
  ldN 8 v1 fun v3 =>
  mem fun w5 => cal Pg noR 56 ⟨[v2, v3]⟩ fun v4 =>
  ld1S [w5] x2 fun v6 =>
  ldNS [w5] 8 v1 fun v7 =>
  mem fun w9 => cal Pg noR 56 ⟨[v6, v7]⟩ fun v8 =>
  pv (bin .neq v4 v8) fun v10 =>
  R (.returned v10))
theorem F55_den (R : ER) (x0 x1 x2 : Value) : den Pg R (cd Try.f55 []) (argsEnv [x0, x1, x2]) (kont Pg R Try.f55) = F55 R x0 x1 x2 :=
  have h : ∀ e, den Pg R (cd Try.f55 []) e (kont Pg R Try.f55) = F55 R (e 0) (e 1) (e 2) := fun e => by kernel_rfl
  h _
theorem F55_calls {R : ER} {x0 x1 x2 : Value} {w : World} (h : F55 R x0 x1 x2 w) : Calls Pg 55 ⟨[x0, x1, x2]⟩ w R :=
  calls_of_den Try.func55 (by kernel_rfl) (by kernel_rfl) (F55_den R x0 x1 x2) h
/-! ### 56: filter_decided -/
def F56 (R : ER) (x0 x1 : Value) : WP :=
  bx 45 x1 fun v1 =>
  ldN 8 v1 fun v2 =>
  cal Pg R 49 ⟨[x0, v2]⟩ fun v3 =>
  pv (bin .geq v3 (.int .i64 0)) fun v4 =>
  cnd v4 (
   pv (ixS 16 x0 v3) fun v5 =>
   pv (faO 0 v5) fun v6 =>
   ld1 v6 fun v7 =>
   R (.returned v7)) (
   R (.returned (.int .i64 1)))
theorem F56_den (R : ER) (x0 x1 : Value) : den Pg R (cd Try.f56 []) (argsEnv [x0, x1]) (kont Pg R Try.f56) = F56 R x0 x1 :=
  have h : ∀ e, den Pg R (cd Try.f56 []) e (kont Pg R Try.f56) = F56 R (e 0) (e 1) := fun e => (by kernel_rfl)
  h _
theorem F56_calls {R : ER} {x0 x1 : Value} {w : World} (h : F56 R x0 x1 w) : Calls Pg 56 ⟨[x0, x1]⟩ w R :=
  calls_of_den Try.func56 (by kernel_rfl) (by kernel_rfl) (F56_den R x0 x1) h
/-! ### 57: orpimentref39_Check -/
def F57_j2 (R : ER) (x1 : Value) : WP :=
  pv (faO 6 x1) fun v1 =>
  ldN 3 v1 fun v2 =>
  cal Pg R 79 ⟨[v2]⟩ fun v3 =>
  pv (unO .not v3) fun v4 =>
  gd v4 false (pv (faO 9 x1)) fun v5 =>
  gd v4 false (ldN 3 v5) fun v6 =>
  gd v4 false (cal Pg R 79 ⟨[v6]⟩) fun v7 =>
  gd v4 false (pv (unO .not v7)) fun v8 =>
  pv (pickO v4 (.bool true) v8) fun v9 =>
  gd v9 false (pv (faO 2 x1)) fun v10 =>
  gd v9 false (ld1 v10) fun v11 =>
  gd v9 false (pv (some v11)) fun v12 =>
  gd v12 true (pv (faO 0 x1)) fun v13 =>
  gd v12 true (ld1 v13) fun v14 =>
  gd v12 true (pv (bin .eql v14 (.int .i64 2))) fun v15 =>
  gd v9 false (pv (pickO v12 v15 (.bool false))) fun v16 =>
  pv (pickO v9 (.bool true) v16) fun v17 =>
  cnd v17 (
   R (.returned (.int .i64 14))) (
   R (.returned (.int .i64 0)))
theorem F57_j2_ok (R : ER) (e : Env) : den Pg R (cd Try.f57 [1,1,1]) e (kont Pg R Try.f57) = (F57_j2 R (e 1)) := (by kernel_rfl)
def F57_j3 (R : ER) (x1 : Value) : WP :=
  pv (faO 4 x1) fun v18 =>
  ld1 v18 fun v19 =>
  cal Pg R 77 ⟨[v19, (.int .i64 (-1)), (.int .i64 255)]⟩ fun v20 =>
  pv (unO .not v20) fun v21 =>
  gd v21 false (pv (faO 5 x1)) fun v22 =>
  gd v21 false (ld1 v22) fun v23 =>
  gd v21 false (cal Pg R 77 ⟨[v23, (.int .i64 (-1)), (.int .i64 255)]⟩) fun v24 =>
  gd v21 false (pv (unO .not v24)) fun v25 =>
  pv (pickO v21 (.bool true) v25) fun v26 =>
  gd v26 false (pv (faO 6 x1)) fun v27 =>
  gd v26 false (pv (faO 1 v27)) fun v28 =>
  gd v26 false (ld1 v28) fun v29 =>
  gd v26 false (cal Pg R 77 ⟨[v29, (.int .i64 0), (.int .i64 32)]⟩) fun v30 =>
  gd v26 false (pv (unO .not v30)) fun v31 =>
  pv (pickO v26 (.bool true) v31) fun v32 =>
  gd v32 false (pv (faO 9 x1)) fun v33 =>
  gd v32 false (pv (faO 1 v33)) fun v34 =>
  gd v32 false (ld1 v34) fun v35 =>
  gd v32 false (cal Pg R 77 ⟨[v35, (.int .i64 0), (.int .i64 32)]⟩) fun v36 =>
  gd v32 false (pv (unO .not v36)) fun v37 =>
  pv (pickO v32 (.bool true) v37) fun v38 =>
  gd v38 false (pv (faO 12 x1)) fun v39 =>
  gd v38 false (ldN 2 v39) fun v40 =>
  gd v38 false (cal Pg R 78 ⟨[v40]⟩) fun v41 =>
  gd v38 false (pv (unO .not v41)) fun v42 =>
  pv (pickO v38 (.bool true) v42) fun v43 =>
  gd v43 false (pv (faO 14 x1)) fun v44 =>
  gd v43 false (ldN 2 v44) fun v45 =>
  gd v43 false (cal Pg R 78 ⟨[v45]⟩) fun v46 =>
  gd v43 false (pv (unO .not v46)) fun v47 =>
  pv (pickO v43 (.bool true) v47) fun v48 =>
  cnd v48 (
   R (.returned (.int .i64 34))) (
   F57_j2 R x1)
theorem F57_j3_ok (R : ER) (e : Env) : den Pg R (cd Try.f57 [1,1,0]) e (setN (kont Pg R Try.f57) (fun e => F57_j2 R (e 1))) = (F57_j3 R (e 1)) := (by kernel_rfl)
def F57_j1 (R : ER) (x1 : Value) : WP :=
  F57_j3 R x1
theorem F57_j1_ok (R : ER) (e : Env) : den Pg R (cd Try.f57 [1,1]) e (kont Pg R Try.f57) = (F57_j1 R (e 1)) := (den_join Pg R 0 (cd Try.f57 [1,1]) (cd Try.f57 [1,1,1]) e (kont Pg R Try.f57) (fun e => F57_j2 R (e 1)) _ (by kernel_rfl) (fun e => F57_j2_ok R e) (den_conv Pg R (pre 0 (cd Try.f57 [1,1])) (cd Try.f57 [1,1,0]) e (setN (kont Pg R Try.f57) (fun e => F57_j2 R (e 1))) _ (by kernel_rfl) (F57_j3_ok R e)))
def F57 (R : ER) (x0 : Value) : WP :=
  bx 38 x0 fun v49 =>
  pv (faO 0 v49) fun v50 =>
  ld1 v50 fun v51 =>
  cal Pg R 77 ⟨[v51, (.int .i64 1), (.int .i64 2)]⟩ fun v52 =>
  pv (unO .not v52) fun v53 =>
  gd v53 false (pv (faO 3 v49)) fun v54 =>
  gd v53 false (ld1 v54) fun v55 =>
  gd v53 false (cal Pg R 77 ⟨[v55, (.int .i64 1), (.int .i64 3)]⟩) fun v56 =>
  gd v53 false (pv (unO .not v56)) fun v57 =>
  pv (pickO v53 (.bool true) v57) fun v58 =>
  cnd v58 (
   R (.returned (.int .i64 17))) (
   F57_j1 R v49)
theorem F57_den (R : ER) (x0 : Value) : den Pg R (cd Try.f57 []) (argsEnv [x0]) (kont Pg R Try.f57) = F57 R x0 :=
  have h : ∀ e, den Pg R (cd Try.f57 []) e (kont Pg R Try.f57) = F57 R (e 0) := fun e => (den_join Pg R 1 (cd Try.f57 []) (cd Try.f57 [1,1]) e (kont Pg R Try.f57) (fun e => F57_j1 R (e 1)) _ (by kernel_rfl) (fun e => F57_j1_ok R e) (by kernel_rfl))
  h _
theorem F57_calls {R : ER} {x0 : Value} {w : World} (h : F57 R x0 w) : Calls Pg 57 ⟨[x0]⟩ w R :=
  calls_of_den Try.func57 (by kernel_rfl) (by kernel_rfl) (F57_den R x0) h
/-! ### 58: orpimentref39_CheckPacket -/
def F58_j1 (R : ER) (x1 : Value) : WP :=
  pv (faO 1 x1) fun v1 =>
  ld1 v1 fun v2 =>
  cal Pg R 77 ⟨[v2, (.int .i64 0), (.int .i64 255)]⟩ fun v3 =>
  pv (unO .not v3) fun v4 =>
  gd v4 false (pv (faO 4 x1)) fun v5 =>
  gd v4 false (ld1 v5) fun v6 =>
  gd v4 false (cal Pg R 77 ⟨[v6, (.int .i64 0), (.int .i64 255)]⟩) fun v7 =>
  gd v4 false (pv (unO .not v7)) fun v8 =>
  pv (pickO v4 (.bool true) v8) fun v9 =>
  gd v9 false (pv (faO 5 x1)) fun v10 =>
  gd v9 false (ld1 v10) fun v11 =>
  gd v9 false (cal Pg R 77 ⟨[v11, (.int .i64 0), (.int .i64 65535)]⟩) fun v12 =>
  gd v9 false (pv (unO .not v12)) fun v13 =>
  pv (pickO v9 (.bool true) v13) fun v14 =>
  gd v14 false (pv (faO 6 x1)) fun v15 =>
  gd v14 false (ld1 v15) fun v16 =>
  gd v14 false (cal Pg R 77 ⟨[v16, (.int .i64 0), (.int .i64 65535)]⟩) fun v17 =>
  gd v14 false (pv (unO .not v17)) fun v18 =>
  pv (pickO v14 (.bool true) v18) fun v19 =>
  cnd v19 (
   R (.returned (.int .i64 34))) (
   R (.returned (.int .i64 0)))
theorem F58_j1_ok (R : ER) (e : Env) : den Pg R (cd Try.f58 [1,1]) e (kont Pg R Try.f58) = (F58_j1 R (e 1)) := (by kernel_rfl)
def F58 (R : ER) (x0 : Value) : WP :=
  bx 67 x0 fun v20 =>
  pv (faO 0 v20) fun v21 =>
  ld1 v21 fun v22 =>
  cal Pg R 77 ⟨[v22, (.int .i64 1), (.int .i64 2)]⟩ fun v23 =>
  pv (unO .not v23) fun v24 =>
  cnd v24 (
   R (.returned (.int .i64 17))) (
   F58_j1 R v20)
theorem F58_den (R : ER) (x0 : Value) : den Pg R (cd Try.f58 []) (argsEnv [x0]) (kont Pg R Try.f58) = F58 R x0 :=
  have h : ∀ e, den Pg R (cd Try.f58 []) e (kont Pg R Try.f58) = F58 R (e 0) := fun e => (den_join Pg R 1 (cd Try.f58 []) (cd Try.f58 [1,1]) e (kont Pg R Try.f58) (fun e => F58_j1 R (e 1)) _ (by kernel_rfl) (fun e => F58_j1_ok R e) (by kernel_rfl))
  h _
theorem F58_calls {R : ER} {x0 : Value} {w : World} (h : F58 R x0 w) : Calls Pg 58 ⟨[x0]⟩ w R :=
  calls_of_den Try.func58 (by kernel_rfl) (by kernel_rfl) (F58_den R x0) h
/-! ### 59: orpimentref39_decide -/
def F59_j1 (R : ER) (x5 : Value) : WP :=
  R (.returned x5)
theorem F59_j1_ok (R : ER) (e : Env) : den Pg R (cd Try.f59 [1,1,1]) e (kont Pg R Try.f59) = (F59_j1 R (e 5)) := by kernel_rfl
def F59_j5 (R : ER) (k1 : V4) (x0 x3 x5 x6 : Value) : WP :=
  pv (bin .add x6 (.int .i64 1)) fun v1 =>
  k1 x0 x3 x5 v1
theorem F59_j5_ok (R : ER) (k1 : V4) (e : Env) : den Pg R (cd Try.f59 [1,1,0,1,0,0,1,1]) e (setN (inB 0 (setN (kont Pg R Try.f59) (fun e => F59_j1 R (e 5)))) (fun e => k1 (e 0) (e 3) (e 5) (e 6))) = (F59_j5 R k1 (e 0) (e 3) (e 5) (e 6)) := by kernel_rfl
def F59_j6 (R : ER) (k1 : V4) (x0 x3 x5 x6 : Value) : WP :=
  drewV (
  pv (ixS 16 x0 x6) fun v2 =>
  ldN 16 v2 fun v3 =>
  ldN 8 x3 fun v4 =>
  mem fun w6 => cal Pg noR 80 ⟨[v3, v4]⟩ fun v5 =>
  cnd v5 (
   pv (ixS 16 x0 x6) fun v7 =>
   pv (faO 1 v7) fun v8 =>
   ld1 v8 fun v9 =>
   cnd v9 (
    R (.returned x6)) (
    F59_j5 R k1 x0 x3 x6 x6)) (
   F59_j5 R k1 x0 x3 x5 x6))
theorem F59_j6_ok (R : ER) (k1 : V4) (e : Env) : den Pg R (cd Try.f59 [1,1,0,1,0,0,1,0]) e (setN (setN (inB 0 (setN (kont Pg R Try.f59) (fun e => F59_j1 R (e 5)))) (fun e => k1 (e 0) (e 3) (e 5) (e 6))) (fun e => F59_j5 R k1 (e 0) (e 3) (e 5) (e 6))) = (F59_j6 R k1 (e 0) (e 3) (e 5) (e 6)) := (den_block Pg R (cd Try.f59 [1,1,0,1,0,0,1,0]) 1 (cd Try.f59 [1,1,0,1,0,0,1,0,0]) e (setN (setN (inB 0 (setN (kont Pg R Try.f59) (fun e => F59_j1 R (e 5)))) (fun e => k1 (e 0) (e 3) (e 5) (e 6))) (fun e => F59_j5 R k1 (e 0) (e 3) (e 5) (e 6))) _ (by kernel_rfl) (by kernel_rfl))
def F59_j4 (R : ER) (k1 : V4) (x0 x3 x5 x6 : Value) : WP :=
  F59_j6 R k1 x0 x3 x5 x6
theorem F59_j4_ok (R : ER) (k1 : V4) (e : Env) : den Pg R (cd Try.f59 [1,1,0,1,0,0,1]) e (setN (inB 0 (setN (kont Pg R Try.f59) (fun e => F59_j1 R (e 5)))) (fun e => k1 (e 0) (e 3) (e 5) (e 6))) = (F59_j4 R k1 (e 0) (e 3) (e 5) (e 6)) := (den_join Pg R 0 (cd Try.f59 [1,1,0,1,0,0,1]) (cd Try.f59 [1,1,0,1,0,0,1,1]) e (setN (inB 0 (setN (kont Pg R Try.f59) (fun e => F59_j1 R (e 5)))) (fun e => k1 (e 0) (e 3) (e 5) (e 6))) (fun e => F59_j5 R k1 (e 0) (e 3) (e 5) (e 6)) _ (by kernel_rfl) (fun e => F59_j5_ok R k1 e) (den_conv Pg R (pre 0 (cd Try.f59 [1,1,0,1,0,0,1])) (cd Try.f59 [1,1,0,1,0,0,1,0]) e (setN (setN (inB 0 (setN (kont Pg R Try.f59) (fun e => F59_j1 R (e 5)))) (fun e => k1 (e 0) (e 3) (e 5) (e 6))) (fun e => F59_j5 R k1 (e 0) (e 3) (e 5) (e 6))) _ (by kernel_rfl) (F59_j6_ok R k1 e)))
def F59_b1 (R : ER) (k1 : V4) (x0 x3 x5 x6 : Value) : WP :=
  pv (lenS x0) fun v10 =>
  pv (bin .lss x6 v10) fun v11 =>
  cnd v11 (
   F59_j4 R k1 x0 x3 x5 x6) (
   F59_j1 R x5)
theorem F59_b1_ok (R : ER) (k1 : V4) (e : Env) : den Pg R (cd Try.f59 [1,1,0,1,0,0]) e (setN (inB 0 (setN (kont Pg R Try.f59) (fun e => F59_j1 R (e 5)))) (fun e => k1 (e 0) (e 3) (e 5) (e 6))) = (F59_b1 R k1 (e 0) (e 3) (e 5) (e 6)) := (den_join Pg R 0 (cd Try.f59 [1,1,0,1,0,0]) (cd Try.f59 [1,1,0,1,0,0,1]) e (setN (inB 0 (setN (kont Pg R Try.f59) (fun e => F59_j1 R (e 5)))) (fun e => k1 (e 0) (e 3) (e 5) (e 6))) (fun e => F59_j4 R k1 (e 0) (e 3) (e 5) (e 6)) _ (by kernel_rfl) (fun e => F59_j4_ok R k1 e) (by kernel_rfl))
noncomputable def F59_l1 (R : ER) (n : Nat) : V4 := Nat.rec (motive := fun _ => V4) (fun _ _ _ _ => fun _ => False) (fun _ ih => fun x0 x3 x5 x6 => F59_b1 R ih x0 x3 x5 x6) n
theorem F59_l1_succ (R : ER) (n : Nat) (x0 x3 x5 x6 : Value) : F59_l1 R (n + 1) x0 x3 x5 x6 = F59_b1 R (F59_l1 R n) x0 x3 x5 x6 := rfl
theorem F59_l1_ok (R : ER) : ∀ (n : Nat) (e : Env), iterL (den Pg R (cd Try.f59 [1,1,0,1,0,0])) n e (inB 0 (setN (kont Pg R Try.f59) (fun e => F59_j1 R (e 5)))) = F59_l1 R n (e 0) (e 3) (e 5) (e 6) :=
  iterL_join (den Pg R (cd Try.f59 [1,1,0,1,0,0])) (inB 0 (setN (kont Pg R Try.f59) (fun e => F59_j1 R (e 5)))) (fun n e => F59_l1 R n (e 0) (e 3) (e 5) (e 6)) (fun _ => rfl) (fun n e => (F59_b1_ok R (F59_l1 R n) e).trans (F59_l1_succ R n (e 0) (e 3) (e 5) (e 6)).symm)
def F59_j3 (R : ER) (x0 x3 x5 x6 : Value) : WP :=
  exN fun n => F59_l1 R n x0 x3 x5 x6
theorem F59_j3_ok (R : ER) (e : Env) : den Pg R (cd Try.f59 [1,1,0,1]) e (setN (kont Pg R Try.f59) (fun e => F59_j1 R (e 5))) = (F59_j3 R (e 0) (e 3) (e 5) (e 6)) := (den_block Pg R (cd Try.f59 [1,1,0,1]) 0 (cd Try.f59 [1,1,0,1,0]) e (setN (kont Pg R Try.f59) (fun e => F59_j1 R (e 5))) _ (by kernel_rfl) (den_loop Pg R (cd Try.f59 [1,1,0,1,0]) (cd Try.f59 [1,1,0,1,0,0]) e (inB 0 (setN (kont Pg R Try.f59) (fun e => F59_j1 R (e 5)))) (fun n e => F59_l1 R n (e 0) (e 3) (e 5) (e 6)) _ (by kernel_rfl) (F59_l1_ok R) (by kernel_rfl)))
def F59_j2 (R : ER) (x0 x3 x5 : Value) : WP :=
  F59_j3 R x0 x3 x5 (.int .i64 0)
theorem F59_j2_ok (R : ER) (e : Env) : den Pg R (cd Try.f59 [1,1,0]) e (setN (kont Pg R Try.f59) (fun e => F59_j1 R (e 5))) = (F59_j2 R (e 0) (e 3) (e 5)) := (den_join Pg R 0 (cd Try.f59 [1,1,0]) (cd Try.f59 [1,1,0,1]) e (setN (kont Pg R Try.f59) (fun e => F59_j1 R (e 5))) (fun e => F59_j3 R (e 0) (e 3) (e 5) (e 6)) _ (by kernel_rfl) (fun e => F59_j3_ok R e) (by kernel_rfl))
def F59 (R : ER) (x0 x1 : Value) : WP :=
  bx 67 x1 fun v12 =>
  F59_j2 R x0 v12 (.int .i64 (-2))
theorem F59_den (R : ER) (x0 x1 : Value) : den Pg R (cd Try.f59 []) (argsEnv [x0, x1]) (kont Pg R Try.f59) = F59 R x0 x1 :=
  have h : ∀ e, den Pg R (cd Try.f59 []) e (kont Pg R Try.f59) = F59 R (e 0) (e 1) := fun e => (den_join Pg R 2 (cd Try.f59 []) (cd Try.f59 [1,1,1]) e (kont Pg R Try.f59) (fun e => F59_j1 R (e 5)) _ (by kernel_rfl) (fun e => F59_j1_ok R e) (den_join Pg R 1 (pre 2 (cd Try.f59 [])) (cd Try.f59 [1,1,0]) e (setN (kont Pg R Try.f59) (fun e => F59_j1 R (e 5))) (fun e => F59_j2 R (e 0) (e 3) (e 5)) _ (by kernel_rfl) (fun e => F59_j2_ok R e) (by kernel_rfl)))
  h _
theorem F59_calls {R : ER} {x0 x1 : Value} {w : World} (h : F59 R x0 x1 w) : Calls Pg 59 ⟨[x0, x1]⟩ w R :=
  calls_of_den Try.func59 (by kernel_rfl) (by kernel_rfl) (F59_den R x0 x1) h
/-! ### 60: orpimentref39_Filter_remove -/
def F60 (R : ER) (x0 x1 : Value) : WP :=
  drewV (
  mem fun w2 => valV Pg noR (Instr.buildSlice 93 0 ⟨[]⟩) fun v1 =>
  pv (nilO x0) fun v3 =>
  pv (faO 3 v3) fun v4 =>
  ld1S [w2] v4 fun v5 =>
  pv (slS 6 v5 none (some x1)) fun v6 =>
  mem fun w8 => blt Pg noR .append ⟨[93,93]⟩ 93 ⟨[false, false]⟩ ⟨[v1, v6]⟩ fun v7 =>
  pv (nilO x0) fun v9 =>
  pv (faO 3 v9) fun v10 =>
  ld1S [w8, w2] v10 fun v11 =>
  pv (bin .add x1 (.int .i64 1)) fun v12 =>
  pv (slS 6 v11 (some v12) none) fun v13 =>
  mem fun w15 => blt Pg noR .append ⟨[93,93]⟩ 93 ⟨[false, false]⟩ ⟨[v7, v13]⟩ fun v14 =>
  pv (nilO x0) fun v16 =>
  pv (faO 3 v16) fun v17 =>
  mem fun w19 => st1 v17 v14 fun v18 =>
  R (.returned (.tuple ⟨[]⟩)))
theorem F60_den (R : ER) (x0 x1 : Value) : den Pg R (cd Try.f60 []) (argsEnv [x0, x1]) (kont Pg R Try.f60) = F60 R x0 x1 :=
  have h : ∀ e, den Pg R (cd Try.f60 []) e (kont Pg R Try.f60) = F60 R (e 0) (e 1) := fun e => by kernel_rfl
  h _
theorem F60_calls {R : ER} {x0 x1 : Value} {w : World} (h : F60 R x0 x1 w) : Calls Pg 60 ⟨[x0, x1]⟩ w R :=
  calls_of_den Try.func60 (by kernel_rfl) (by kernel_rfl) (F60_den R x0 x1) h
/-! ### 61: orpimentref39_belongs -/
def F61_j1 (R : ER) (x2 x3 : Value) : WP :=
  pv (faO 2 x2) fun v1 =>
  ld1 v1 fun v2 =>
  pv (faO 1 x3) fun v3 =>
  ld1 v3 fun v4 =>
  pv (bin .eql v2 v4) fun v5 =>
  gd v5 true (pv (faO 3 x2)) fun v6 =>
  gd v5 true (ld1 v6) fun v7 =>
  gd v5 true (pv (faO 2 x3)) fun v8 =>
  gd v5 true (ld1 v8) fun v9 =>
  gd v5 true (pv (bin .eql v7 v9)) fun v10 =>
  pv (pickO v5 v10 (.bool false)) fun v11 =>
  gd v11 true (pv (faO 5 x2)) fun v12 =>
  gd v11 true (ld1 v12) fun v13 =>
  gd v11 true (pv (faO 3 x3)) fun v14 =>
  gd v11 true (ld1 v14) fun v15 =>
  gd v11 true (pv (bin .eql v13 v15)) fun v16 =>
  pv (pickO v11 v16 (.bool false)) fun v17 =>
  gd v17 true (pv (faO 6 x2)) fun v18 =>
  gd v17 true (ld1 v18) fun v19 =>
  gd v17 true (pv (faO 4 x3)) fun v20 =>
  gd v17 true (ld1 v20) fun v21 =>
  gd v17 true (pv (bin .eql v19 v21)) fun v22 =>
  pv (pickO v17 v22 (.bool false)) fun v23 =>
  pv (faO 2 x2) fun v24 =>
  ld1 v24 fun v25 =>
  pv (faO 2 x3) fun v26 =>
  ld1 v26 fun v27 =>
  pv (bin .eql v25 v27) fun v28 =>
  gd v28 true (pv (faO 3 x2)) fun v29 =>
  gd v28 true (ld1 v29) fun v30 =>
  gd v28 true (pv (faO 1 x3)) fun v31 =>
  gd v28 true (ld1 v31) fun v32 =>
  gd v28 true (pv (bin .eql v30 v32)) fun v33 =>
  pv (pickO v28 v33 (.bool false)) fun v34 =>
  gd v34 true (pv (faO 5 x2)) fun v35 =>
  gd v34 true (ld1 v35) fun v36 =>
  gd v34 true (pv (faO 4 x3)) fun v37 =>
  gd v34 true (ld1 v37) fun v38 =>
  gd v34 true (pv (bin .eql v36 v38)) fun v39 =>
  pv (pickO v34 v39 (.bool false)) fun v40 =>
  gd v40 true (pv (faO 6 x2)) fun v41 =>
  gd v40 true (ld1 v41) fun v42 =>
  gd v40 true (pv (faO 3 x3)) fun v43 =>
  gd v40 true (ld1 v43) fun v44 =>
  gd v40 true (pv (bin .eql v42 v44)) fun v45 =>
  pv (pickO v40 v45 (.bool false)) fun v46 =>
  gd v23 false (pv (some v46)) fun v47 =>
  pv (pickO v23 (.bool true) v47) fun v48 =>
  R (.returned v48)
theorem F61_j1_ok (R : ER) (e : Env) : den Pg R (cd Try.f61 [1,1]) e (kont Pg R Try.f61) = (F61_j1 R (e 2) (e 3)) := by kernel_rfl
def F61 (R : ER) (x0 x1 : Value) : WP :=
  bx 67 x0 fun v49 =>
  bx 87 x1 fun v50 =>
  pv (faO 4 v49) fun v51 =>
  ld1 v51 fun v52 =>
  pv (faO 0 v50) fun v53 =>
  ld1 v53 fun v54 =>
  pv (bin .neq v52 v54) fun v55 =>
  cnd v55 (
   R (.returned (.bool false))) (
   F61_j1 R v49 v50)
theorem F61_den (R : ER) (x0 x1 : Value) : den Pg R (cd Try.f61 []) (argsEnv [x0, x1]) (kont Pg R Try.f61) = F61 R x0 x1 :=
  have h : ∀ e, den Pg R (cd Try.f61 []) e (kont Pg R Try.f61) = F61 R (e 0) (e 1) := fun e => (den_join Pg R 1 (cd Try.f61 []) (cd Try.f61 [1,1]) e (kont Pg R Try.f61) (fun e => F61_j1 R (e 2) (e 3)) _ (by kernel_rfl) (fun e => F61_j1_ok R e) (by kernel_rfl))
  h _
theorem F61_calls {R : ER} {x0 x1 : Value} {w : World} (h : F61 R x0 x1 w) : Calls Pg 61 ⟨[x0, x1]⟩ w R :=
  calls_of_den Try.func61 (by kernel_rfl) (by kernel_rfl) (F61_den R x0 x1) h
/-! ### 62: slices_Clone_62 -/
def F62 (R : ER) (x0 : Value) : WP :=
  pv (eqNilS x0) fun v1 =>
  cnd v1 (
   R (.returned (.slice none 0 0))) (
   valV Pg R (Instr.buildSlice 91 0 ⟨[]⟩) fun v2 =>
  blt Pg R .append ⟨[91,91]⟩ 91 ⟨[false, false]⟩ ⟨[v2, x0]⟩ fun v3 =>
  R (.returned v3))
theorem F62_den (R : ER) (x0 : Value) : den Pg R (cd Try.f62 []) (argsEnv [x0]) (kont Pg R Try.f62) = F62 R x0 :=
  have h : ∀ e, den Pg R (cd Try.f62 []) e (kont Pg R Try.f62) = F62 R (e 0) := fun e => by kernel_rfl
  h _
theorem F62_calls {R : ER} {x0 : Value} {w : World} (h : F62 R x0 w) : Calls Pg 62 ⟨[x0]⟩ w R :=
  calls_of_den Try.func62 (by kernel_rfl) (by kernel_rfl) (F62_den R x0) h
/-! ### 63: filter_parser_choose -/
def F63_j3 (R : ER) (k1 : V4) (x0 x1 x5 x7 : Value) : WP :=
  pv (bin .add x7 (.int .i64 1)) fun v1 =>
  k1 x0 x1 x5 v1
theorem F63_j3_ok (R : ER) (k1 : V4) (e : Env) : den Pg R (cd Try.f63 [1,1,1,1,0,0,1]) e (setN (inB 2 (kont Pg R Try.f63)) (fun e => k1 (e 0) (e 1) (e 5) (e 7))) = (F63_j3 R k1 (e 0) (e 1) (e 5) (e 7)) := by kernel_rfl
def F63_j7 (R : ER) (k1 : V4) (x0 x1 x5 x7 : Value) : WP :=
  drewV (
  pv (nilO x0) fun v2 =>
  pv (faO 1 v2) fun v3 =>
  ld1 v3 fun v4 =>
  pv (bin .add v4 x7) fun v5 =>
  pv (nilO x0) fun v6 =>
  pv (faO 0 v6) fun v7 =>
  ld1 v7 fun v8 =>
  pv (lenStr v8) fun v9 =>
  pv (min2I v5 v9) fun v10 =>
  mem fun w12 => cal Pg noR 66 ⟨[x0, v10]⟩ fun v11 =>
  F63_j3 R k1 x0 x1 x5 x7)
theorem F63_j7_ok (R : ER) (k1 : V4) (e : Env) : den Pg R (cd Try.f63 [1,1,1,1,0,0,0,0,1,1,1,0]) e (inB 3 (setN (setN (inB 2 (kont Pg R Try.f63)) (fun e => k1 (e 0) (e 1) (e 5) (e 7))) (fun e => F63_j3 R k1 (e 0) (e 1) (e 5) (e 7)))) = (F63_j7 R k1 (e 0) (e 1) (e 5) (e 7)) := by kernel_rfl
def F63_j6 (R : ER) (k1 : V4) (x0 x1 x5 x7 x90 : Value) : WP :=
  cnd x90 (F63_j7 R k1 x0 x1 x5 x7) (F63_j3 R k1 x0 x1 x5 x7)
theorem F63_j6_ok (R : ER) (k1 : V4) (e : Env) : den Pg R (cd Try.f63 [1,1,1,1,0,0,0,0,1,1,1]) e (inB 3 (setN (setN (inB 2 (kont Pg R Try.f63)) (fun e => k1 (e 0) (e 1) (e 5) (e 7))) (fun e => F63_j3 R k1 (e 0) (e 1) (e 5) (e 7)))) = (F63_j6 R k1 (e 0) (e 1) (e 5) (e 7) (e 90)) := (den_if Pg R (cd Try.f63 [1,1,1,1,0,0,0,0,1,1,1]) (cd Try.f63 [1,1,1,1,0,0,0,0,1,1,1,0]) (cd Try.f63 [1,1,1,1,0,0,0,0,1,1,1,1]) e (inB 3 (setN (setN (inB 2 (kont Pg R Try.f63)) (fun e => k1 (e 0) (e 1) (e 5) (e 7))) (fun e => F63_j3 R k1 (e 0) (e 1) (e 5) (e 7)))) (F63_j7 R k1 (e 0) (e 1) (e 5) (e 7)) _ _ (by kernel_rfl) (F63_j7_ok R k1 e) rfl (by kernel_rfl))
def F63_j5 (R : ER) (k1 : V4) (x0 x1 x5 x7 x8 : Value) : WP :=
  pv (unO .not x8) fun v13 =>
  F63_j6 R k1 x0 x1 x5 x7 v13
theorem F63_j5_ok (R : ER) (k1 : V4) (e : Env) : den Pg R (cd Try.f63 [1,1,1,1,0,0,0,0,1,1]) e (inB 3 (setN (setN (inB 2 (kont Pg R Try.f63)) (fun e => k1 (e 0) (e 1) (e 5) (e 7))) (fun e => F63_j3 R k1 (e 0) (e 1) (e 5) (e 7)))) = (F63_j5 R k1 (e 0) (e 1) (e 5) (e 7) (e 8)) := (den_join Pg R 0 (cd Try.f63 [1,1,1,1,0,0,0,0,1,1]) (cd Try.f63 [1,1,1,1,0,0,0,0,1,1,1]) e (inB 3 (setN (setN (inB 2 (kont Pg R Try.f63)) (fun e => k1 (e 0) (e 1) (e 5) (e 7))) (fun e => F63_j3 R k1 (e 0) (e 1) (e 5) (e 7)))) (fun e => F63_j6 R k1 (e 0) (e 1) (e 5) (e 7) (e 90)) _ (by kernel_rfl) (fun e => F63_j6_ok R k1 e) (by kernel_rfl))
def F63_j11 (R : ER) (k1 : V4) (k2 : V8) (x0 x1 x5 x7 x8 x25 x26 x27 : Value) : WP :=
  pv (bin .add x27 (.int .i64 1)) fun v14 =>
  k2 x0 x1 x5 x7 x8 x25 x26 v14
theorem F63_j11_ok (R : ER) (k1 : V4) (k2 : V8) (e : Env) : den Pg R (cd Try.f63 [1,1,1,1,0,0,0,0,1,0,1,0,0,1,1,1]) e (setN (inB 4 (setN (inB 3 (setN (setN (inB 2 (kont Pg R Try.f63)) (fun e => k1 (e 0) (e 1) (e 5) (e 7))) (fun e => F63_j3 R k1 (e 0) (e 1) (e 5) (e 7)))) (fun e => F63_j5 R k1 (e 0) (e 1) (e 5) (e 7) (e 8)))) (fun e => k2 (e 0) (e 1) (e 5) (e 7) (e 8) (e 25) (e 26) (e 27))) = (F63_j11 R k1 k2 (e 0) (e 1) (e 5) (e 7) (e 8) (e 25) (e 26) (e 27)) := by kernel_rfl
def F63_j14 (R : ER) (k1 : V4) (k2 : V8) (x0 x1 x5 x7 x8 x9 x10 x25 x26 x27 : Value) : WP :=
  drewV (
  pv (lenStr x10) fun v15 =>
  pv (bin .lss x7 v15) fun v16 =>
  gd v16 true (pv (some x0)) fun v17 =>
  gd v16 true (pv (some x0)) fun v18 =>
  gd v16 true (pv (nilO v18)) fun v19 =>
  gd v16 true (pv (faO 1 v19)) fun v20 =>
  gd v16 true (ld1 v20) fun v21 =>
  gd v16 true (pv (some x7)) fun v22 =>
  gd v16 true (pv (bin .add v21 v22)) fun v23 =>
  mem fun w25 => gd v16 true (cal Pg noR 82 ⟨[v17, v23]⟩) fun v24 =>
  gd v16 true (pv (some x10)) fun v26 =>
  gd v16 true (pv (some x7)) fun v27 =>
  gd v16 true (pv (ixStr v26 v27)) fun v28 =>
  gd v16 true (pv (bin .eql v24 v28)) fun v29 =>
  pv (pickO v16 v29 (.bool false)) fun v30 =>
  pv (ixS 1 x5 x9) fun v31 =>
  mem fun w33 => st1 v31 v30 fun v32 =>
  gd x8 false (pv (some x5)) fun v34 =>
  gd x8 false (pv (some x9)) fun v35 =>
  gd x8 false (pv (ixS 1 v34 v35)) fun v36 =>
  gd x8 false (ld1 v36) fun v37 =>
  pv (pickO x8 (.bool true) v37) fun v38 =>
  F63_j11 R k1 k2 x0 x1 x5 x7 v38 x25 x26 x27)
theorem F63_j14_ok (R : ER) (k1 : V4) (k2 : V8) (e : Env) : den Pg R (cd Try.f63 [1,1,1,1,0,0,0,0,1,0,1,0,0,1,1,0,0,1,1,1]) e (inB 5 (setN (setN (inB 4 (setN (inB 3 (setN (setN (inB 2 (kont Pg R Try.f63)) (fun e => k1 (e 0) (e 1) (e 5) (e 7))) (fun e => F63_j3 R k1 (e 0) (e 1) (e 5) (e 7)))) (fun e => F63_j5 R k1 (e 0) (e 1) (e 5) (e 7) (e 8)))) (fun e => k2 (e 0) (e 1) (e 5) (e 7) (e 8) (e 25) (e 26) (e 27))) (fun e => F63_j11 R k1 k2 (e 0) (e 1) (e 5) (e 7) (e 8) (e 25) (e 26) (e 27)))) = (F63_j14 R k1 k2 (e 0) (e 1) (e 5) (e 7) (e 8) (e 9) (e 10) (e 25) (e 26) (e 27)) := by kernel_rfl
def F63_j15 (R : ER) (k1 : V4) (k2 : V8) (x0 x1 x5 x7 x8 x9 x10 x25 x26 x27 : Value) : WP :=
  pv (lenStr x10) fun v39 =>
  pv (bin .eql x7 v39) fun v40 =>
  gd v40 true (pv (some x0)) fun v41 =>
  gd v40 true (pv (some x0)) fun v42 =>
  gd v40 true (pv (nilO v42)) fun v43 =>
  gd v40 true (pv (faO 1 v43)) fun v44 =>
  gd v40 true (ld1 v44) fun v45 =>
  gd v40 true (pv (some x7)) fun v46 =>
  gd v40 true (pv (bin .add v45 v46)) fun v47 =>
  gd v40 true (cal Pg R 81 ⟨[v41, v47]⟩) fun v48 =>
  pv (pickO v40 v48 (.bool false)) fun v49 =>
  cnd v49 (
   pv (nilO x0) fun v50 =>
   pv (faO 1 v50) fun v51 =>
   ld1 v51 fun v52 =>
   pv (bin .add v52 x7) fun v53 =>
   pv (nilO x0) fun v54 =>
   pv (faO 1 v54) fun v55 =>
   st1 v55 v53 fun _ =>
   R (.returned x9)) (
   F63_j14 R k1 k2 x0 x1 x5 x7 x8 x9 x10 x25 x26 x27)
theorem F63_j15_ok (R : ER) (k1 : V4) (k2 : V8) (e : Env) : den Pg R (cd Try.f63 [1,1,1,1,0,0,0,0,1,0,1,0,0,1,1,0,0,1,1,0]) e (setN (inB 5 (setN (setN (inB 4 (setN (inB 3 (setN (setN (inB 2 (kont Pg R Try.f63)) (fun e => k1 (e 0) (e 1) (e 5) (e 7))) (fun e => F63_j3 R k1 (e 0) (e 1) (e 5) (e 7)))) (fun e => F63_j5 R k1 (e 0) (e 1) (e 5) (e 7) (e 8)))) (fun e => k2 (e 0) (e 1) (e 5) (e 7) (e 8) (e 25) (e 26) (e 27))) (fun e => F63_j11 R k1 k2 (e 0) (e 1) (e 5) (e 7) (e 8) (e 25) (e 26) (e 27)))) (fun e => F63_j14 R k1 k2 (e 0) (e 1) (e 5) (e 7) (e 8) (e 9) (e 10) (e 25) (e 26) (e 27))) = (F63_j15 R k1 k2 (e 0) (e 1) (e 5) (e 7) (e 8) (e 9) (e 10) (e 25) (e 26) (e 27)) := (by kernel_rfl)
def F63_j13 (R : ER) (k1 : V4) (k2 : V8) (x0 x1 x5 x7 x8 x9 x10 x25 x26 x27 : Value) : WP :=
  F63_j15 R k1 k2 x0 x1 x5 x7 x8 x9 x10 x25 x26 x27
theorem F63_j13_ok (R : ER) (k1 : V4) (k2 : V8) (e : Env) : den Pg R (cd Try.f63 [1,1,1,1,0,0,0,0,1,0,1,0,0,1,1,0,0,1,1]) e (inB 5 (setN (setN (inB 4 (setN (inB 3 (setN (setN (inB 2 (kont Pg R Try.f63)) (fun e => k1 (e 0) (e 1) (e 5) (e 7))) (fun e => F63_j3 R k1 (e 0) (e 1) (e 5) (e 7)))) (fun e => F63_j5 R k1 (e 0) (e 1) (e 5) (e 7) (e 8)))) (fun e => k2 (e 0) (e 1) (e 5) (e 7) (e 8) (e 25) (e 26) (e 27))) (fun e => F63_j11 R k1 k2 (e 0) (e 1) (e 5) (e 7) (e 8) (e 25) (e 26) (e 27)))) = (F63_j13 R k1 k2 (e 0) (e 1) (e 5) (e 7) (e 8) (e 9) (e 10) (e 25) (e 26) (e 27)) := (den_join Pg R 0 (cd Try.f63 [1,1,1,1,0,0,0,0,1,0,1,0,0,1,1,0,0,1,1]) (cd Try.f63 [1,1,1,1,0,0,0,0,1,0,1,0,0,1,1,0,0,1,1,1]) e (inB 5 (setN (setN (inB 4 (setN (inB 3 (setN (setN (inB 2 (kont Pg R Try.f63)) (fun e => k1 (e 0) (e 1) (e 5) (e 7))) (fun e => F63_j3 R k1 (e 0) (e 1) (e 5) (e 7)))) (fun e => F63_j5 R k1 (e 0) (e 1) (e 5) (e 7) (e 8)))) (fun e => k2 (e 0) (e 1) (e 5) (e 7) (e 8) (e 25) (e 26) (e 27))) (fun e => F63_j11 R k1 k2 (e 0) (e 1) (e 5) (e 7) (e 8) (e 25) (e 26) (e 27)))) (fun e => F63_j14 R k1 k2 (e 0) (e 1) (e 5) (e 7) (e 8) (e 9) (e 10) (e 25) (e 26) (e 27)) _ (by kernel_rfl) (fun e => F63_j14_ok R k1 k2 e) (den_conv Pg R (pre 0 (cd Try.f63 [1,1,1,1,0,0,0,0,1,0,1,0,0,1,1,0,0,1,1])) (cd Try.f63 [1,1,1,1,0,0,0,0,1,0,1,0,0,1,1,0,0,1,1,0]) e (setN (inB 5 (setN (setN (inB 4 (setN (inB 3 (setN (setN (inB 2 (kont Pg R Try.f63)) (fun e => k1 (e 0) (e 1) (e 5) (e 7))) (fun e => F63_j3 R k1 (e 0) (e 1) (e 5) (e 7)))) (fun e => F63_j5 R k1 (e 0) (e 1) (e 5) (e 7) (e 8)))) (fun e => k2 (e 0) (e 1) (e 5) (e 7) (e 8) (e 25) (e 26) (e 27))) (fun e => F63_j11 R k1 k2 (e 0) (e 1) (e 5) (e 7) (e 8) (e 25) (e 26) (e 27)))) (fun e => F63_j14 R k1 k2 (e 0) (e 1) (e 5) (e 7) (e 8) (e 9) (e 10) (e 25) (e 26) (e 27))) _ (by kernel_rfl) (F63_j15_ok R k1 k2 e)))
def F63_j12 (R : ER) (k1 : V4) (k2 : V8) (x0 x1 x5 x7 x8 x25 x26 x27 : Value) : WP :=
  pv (ixS 1 x25 x27) fun v56 =>
  ld1 v56 fun v57 =>
  pv (ixS 1 x5 x27) fun v58 =>
  ld1 v58 fun v59 =>
  pv (unO .not v59) fun v60 =>
  cnd v60 (
   F63_j11 R k1 k2 x0 x1 x5 x7 x8 x25 x26 x27) (
   F63_j13 R k1 k2 x0 x1 x5 x7 x8 x27 v57 x25 x26 x27)
theorem F63_j12_ok (R : ER) (k1 : V4) (k2 : V8) (e : Env) : den Pg R (cd Try.f63 [1,1,1,1,0,0,0,0,1,0,1,0,0,1,1,0]) e (setN (setN (inB 4 (setN (inB 3 (setN (setN (inB 2 (kont Pg R Try.f63)) (fun e => k1 (e 0) (e 1) (e 5) (e 7))) (fun e => F63_j3 R k1 (e 0) (e 1) (e 5) (e 7)))) (fun e => F63_j5 R k1 (e 0) (e 1) (e 5) (e 7) (e 8)))) (fun e => k2 (e 0) (e 1) (e 5) (e 7) (e 8) (e 25) (e 26) (e 27))) (fun e => F63_j11 R k1 k2 (e 0) (e 1) (e 5) (e 7) (e 8) (e 25) (e 26) (e 27))) = (F63_j12 R k1 k2 (e 0) (e 1) (e 5) (e 7) (e 8) (e 25) (e 26) (e 27)) := (den_block Pg R (cd Try.f63 [1,1,1,1,0,0,0,0,1,0,1,0,0,1,1,0]) 5 (cd Try.f63 [1,1,1,1,0,0,0,0,1,0,1,0,0,1,1,0,0]) e (setN (setN (inB 4 (setN (inB 3 (setN (setN (inB 2 (kont Pg R Try.f63)) (fun e => k1 (e 0) (e 1) (e 5) (e 7))) (fun e => F63_j3 R k1 (e 0) (e 1) (e 5) (e 7)))) (fun e => F63_j5 R k1 (e 0) (e 1) (e 5) (e 7) (e 8)))) (fun e => k2 (e 0) (e 1) (e 5) (e 7) (e 8) (e 25) (e 26) (e 27))) (fun e => F63_j11 R k1 k2 (e 0) (e 1) (e 5) (e 7) (e 8) (e 25) (e 26) (e 27))) _ (by kernel_rfl) (den_join Pg R 1 (cd Try.f63 [1,1,1,1,0,0,0,0,1,0,1,0,0,1,1,0,0]) (cd Try.f63 [1,1,1,1,0,0,0,0,1,0,1,0,0,1,1,0,0,1,1]) e (inB 5 (setN (setN (inB 4 (setN (inB 3 (setN (setN (inB 2 (kont Pg R Try.f63)) (fun e => k1 (e 0) (e 1) (e 5) (e 7))) (fun e => F63_j3 R k1 (e 0) (e 1) (e 5) (e 7)))) (fun e => F63_j5 R k1 (e 0) (e 1) (e 5) (e 7) (e 8)))) (fun e => k2 (e 0) (e 1) (e 5) (e 7) (e 8) (e 25) (e 26) (e 27))) (fun e => F63_j11 R k1 k2 (e 0) (e 1) (e 5) (e 7) (e 8) (e 25) (e 26) (e 27)))) (fun e => F63_j13 R k1 k2 (e 0) (e 1) (e 5) (e 7) (e 8) (e 9) (e 10) (e 25) (e 26) (e 27)) _ (by kernel_rfl) (fun e => F63_j13_ok R k1 k2 e) (by kernel_rfl)))
def F63_j10 (R : ER) (k1 : V4) (k2 : V8) (x0 x1 x5 x7 x8 x25 x26 x27 : Value) : WP :=
  F63_j12 R k1 k2 x0 x1 x5 x7 x8 x25 x26 x27
theorem F63_j10_ok (R : ER) (k1 : V4) (k2 : V8) (e : Env) : den Pg R (cd Try.f63 [1,1,1,1,0,0,0,0,1,0,1,0,0,1,1]) e (setN (inB 4 (setN (inB 3 (setN (setN (inB 2 (kont Pg R Try.f63)) (fun e => k1 (e 0) (e 1) (e 5) (e 7))) (fun e => F63_j3 R k1 (e 0) (e 1) (e 5) (e 7)))) (fun e => F63_j5 R k1 (e 0) (e 1) (e 5) (e 7) (e 8)))) (fun e => k2 (e 0) (e 1) (e 5) (e 7) (e 8) (e 25) (e 26) (e 27))) = (F63_j10 R k1 k2 (e 0) (e 1) (e 5) (e 7) (e 8) (e 25) (e 26) (e 27)) := (den_join Pg R 0 (cd Try.f63 [1,1,1,1,0,0,0,0,1,0,1,0,0,1,1]) (cd Try.f63 [1,1,1,1,0,0,0,0,1,0,1,0,0,1,1,1]) e (setN (inB 4 (setN (inB 3 (setN (setN (inB 2 (kont Pg R Try.f63)) (fun e => k1 (e 0) (e 1) (e 5) (e 7))) (fun e => F63_j3 R k1 (e 0) (e 1) (e 5) (e 7)))) (fun e => F63_j5 R k1 (e 0) (e 1) (e 5) (e 7) (e 8)))) (fun e => k2 (e 0) (e 1) (e 5) (e 7) (e 8) (e 25) (e 26) (e 27))) (fun e => F63_j11 R k1 k2 (e 0) (e 1) (e 5) (e 7) (e 8) (e 25) (e 26) (e 27)) _ (by kernel_rfl) (fun e => F63_j11_ok R k1 k2 e) (den_conv Pg R (pre 0 (cd Try.f63 [1,1,1,1,0,0,0,0,1,0,1,0,0,1,1])) (cd Try.f63 [1,1,1,1,0,0,0,0,1,0,1,0,0,1,1,0]) e (setN (setN (inB 4 (setN (inB 3 (setN (setN (inB 2 (kont Pg R Try.f63)) (fun e => k1 (e 0) (e 1) (e 5) (e 7))) (fun e => F63_j3 R k1 (e 0) (e 1) (e 5) (e 7)))) (fun e => F63_j5 R k1 (e 0) (e 1) (e 5) (e 7) (e 8)))) (fun e => k2 (e 0) (e 1) (e 5) (e 7) (e 8) (e 25) (e 26) (e 27))) (fun e => F63_j11 R k1 k2 (e 0) (e 1) (e 5) (e 7) (e 8) (e 25) (e 26) (e 27))) _ (by kernel_rfl) (F63_j12_ok R k1 k2 e)))
def F63_b2 (R : ER) (k1 : V4) (k2 : V8) (x0 x1 x5 x7 x8 x25 x26 x27 : Value) : WP :=
  pv (bin .lss x27 x26) fun v61 =>
  cnd v61 (
   F63_j10 R k1 k2 x0 x1 x5 x7 x8 x25 x26 x27) (
   F63_j5 R k1 x0 x1 x5 x7 x8)
theorem F63_b2_ok (R : ER) (k1 : V4) (k2 : V8) (e : Env) : den Pg R (cd Try.f63 [1,1,1,1,0,0,0,0,1,0,1,0,0]) e (setN (inB 4 (setN (inB 3 (setN (setN (inB 2 (kont Pg R Try.f63)) (fun e => k1 (e 0) (e 1) (e 5) (e 7))) (fun e => F63_j3 R k1 (e 0) (e 1) (e 5) (e 7)))) (fun e => F63_j5 R k1 (e 0) (e 1) (e 5) (e 7) (e 8)))) (fun e => k2 (e 0) (e 1) (e 5) (e 7) (e 8) (e 25) (e 26) (e 27))) = (F63_b2 R k1 k2 (e 0) (e 1) (e 5) (e 7) (e 8) (e 25) (e 26) (e 27)) := (den_join Pg R 1 (cd Try.f63 [1,1,1,1,0,0,0,0,1,0,1,0,0]) (cd Try.f63 [1,1,1,1,0,0,0,0,1,0,1,0,0,1,1]) e (setN (inB 4 (setN (inB 3 (setN (setN (inB 2 (kont Pg R Try.f63)) (fun e => k1 (e 0) (e 1) (e 5) (e 7))) (fun e => F63_j3 R k1 (e 0) (e 1) (e 5) (e 7)))) (fun e => F63_j5 R k1 (e 0) (e 1) (e 5) (e 7) (e 8)))) (fun e => k2 (e 0) (e 1) (e 5) (e 7) (e 8) (e 25) (e 26) (e 27))) (fun e => F63_j10 R k1 k2 (e 0) (e 1) (e 5) (e 7) (e 8) (e 25) (e 26) (e 27)) _ (by kernel_rfl) (fun e => F63_j10_ok R k1 k2 e) (by kernel_rfl))
noncomputable def F63_l1 (R : ER) (k1 : V4) (n : Nat) : V8 := Nat.rec (motive := fun _ => V8) (fun _ _ _ _ _ _ _ _ => fun _ => False) (fun _ ih => fun x0 x1 x5 x7 x8 x25 x26 x27 => F63_b2 R k1 ih x0 x1 x5 x7 x8 x25 x26 x27) n
theorem F63_l1_succ (R : ER) (k1 : V4) (n : Nat) (x0 x1 x5 x7 x8 x25 x26 x27 : Value) : F63_l1 R k1 (n + 1) x0 x1 x5 x7 x8 x25 x26 x27 = F63_b2 R k1 (F63_l1 R k1 n) x0 x1 x5 x7 x8 x25 x26 x27 := rfl
theorem F63_l1_ok (R : ER) (k1 : V4) : ∀ (n : Nat) (e : Env), iterL (den Pg R (cd Try.f63 [1,1,1,1,0,0,0,0,1,0,1,0,0])) n e (inB 4 (setN (inB 3 (setN (setN (inB 2 (kont Pg R Try.f63)) (fun e => k1 (e 0) (e 1) (e 5) (e 7))) (fun e => F63_j3 R k1 (e 0) (e 1) (e 5) (e 7)))) (fun e => F63_j5 R k1 (e 0) (e 1) (e 5) (e 7) (e 8)))) = F63_l1 R k1 n (e 0) (e 1) (e 5) (e 7) (e 8) (e 25) (e 26) (e 27) :=
  iterL_join (den Pg R (cd Try.f63 [1,1,1,1,0,0,0,0,1,0,1,0,0])) (inB 4 (setN (inB 3 (setN (setN (inB 2 (kont Pg R Try.f63)) (fun e => k1 (e 0) (e 1) (e 5) (e 7))) (fun e => F63_j3 R k1 (e 0) (e 1) (e 5) (e 7)))) (fun e => F63_j5 R k1 (e 0) (e 1) (e 5) (e 7) (e 8)))) (fun n e => F63_l1 R k1 n (e 0) (e 1) (e 5) (e 7) (e 8) (e 25) (e 26) (e 27)) (fun _ => rfl) (fun n e => (F63_b2_ok R k1 (F63_l1 R k1 n) e).trans (F63_l1_succ R k1 n (e 0) (e 1) (e 5) (e 7) (e 8) (e 25) (e 26) (e 27)).symm)
def F63_j9 (R : ER) (k1 : V4) (x0 x1 x5 x7 x8 x25 x26 x27 : Value) : WP :=
  exN fun n => F63_l1 R k1 n x0 x1 x5 x7 x8 x25 x26 x27
theorem F63_j9_ok (R : ER) (k1 : V4) (e : Env) : den Pg R (cd Try.f63 [1,1,1,1,0,0,0,0,1,0,1]) e (setN (inB 3 (setN (setN (inB 2 (kont Pg R Try.f63)) (fun e => k1 (e 0) (e 1) (e 5) (e 7))) (fun e => F63_j3 R k1 (e 0) (e 1) (e 5) (e 7)))) (fun e => F63_j5 R k1 (e 0) (e 1) (e 5) (e 7) (e 8))) = (F63_j9 R k1 (e 0) (e 1) (e 5) (e 7) (e 8) (e 25) (e 26) (e 27)) := (den_block Pg R (cd Try.f63 [1,1,1,1,0,0,0,0,1,0,1]) 4 (cd Try.f63 [1,1,1,1,0,0,0,0,1,0,1,0]) e (setN (inB 3 (setN (setN (inB 2 (kont Pg R Try.f63)) (fun e => k1 (e 0) (e 1) (e 5) (e 7))) (fun e => F63_j3 R k1 (e 0) (e 1) (e 5) (e 7)))) (fun e => F63_j5 R k1 (e 0) (e 1) (e 5) (e 7) (e 8))) _ (by kernel_rfl) (den_loop Pg R (cd Try.f63 [1,1,1,1,0,0,0,0,1,0,1,0]) (cd Try.f63 [1,1,1,1,0,0,0,0,1,0,1,0,0]) e (inB 4 (setN (inB 3 (setN (setN (inB 2 (kont Pg R Try.f63)) (fun e => k1 (e 0) (e 1) (e 5) (e 7))) (fun e => F63_j3 R k1 (e 0) (e 1) (e 5) (e 7)))) (fun e => F63_j5 R k1 (e 0) (e 1) (e 5) (e 7) (e 8)))) (fun n e => F63_l1 R k1 n (e 0) (e 1) (e 5) (e 7) (e 8) (e 25) (e 26) (e 27)) _ (by kernel_rfl) (F63_l1_ok R k1) (by kernel_rfl)))
def F63_j8 (R : ER) (k1 : V4) (x0 x1 x5 x7 x8 : Value) : WP :=
  pv (lenS x1) fun v62 =>
  F63_j9 R k1 x0 x1 x5 x7 x8 x1 v62 (.int .i64 0)
theorem F63_j8_ok (R : ER) (k1 : V4) (e : Env) : den Pg R (cd Try.f63 [1,1,1,1,0,0,0,0,1,0]) e (setN (inB 3 (setN (setN (inB 2 (kont Pg R Try.f63)) (fun e => k1 (e 0) (e 1) (e 5) (e 7))) (fun e => F63_j3 R k1 (e 0) (e 1) (e 5) (e 7)))) (fun e => F63_j5 R k1 (e 0) (e 1) (e 5) (e 7) (e 8))) = (F63_j8 R k1 (e 0) (e 1) (e 5) (e 7) (e 8)) := (den_join Pg R 0 (cd Try.f63 [1,1,1,1,0,0,0,0,1,0]) (cd Try.f63 [1,1,1,1,0,0,0,0,1,0,1]) e (setN (inB 3 (setN (setN (inB 2 (kont Pg R Try.f63)) (fun e => k1 (e 0) (e 1) (e 5) (e 7))) (fun e => F63_j3 R k1 (e 0) (e 1) (e 5) (e 7)))) (fun e => F63_j5 R k1 (e 0) (e 1) (e 5) (e 7) (e 8))) (fun e => F63_j9 R k1 (e 0) (e 1) (e 5) (e 7) (e 8) (e 25) (e 26) (e 27)) _ (by kernel_rfl) (fun e => F63_j9_ok R k1 e) (by kernel_rfl))
def F63_j4 (R : ER) (k1 : V4) (x0 x1 x5 x7 : Value) : WP :=
  F63_j8 R k1 x0 x1 x5 x7 (.bool false)
theorem F63_j4_ok (R : ER) (k1 : V4) (e : Env) : den Pg R (cd Try.f63 [1,1,1,1,0,0,0]) e (setN (setN (inB 2 (kont Pg R Try.f63)) (fun e => k1 (e 0) (e 1) (e 5) (e 7))) (fun e => F63_j3 R k1 (e 0) (e 1) (e 5) (e 7))) = (F63_j4 R k1 (e 0) (e 1) (e 5) (e 7)) := (den_block Pg R (cd Try.f63 [1,1,1,1,0,0,0]) 3 (cd Try.f63 [1,1,1,1,0,0,0,0]) e (setN (setN (inB 2 (kont Pg R Try.f63)) (fun e => k1 (e 0) (e 1) (e 5) (e 7))) (fun e => F63_j3 R k1 (e 0) (e 1) (e 5) (e 7))) _ (by kernel_rfl) (den_join Pg R 1 (cd Try.f63 [1,1,1,1,0,0,0,0]) (cd Try.f63 [1,1,1,1,0,0,0,0,1,1]) e (inB 3 (setN (setN (inB 2 (kont Pg R Try.f63)) (fun e => k1 (e 0) (e 1) (e 5) (e 7))) (fun e => F63_j3 R k1 (e 0) (e 1) (e 5) (e 7)))) (fun e => F63_j5 R k1 (e 0) (e 1) (e 5) (e 7) (e 8)) _ (by kernel_rfl) (fun e => F63_j5_ok R k1 e) (den_join Pg R 0 (pre 1 (cd Try.f63 [1,1,1,1,0,0,0,0])) (cd Try.f63 [1,1,1,1,0,0,0,0,1,0]) e (setN (inB 3 (setN (setN (inB 2 (kont Pg R Try.f63)) (fun e => k1 (e 0) (e 1) (e 5) (e 7))) (fun e => F63_j3 R k1 (e 0) (e 1) (e 5) (e 7)))) (fun e => F63_j5 R k1 (e 0) (e 1) (e 5) (e 7) (e 8))) (fun e => F63_j8 R k1 (e 0) (e 1) (e 5) (e 7) (e 8)) _ (by kernel_rfl) (fun e => F63_j8_ok R k1 e) (by kernel_rfl))))
def F63_b1 (R : ER) (k1 : V4) (x0 x1 x5 x7 : Value) : WP :=
  F63_j4 R k1 x0 x1 x5 x7
theorem F63_b1_ok (R : ER) (k1 : V4) (e : Env) : den Pg R (cd Try.f63 [1,1,1,1,0,0]) e (setN (inB 2 (kont Pg R Try.f63)) (fun e => k1 (e 0) (e 1) (e 5) (e 7))) = (F63_b1 R k1 (e 0) (e 1) (e 5) (e 7)) := (den_join Pg R 0 (cd Try.f63 [1,1,1,1,0,0]) (cd Try.f63 [1,1,1,1,0,0,1]) e (setN (inB 2 (kont Pg R Try.f63)) (fun e => k1 (e 0) (e 1) (e 5) (e 7))) (fun e => F63_j3 R k1 (e 0) (e 1) (e 5) (e 7)) _ (by kernel_rfl) (fun e => F63_j3_ok R k1 e) (den_conv Pg R (pre 0 (cd Try.f63 [1,1,1,1,0,0])) (cd Try.f63 [1,1,1,1,0,0,0]) e (setN (setN (inB 2 (kont Pg R Try.f63)) (fun e => k1 (e 0) (e 1) (e 5) (e 7))) (fun e => F63_j3 R k1 (e 0) (e 1) (e 5) (e 7))) _ (by kernel_rfl) (F63_j4_ok R k1 e)))
noncomputable def F63_l2 (R : ER) (n : Nat) : V4 := Nat.rec (motive := fun _ => V4) (fun _ _ _ _ => fun _ => False) (fun _ ih => fun x0 x1 x5 x7 => F63_b1 R ih x0 x1 x5 x7) n
theorem F63_l2_succ (R : ER) (n : Nat) (x0 x1 x5 x7 : Value) : F63_l2 R (n + 1) x0 x1 x5 x7 = F63_b1 R (F63_l2 R n) x0 x1 x5 x7 := rfl
theorem F63_l2_ok (R : ER) : ∀ (n : Nat) (e : Env), iterL (den Pg R (cd Try.f63 [1,1,1,1,0,0])) n e (inB 2 (kont Pg R Try.f63)) = F63_l2 R n (e 0) (e 1) (e 5) (e 7) :=
  iterL_join (den Pg R (cd Try.f63 [1,1,1,1,0,0])) (inB 2 (kont Pg R Try.f63)) (fun n e => F63_l2 R n (e 0) (e 1) (e 5) (e 7)) (fun _ => rfl) (fun n e => (F63_b1_ok R (F63_l2 R n) e).trans (F63_l2_succ R n (e 0) (e 1) (e 5) (e 7)).symm)
def F63_j2 (R : ER) (x0 x1 x5 x7 : Value) : WP :=
  exN fun n => F63_l2 R n x0 x1 x5 x7
theorem F63_j2_ok (R : ER) (e : Env) : den Pg R (cd Try.f63 [1,1,1,1]) e (kont Pg R Try.f63) = (F63_j2 R (e 0) (e 1) (e 5) (e 7)) := (den_block Pg R (cd Try.f63 [1,1,1,1]) 2 (cd Try.f63 [1,1,1,1,0]) e (kont Pg R Try.f63) _ (by kernel_rfl) (den_loop Pg R (cd Try.f63 [1,1,1,1,0]) (cd Try.f63 [1,1,1,1,0,0]) e (inB 2 (kont Pg R Try.f63)) (fun n e => F63_l2 R n (e 0) (e 1) (e 5) (e 7)) _ (by kernel_rfl) (F63_l2_ok R) (by kernel_rfl)))
def F63_j1 (R : ER) (x0 x1 x5 : Value) : WP :=
  F63_j2 R x0 x1 x5 (.int .i64 0)
theorem F63_j1_ok (R : ER) (e : Env) : den Pg R (cd Try.f63 [1,1,1]) e (kont Pg R Try.f63) = (F63_j1 R (e 0) (e 1) (e 5)) := (den_join Pg R 0 (cd Try.f63 [1,1,1]) (cd Try.f63 [1,1,1,1]) e (kont Pg R Try.f63) (fun e => F63_j2 R (e 0) (e 1) (e 5) (e 7)) _ (by kernel_rfl) (fun e => F63_j2_ok R e) (by kernel_rfl))
def F63_b3 (R : ER) (k1 : V5) (x0 x1 x5 x15 x16 : Value) : WP :=
  pv (bin .lss x16 x15) fun v63 =>
  cnd v63 (
   pv (ixS 1 x5 x16) fun v64 =>
  st1 v64 (.bool true) fun _ =>
  pv (bin .add x16 (.int .i64 1)) fun v65 =>
  k1 x0 x1 x5 x15 v65) (
   F63_j1 R x0 x1 x5)
theorem F63_b3_ok (R : ER) (k1 : V5) (e : Env) : den Pg R (cd Try.f63 [1,1,0,1,0,0]) e (setN (inB 0 (setN (kont Pg R Try.f63) (fun e => F63_j1 R (e 0) (e 1) (e 5)))) (fun e => k1 (e 0) (e 1) (e 5) (e 15) (e 16))) = (F63_b3 R k1 (e 0) (e 1) (e 5) (e 15) (e 16)) := by kernel_rfl
noncomputable def F63_l3 (R : ER) (n : Nat) : V5 := Nat.rec (motive := fun _ => V5) (fun _ _ _ _ _ => fun _ => False) (fun _ ih => fun x0 x1 x5 x15 x16 => F63_b3 R ih x0 x1 x5 x15 x16) n
theorem F63_l3_succ (R : ER) (n : Nat) (x0 x1 x5 x15 x16 : Value) : F63_l3 R (n + 1) x0 x1 x5 x15 x16 = F63_b3 R (F63_l3 R n) x0 x1 x5 x15 x16 := rfl
theorem F63_l3_ok (R : ER) : ∀ (n : Nat) (e : Env), iterL (den Pg R (cd Try.f63 [1,1,0,1,0,0])) n e (inB 0 (setN (kont Pg R Try.f63) (fun e => F63_j1 R (e 0) (e 1) (e 5)))) = F63_l3 R n (e 0) (e 1) (e 5) (e 15) (e 16) :=
  iterL_join (den Pg R (cd Try.f63 [1,1,0,1,0,0])) (inB 0 (setN (kont Pg R Try.f63) (fun e => F63_j1 R (e 0) (e 1) (e 5)))) (fun n e => F63_l3 R n (e 0) (e 1) (e 5) (e 15) (e 16)) (fun _ => rfl) (fun n e => (F63_b3_ok R (F63_l3 R n) e).trans (F63_l3_succ R n (e 0) (e 1) (e 5) (e 15) (e 16)).symm)
def F63_j17 (R : ER) (x0 x1 x5 x15 x16 : Value) : WP :=
  exN fun n => F63_l3 R n x0 x1 x5 x15 x16
theorem F63_j17_ok (R : ER) (e : Env) : den Pg R (cd Try.f63 [1,1,0,1]) e (setN (kont Pg R Try.f63) (fun e => F63_j1 R (e 0) (e 1) (e 5))) = (F63_j17 R (e 0) (e 1) (e 5) (e 15) (e 16)) := (den_block Pg R (cd Try.f63 [1,1,0,1]) 0 (cd Try.f63 [1,1,0,1,0]) e (setN (kont Pg R Try.f63) (fun e => F63_j1 R (e 0) (e 1) (e 5))) _ (by kernel_rfl) (den_loop Pg R (cd Try.f63 [1,1,0,1,0]) (cd Try.f63 [1,1,0,1,0,0]) e (inB 0 (setN (kont Pg R Try.f63) (fun e => F63_j1 R (e 0) (e 1) (e 5)))) (fun n e => F63_l3 R n (e 0) (e 1) (e 5) (e 15) (e 16)) _ (by kernel_rfl) (F63_l3_ok R) (by kernel_rfl)))
def F63_j16 (R : ER) (x0 x1 x5 : Value) : WP :=
  pv (lenS x5) fun v66 =>
  F63_j17 R x0 x1 x5 v66 (.int .i64 0)
theorem F63_j16_ok (R : ER) (e : Env) : den Pg R (cd Try.f63 [1,1,0]) e (setN (kont Pg R Try.f63) (fun e => F63_j1 R (e 0) (e 1) (e 5))) = (F63_j16 R (e 0) (e 1) (e 5)) := (den_join Pg R 0 (cd Try.f63 [1,1,0]) (cd Try.f63 [1,1,0,1]) e (setN (kont Pg R Try.f63) (fun e => F63_j1 R (e 0) (e 1) (e 5))) (fun e => F63_j17 R (e 0) (e 1) (e 5) (e 15) (e 16)) _ (by kernel_rfl) (fun e => F63_j17_ok R e) (by kernel_rfl))
def F63 (R : ER) (x0 x1 : Value) : WP :=
  pv (lenS x1) fun v67 =>
  valV Pg R (Instr.makeSlice 155 v67 v67) fun v68 =>
  F63_j16 R x0 x1 v68
theorem F63_den (R : ER) (x0 x1 : Value) : den Pg R (cd Try.f63 []) (argsEnv [x0, x1]) (kont Pg R Try.f63) = F63 R x0 x1 :=
  have h : ∀ e, den Pg R (cd Try.f63 []) e (kont Pg R Try.f63) = F63 R (e 0) (e 1) := fun e => (den_join Pg R 2 (cd Try.f63 []) (cd Try.f63 [1,1,1]) e (kont Pg R Try.f63) (fun e => F63_j1 R (e 0) (e 1) (e 5)) _ (by kernel_rfl) (fun e => F63_j1_ok R e) (den_join Pg R 1 (pre 2 (cd Try.f63 [])) (cd Try.f63 [1,1,0]) e (setN (kont Pg R Try.f63) (fun e => F63_j1 R (e 0) (e 1) (e 5))) (fun e => F63_j16 R (e 0) (e 1) (e 5)) _ (by kernel_rfl) (fun e => F63_j16_ok R e) (by kernel_rfl)))
  h _
theorem F63_calls {R : ER} {x0 x1 : Value} {w : World} (h : F63 R x0 x1 w) : Calls Pg 63 ⟨[x0, x1]⟩ w R :=
  calls_of_den Try.func63 (by kernel_rfl) (by kernel_rfl) (F63_den R x0 x1) h
/-! ### 64: filter_parser_more -/
def F64 (R : ER) (x0 : Value) : WP :=
  drewV (
  pv (nilO x0) fun v1 =>
  pv (faO 1 v1) fun v2 =>
  ld1 v2 fun v3 =>
  pv (nilO x0) fun v4 =>
  pv (faO 0 v4) fun v5 =>
  ld1 v5 fun v6 =>
  pv (lenStr v6) fun v7 =>
  pv (bin .geq v3 v7) fun v8 =>
  cnd v8 (
   R (.returned (.bool false))) (
   cal Pg R 83 ⟨[x0, (.int .u8 32)]⟩ fun v9 =>
  R (.returned (.bool true))))
theorem F64_den (R : ER) (x0 : Value) : den Pg R (cd Try.f64 []) (argsEnv [x0]) (kont Pg R Try.f64) = F64 R x0 :=
  have h : ∀ e, den Pg R (cd Try.f64 []) e (kont Pg R Try.f64) = F64 R (e 0) := fun e => (by kernel_rfl)
  h _
theorem F64_calls {R : ER} {x0 : Value} {w : World} (h : F64 R x0 w) : Calls Pg 64 ⟨[x0]⟩ w R :=
  calls_of_den Try.func64 (by kernel_rfl) (by kernel_rfl) (F64_den R x0) h
/-! ### 65: filter_parser_part -/
def F65_j1 (R : ER) (x3 x9 : Value) : WP :=
  pv (bin .geq x9 (.int .i64 0)) fun v1 =>
  cnd v1 (
   pv (bin .add x3 (.int .i64 1)) fun v2 =>
   pv (bin .add v2 x9) fun v3 =>
   R (.returned v3)) (
   R (.returned (.int .i64 (-1))))
theorem F65_j1_ok (R : ER) (e : Env) : den Pg R (cd Try.f65 [1,1,1]) e (kont Pg R Try.f65) = (F65_j1 R (e 3) (e 9)) := by kernel_rfl
def F65_j15 (R : ER) (x0 x1 x2 x3 : Value) : WP :=
  pv (bin .add x3 (.int .i64 1)) fun v4 =>
  pv (slS 1 x2 (some v4) none) fun v5 =>
  cal Pg R 85 ⟨[x0, v5]⟩ fun v6 =>
  pv (extO 0 v6) fun v7 =>
  pv (extO 1 v6) fun v8 =>
  pv (extO 2 v6) fun v9 =>
  pv (nilO x1) fun v10 =>
  pv (faO 6 v10) fun v11 =>
  stN 3 v11 v7 fun _ =>
  pv (nilO x1) fun v12 =>
  pv (faO 12 v12) fun v13 =>
  stN 2 v13 v8 fun _ =>
  F65_j1 R x3 v9
theorem F65_j15_ok (R : ER) (e : Env) : den Pg R (cd Try.f65 [1,1,0,1,0,1,1,1,1,1,1,1,1,1,1,1,0]) e (inB 0 (setN (kont Pg R Try.f65) (fun e => F65_j1 R (e 3) (e 9)))) = (F65_j15 R (e 0) (e 1) (e 2) (e 3)) := by kernel_rfl
def F65_j18 (R : ER) (x0 x1 x2 x3 : Value) : WP :=
  pv (bin .add x3 (.int .i64 1)) fun v14 =>
  pv (slS 1 x2 (some v14) none) fun v15 =>
  cal Pg R 85 ⟨[x0, v15]⟩ fun v16 =>
  pv (extO 0 v16) fun v17 =>
  pv (extO 1 v16) fun v18 =>
  pv (extO 2 v16) fun v19 =>
  pv (nilO x1) fun v20 =>
  pv (faO 9 v20) fun v21 =>
  stN 3 v21 v17 fun _ =>
  pv (nilO x1) fun v22 =>
  pv (faO 14 v22) fun v23 =>
  stN 2 v23 v18 fun _ =>
  F65_j1 R x3 v19
theorem F65_j18_ok (R : ER) (e : Env) : den Pg R (cd Try.f65 [1,1,0,1,0,1,1,1,1,1,1,1,1,1,1,1,1,1,0]) e (inB 0 (setN (kont Pg R Try.f65) (fun e => F65_j1 R (e 3) (e 9)))) = (F65_j18 R (e 0) (e 1) (e 2) (e 3)) := by kernel_rfl
def F65_j17 (R : ER) (x0 x1 x2 x3 x9 x13 x61 : Value) : WP :=
  cnd x61 (F65_j18 R x0 x1 x2 x3) (pv (binS .eql x13 (.string ⟨⟨[107,101,101,112]⟩⟩)) fun v24 =>
  cnd v24 (
   pv (nilO x1) fun v25 =>
   pv (faO 2 v25) fun v26 =>
   st1 v26 (.bool true) fun _ =>
   F65_j1 R x3 x9) (
   F65_j1 R x3 x9))
theorem F65_j17_ok (R : ER) (e : Env) : den Pg R (cd Try.f65 [1,1,0,1,0,1,1,1,1,1,1,1,1,1,1,1,1,1]) e (inB 0 (setN (kont Pg R Try.f65) (fun e => F65_j1 R (e 3) (e 9)))) = (F65_j17 R (e 0) (e 1) (e 2) (e 3) (e 9) (e 13) (e 61)) := (den_if Pg R (cd Try.f65 [1,1,0,1,0,1,1,1,1,1,1,1,1,1,1,1,1,1]) (cd Try.f65 [1,1,0,1,0,1,1,1,1,1,1,1,1,1,1,1,1,1,0]) (cd Try.f65 [1,1,0,1,0,1,1,1,1,1,1,1,1,1,1,1,1,1,1]) e (inB 0 (setN (kont Pg R Try.f65) (fun e => F65_j1 R (e 3) (e 9)))) (F65_j18 R (e 0) (e 1) (e 2) (e 3)) _ _ (by kernel_rfl) (F65_j18_ok R e) rfl (by kernel_rfl))
def F65_j16 (R : ER) (x0 x1 x2 x3 x9 x13 : Value) : WP :=
  pv (binS .eql x13 (.string ⟨⟨[116,111]⟩⟩)) fun v27 =>
  F65_j17 R x0 x1 x2 x3 x9 x13 v27
theorem F65_j16_ok (R : ER) (e : Env) : den Pg R (cd Try.f65 [1,1,0,1,0,1,1,1,1,1,1,1,1,1,1,1,1]) e (inB 0 (setN (kont Pg R Try.f65) (fun e => F65_j1 R (e 3) (e 9)))) = (F65_j16 R (e 0) (e 1) (e 2) (e 3) (e 9) (e 13)) := (den_join Pg R 0 (cd Try.f65 [1,1,0,1,0,1,1,1,1,1,1,1,1,1,1,1,1]) (cd Try.f65 [1,1,0,1,0,1,1,1,1,1,1,1,1,1,1,1,1,1]) e (inB 0 (setN (kont Pg R Try.f65) (fun e => F65_j1 R (e 3) (e 9)))) (fun e => F65_j17 R (e 0) (e 1) (e 2) (e 3) (e 9) (e 13) (e 61)) _ (by kernel_rfl) (fun e => F65_j17_ok R e) (by kernel_rfl))
def F65_j14 (R : ER) (x0 x1 x2 x3 x9 x13 x43 : Value) : WP :=
  cnd x43 (F65_j15 R x0 x1 x2 x3) (F65_j16 R x0 x1 x2 x3 x9 x13)
theorem F65_j14_ok (R : ER) (e : Env) : den Pg R (cd Try.f65 [1,1,0,1,0,1,1,1,1,1,1,1,1,1,1,1]) e (inB 0 (setN (kont Pg R Try.f65) (fun e => F65_j1 R (e 3) (e 9)))) = (F65_j14 R (e 0) (e 1) (e 2) (e 3) (e 9) (e 13) (e 43)) := (den_if Pg R (cd Try.f65 [1,1,0,1,0,1,1,1,1,1,1,1,1,1,1,1]) (cd Try.f65 [1,1,0,1,0,1,1,1,1,1,1,1,1,1,1,1,0]) (cd Try.f65 [1,1,0,1,0,1,1,1,1,1,1,1,1,1,1,1,1]) e (inB 0 (setN (kont Pg R Try.f65) (fun e => F65_j1 R (e 3) (e 9)))) (F65_j15 R (e 0) (e 1) (e 2) (e 3)) (F65_j16 R (e 0) (e 1) (e 2) (e 3) (e 9) (e 13)) _ (by kernel_rfl) (F65_j15_ok R e) (F65_j16_ok R e) (by kernel_rfl))
def F65_j13 (R : ER) (x0 x1 x2 x3 x9 x13 : Value) : WP :=
  pv (binS .eql x13 (.string ⟨⟨[102,114,111,109]⟩⟩)) fun v28 =>
  F65_j14 R x0 x1 x2 x3 x9 x13 v28
theorem F65_j13_ok (R : ER) (e : Env) : den Pg R (cd Try.f65 [1,1,0,1,0,1,1,1,1,1,1,1,1,1,1]) e (inB 0 (setN (kont Pg R Try.f65) (fun e => F65_j1 R (e 3) (e 9)))) = (F65_j13 R (e 0) (e 1) (e 2) (e 3) (e 9) (e 13)) := (den_join Pg R 0 (cd Try.f65 [1,1,0,1,0,1,1,1,1,1,1,1,1,1,1]) (cd Try.f65 [1,1,0,1,0,1,1,1,1,1,1,1,1,1,1,1]) e (inB 0 (setN (kont Pg R Try.f65) (fun e => F65_j1 R (e 3) (e 9)))) (fun e => F65_j14 R (e 0) (e 1) (e 2) (e 3) (e 9) (e 13) (e 43)) _ (by kernel_rfl) (fun e => F65_j14_ok R e) (by kernel_rfl))
def F65_j12 (R : ER) (x0 x1 x2 x3 x9 x13 x36 : Value) : WP :=
  cnd x36 (cal Pg R 84 ⟨[x0]⟩ fun v29 =>
  pv (nilO x1) fun v30 =>
  pv (faO 5 v30) fun v31 =>
  st1 v31 v29 fun _ =>
  F65_j1 R x3 x9) (F65_j13 R x0 x1 x2 x3 x9 x13)
theorem F65_j12_ok (R : ER) (e : Env) : den Pg R (cd Try.f65 [1,1,0,1,0,1,1,1,1,1,1,1,1,1]) e (inB 0 (setN (kont Pg R Try.f65) (fun e => F65_j1 R (e 3) (e 9)))) = (F65_j12 R (e 0) (e 1) (e 2) (e 3) (e 9) (e 13) (e 36)) := (den_if Pg R (cd Try.f65 [1,1,0,1,0,1,1,1,1,1,1,1,1,1]) (cd Try.f65 [1,1,0,1,0,1,1,1,1,1,1,1,1,1,0]) (cd Try.f65 [1,1,0,1,0,1,1,1,1,1,1,1,1,1,1]) e (inB 0 (setN (kont Pg R Try.f65) (fun e => F65_j1 R (e 3) (e 9)))) _ (F65_j13 R (e 0) (e 1) (e 2) (e 3) (e 9) (e 13)) _ (by kernel_rfl) rfl (F65_j13_ok R e) (by kernel_rfl))
def F65_j11 (R : ER) (x0 x1 x2 x3 x9 x13 : Value) : WP :=
  pv (binS .eql x13 (.string ⟨⟨[112,114,111,116,111]⟩⟩)) fun v32 =>
  F65_j12 R x0 x1 x2 x3 x9 x13 v32
theorem F65_j11_ok (R : ER) (e : Env) : den Pg R (cd Try.f65 [1,1,0,1,0,1,1,1,1,1,1,1,1]) e (inB 0 (setN (kont Pg R Try.f65) (fun e => F65_j1 R (e 3) (e 9)))) = (F65_j11 R (e 0) (e 1) (e 2) (e 3) (e 9) (e 13)) := (den_join Pg R 0 (cd Try.f65 [1,1,0,1,0,1,1,1,1,1,1,1,1]) (cd Try.f65 [1,1,0,1,0,1,1,1,1,1,1,1,1,1]) e (inB 0 (setN (kont Pg R Try.f65) (fun e => F65_j1 R (e 3) (e 9)))) (fun e => F65_j12 R (e 0) (e 1) (e 2) (e 3) (e 9) (e 13) (e 36)) _ (by kernel_rfl) (fun e => F65_j12_ok R e) (by kernel_rfl))
def F65_j10 (R : ER) (x0 x1 x2 x3 x9 x13 x29 : Value) : WP :=
  cnd x29 (cal Pg R 84 ⟨[x0]⟩ fun v33 =>
  pv (nilO x1) fun v34 =>
  pv (faO 4 v34) fun v35 =>
  st1 v35 v33 fun _ =>
  F65_j1 R x3 x9) (F65_j11 R x0 x1 x2 x3 x9 x13)
theorem F65_j10_ok (R : ER) (e : Env) : den Pg R (cd Try.f65 [1,1,0,1,0,1,1,1,1,1,1,1]) e (inB 0 (setN (kont Pg R Try.f65) (fun e => F65_j1 R (e 3) (e 9)))) = (F65_j10 R (e 0) (e 1) (e 2) (e 3) (e 9) (e 13) (e 29)) := (den_if Pg R (cd Try.f65 [1,1,0,1,0,1,1,1,1,1,1,1]) (cd Try.f65 [1,1,0,1,0,1,1,1,1,1,1,1,0]) (cd Try.f65 [1,1,0,1,0,1,1,1,1,1,1,1,1]) e (inB 0 (setN (kont Pg R Try.f65) (fun e => F65_j1 R (e 3) (e 9)))) _ (F65_j11 R (e 0) (e 1) (e 2) (e 3) (e 9) (e 13)) _ (by kernel_rfl) rfl (F65_j11_ok R e) (by kernel_rfl))
def F65_j9 (R : ER) (x0 x1 x2 x3 x9 x13 : Value) : WP :=
  pv (binS .eql x13 (.string ⟨⟨[111,110]⟩⟩)) fun v36 =>
  F65_j10 R x0 x1 x2 x3 x9 x13 v36
theorem F65_j9_ok (R : ER) (e : Env) : den Pg R (cd Try.f65 [1,1,0,1,0,1,1,1,1,1,1]) e (inB 0 (setN (kont Pg R Try.f65) (fun e => F65_j1 R (e 3) (e 9)))) = (F65_j9 R (e 0) (e 1) (e 2) (e 3) (e 9) (e 13)) := (den_join Pg R 0 (cd Try.f65 [1,1,0,1,0,1,1,1,1,1,1]) (cd Try.f65 [1,1,0,1,0,1,1,1,1,1,1,1]) e (inB 0 (setN (kont Pg R Try.f65) (fun e => F65_j1 R (e 3) (e 9)))) (fun e => F65_j10 R (e 0) (e 1) (e 2) (e 3) (e 9) (e 13) (e 29)) _ (by kernel_rfl) (fun e => F65_j10_ok R e) (by kernel_rfl))
def F65_j8 (R : ER) (x0 x1 x2 x3 x9 x13 x24 : Value) : WP :=
  cnd x24 (pv (nilO x1) fun v37 =>
  pv (faO 3 v37) fun v38 =>
  st1 v38 (.int .i64 2) fun _ =>
  F65_j1 R x3 x9) (F65_j9 R x0 x1 x2 x3 x9 x13)
theorem F65_j8_ok (R : ER) (e : Env) : den Pg R (cd Try.f65 [1,1,0,1,0,1,1,1,1,1]) e (inB 0 (setN (kont Pg R Try.f65) (fun e => F65_j1 R (e 3) (e 9)))) = (F65_j8 R (e 0) (e 1) (e 2) (e 3) (e 9) (e 13) (e 24)) := (den_if Pg R (cd Try.f65 [1,1,0,1,0,1,1,1,1,1]) (cd Try.f65 [1,1,0,1,0,1,1,1,1,1,0]) (cd Try.f65 [1,1,0,1,0,1,1,1,1,1,1]) e (inB 0 (setN (kont Pg R Try.f65) (fun e => F65_j1 R (e 3) (e 9)))) _ (F65_j9 R (e 0) (e 1) (e 2) (e 3) (e 9) (e 13)) _ (by kernel_rfl) rfl (F65_j9_ok R e) (by kernel_rfl))
def F65_j7 (R : ER) (x0 x1 x2 x3 x9 x13 : Value) : WP :=
  pv (binS .eql x13 (.string ⟨⟨[111,117,116]⟩⟩)) fun v39 =>
  F65_j8 R x0 x1 x2 x3 x9 x13 v39
theorem F65_j7_ok (R : ER) (e : Env) : den Pg R (cd Try.f65 [1,1,0,1,0,1,1,1,1]) e (inB 0 (setN (kont Pg R Try.f65) (fun e => F65_j1 R (e 3) (e 9)))) = (F65_j7 R (e 0) (e 1) (e 2) (e 3) (e 9) (e 13)) := (den_join Pg R 0 (cd Try.f65 [1,1,0,1,0,1,1,1,1]) (cd Try.f65 [1,1,0,1,0,1,1,1,1,1]) e (inB 0 (setN (kont Pg R Try.f65) (fun e => F65_j1 R (e 3) (e 9)))) (fun e => F65_j8 R (e 0) (e 1) (e 2) (e 3) (e 9) (e 13) (e 24)) _ (by kernel_rfl) (fun e => F65_j8_ok R e) (by kernel_rfl))
def F65_j6 (R : ER) (x0 x1 x2 x3 x9 x13 x19 : Value) : WP :=
  cnd x19 (pv (nilO x1) fun v40 =>
  pv (faO 3 v40) fun v41 =>
  st1 v41 (.int .i64 1) fun _ =>
  F65_j1 R x3 x9) (F65_j7 R x0 x1 x2 x3 x9 x13)
theorem F65_j6_ok (R : ER) (e : Env) : den Pg R (cd Try.f65 [1,1,0,1,0,1,1,1]) e (inB 0 (setN (kont Pg R Try.f65) (fun e => F65_j1 R (e 3) (e 9)))) = (F65_j6 R (e 0) (e 1) (e 2) (e 3) (e 9) (e 13) (e 19)) := (den_if Pg R (cd Try.f65 [1,1,0,1,0,1,1,1]) (cd Try.f65 [1,1,0,1,0,1,1,1,0]) (cd Try.f65 [1,1,0,1,0,1,1,1,1]) e (inB 0 (setN (kont Pg R Try.f65) (fun e => F65_j1 R (e 3) (e 9)))) _ (F65_j7 R (e 0) (e 1) (e 2) (e 3) (e 9) (e 13)) _ (by kernel_rfl) rfl (F65_j7_ok R e) (by kernel_rfl))
def F65_j5 (R : ER) (x0 x1 x2 x3 x9 x13 : Value) : WP :=
  pv (binS .eql x13 (.string ⟨⟨[105,110]⟩⟩)) fun v42 =>
  F65_j6 R x0 x1 x2 x3 x9 x13 v42
theorem F65_j5_ok (R : ER) (e : Env) : den Pg R (cd Try.f65 [1,1,0,1,0,1,1]) e (inB 0 (setN (kont Pg R Try.f65) (fun e => F65_j1 R (e 3) (e 9)))) = (F65_j5 R (e 0) (e 1) (e 2) (e 3) (e 9) (e 13)) := (den_join Pg R 0 (cd Try.f65 [1,1,0,1,0,1,1]) (cd Try.f65 [1,1,0,1,0,1,1,1]) e (inB 0 (setN (kont Pg R Try.f65) (fun e => F65_j1 R (e 3) (e 9)))) (fun e => F65_j6 R (e 0) (e 1) (e 2) (e 3) (e 9) (e 13) (e 19)) _ (by kernel_rfl) (fun e => F65_j6_ok R e) (by kernel_rfl))
def F65_j4 (R : ER) (x0 x1 x2 x3 x9 x13 x14 : Value) : WP :=
  cnd x14 (pv (nilO x1) fun v43 =>
  pv (faO 1 v43) fun v44 =>
  st1 v44 (.bool true) fun _ =>
  F65_j1 R x3 x9) (F65_j5 R x0 x1 x2 x3 x9 x13)
theorem F65_j4_ok (R : ER) (e : Env) : den Pg R (cd Try.f65 [1,1,0,1,0,1]) e (inB 0 (setN (kont Pg R Try.f65) (fun e => F65_j1 R (e 3) (e 9)))) = (F65_j4 R (e 0) (e 1) (e 2) (e 3) (e 9) (e 13) (e 14)) := (den_if Pg R (cd Try.f65 [1,1,0,1,0,1]) (cd Try.f65 [1,1,0,1,0,1,0]) (cd Try.f65 [1,1,0,1,0,1,1]) e (inB 0 (setN (kont Pg R Try.f65) (fun e => F65_j1 R (e 3) (e 9)))) _ (F65_j5 R (e 0) (e 1) (e 2) (e 3) (e 9) (e 13)) _ (by kernel_rfl) rfl (F65_j5_ok R e) (by kernel_rfl))
def F65_j3 (R : ER) (x0 x1 x2 x3 x9 x13 : Value) : WP :=
  pv (binS .eql x13 (.string ⟨⟨[113,117,105,99,107]⟩⟩)) fun v45 =>
  F65_j4 R x0 x1 x2 x3 x9 x13 v45
theorem F65_j3_ok (R : ER) (e : Env) : den Pg R (cd Try.f65 [1,1,0,1]) e (setN (kont Pg R Try.f65) (fun e => F65_j1 R (e 3) (e 9))) = (F65_j3 R (e 0) (e 1) (e 2) (e 3) (e 9) (e 13)) := (den_block Pg R (cd Try.f65 [1,1,0,1]) 0 (cd Try.f65 [1,1,0,1,0]) e (setN (kont Pg R Try.f65) (fun e => F65_j1 R (e 3) (e 9))) _ (by kernel_rfl) (den_join Pg R 0 (cd Try.f65 [1,1,0,1,0]) (cd Try.f65 [1,1,0,1,0,1]) e (inB 0 (setN (kont Pg R Try.f65) (fun e => F65_j1 R (e 3) (e 9)))) (fun e => F65_j4 R (e 0) (e 1) (e 2) (e 3) (e 9) (e 13) (e 14)) _ (by kernel_rfl) (fun e => F65_j4_ok R e) (by kernel_rfl)))
def F65_j2 (R : ER) (x0 x1 x2 x3 x9 : Value) : WP :=
  pv (ixS 1 x2 x3) fun v46 =>
  ld1 v46 fun v47 =>
  F65_j3 R x0 x1 x2 x3 x9 v47
theorem F65_j2_ok (R : ER) (e : Env) : den Pg R (cd Try.f65 [1,1,0]) e (setN (kont Pg R Try.f65) (fun e => F65_j1 R (e 3) (e 9))) = (F65_j2 R (e 0) (e 1) (e 2) (e 3) (e 9)) := (den_join Pg R 0 (cd Try.f65 [1,1,0]) (cd Try.f65 [1,1,0,1]) e (setN (kont Pg R Try.f65) (fun e => F65_j1 R (e 3) (e 9))) (fun e => F65_j3 R (e 0) (e 1) (e 2) (e 3) (e 9) (e 13)) _ (by kernel_rfl) (fun e => F65_j3_ok R e) (by kernel_rfl))
def F65 (R : ER) (x0 x1 x2 x3 : Value) : WP :=
  F65_j2 R x0 x1 x2 x3 (.int .i64 (-1))
theorem F65_den (R : ER) (x0 x1 x2 x3 : Value) : den Pg R (cd Try.f65 []) (argsEnv [x0, x1, x2, x3]) (kont Pg R Try.f65) = F65 R x0 x1 x2 x3 :=
  have h : ∀ e, den Pg R (cd Try.f65 []) e (kont Pg R Try.f65) = F65 R (e 0) (e 1) (e 2) (e 3) := fun e => (den_join Pg R 2 (cd Try.f65 []) (cd Try.f65 [1,1,1]) e (kont Pg R Try.f65) (fun e => F65_j1 R (e 3) (e 9)) _ (by kernel_rfl) (fun e => F65_j1_ok R e) (den_join Pg R 1 (pre 2 (cd Try.f65 [])) (cd Try.f65 [1,1,0]) e (setN (kont Pg R Try.f65) (fun e => F65_j1 R (e 3) (e 9))) (fun e => F65_j2 R (e 0) (e 1) (e 2) (e 3) (e 9)) _ (by kernel_rfl) (fun e => F65_j2_ok R e) (by kernel_rfl)))
  h _
theorem F65_calls {R : ER} {x0 x1 x2 x3 : Value} {w : World} (h : F65 R x0 x1 x2 x3 w) : Calls Pg 65 ⟨[x0, x1, x2, x3]⟩ w R :=
  calls_of_den Try.func65 (by kernel_rfl) (by kernel_rfl) (F65_den R x0 x1 x2 x3) h
/-! ### 66: filter_parser_stop -/
def F66 (R : ER) (x0 x1 : Value) : WP :=
  pv (bldO [.int .i64 0, .int .i64 0] [(1,1, (.int .i64 36))]) fun v1 =>
  valV Pg R (Instr.panic (.iface 32 v1)) fun _ =>
  R (.returned (.tuple ⟨[]⟩))
theorem F66_den (R : ER) (x0 x1 : Value) : den Pg R (cd Try.f66 []) (argsEnv [x0, x1]) (kont Pg R Try.f66) = F66 R x0 x1 :=
  have h : ∀ e, den Pg R (cd Try.f66 []) e (kont Pg R Try.f66) = F66 R (e 0) (e 1) := fun e => by kernel_rfl
  h _
theorem F66_calls {R : ER} {x0 x1 : Value} {w : World} (h : F66 R x0 x1 w) : Calls Pg 66 ⟨[x0, x1]⟩ w R :=
  calls_of_den Try.func66 (by kernel_rfl) (by kernel_rfl) (F66_den R x0 x1) h
/-! ### 67: orpimentref39_digits -/
def F67 (R : ER) (x0 : Value) : WP :=
  pv (bin .lss x0 (.int .i64 10)) fun v1 =>
  cnd v1 (
   pv (cvI .u8 x0) fun v2 =>
   pv (bin .add (.int .u8 48) v2) fun v3 =>
   valV Pg R (Instr.buildSlice 161 1 ⟨[(0, v3)]⟩) fun v4 =>
   valV Pg R (convert 161 9 v4) fun v5 =>
   R (.returned v5)) (
   pv (bin .quo x0 (.int .i64 10)) fun v6 =>
  cal Pg R 67 ⟨[v6]⟩ fun v7 =>
  pv (bin .rem x0 (.int .i64 10)) fun v8 =>
  cal Pg R 67 ⟨[v8]⟩ fun v9 =>
  pv (binS .add v7 v9) fun v10 =>
  R (.returned v10))
theorem F67_den (R : ER) (x0 : Value) : den Pg R (cd Try.f67 []) (argsEnv [x0]) (kont Pg R Try.f67) = F67 R x0 :=
  have h : ∀ e, den Pg R (cd Try.f67 []) e (kont Pg R Try.f67) = F67 R (e 0) := fun e => (by kernel_rfl)
  h _
theorem F67_calls {R : ER} {x0 : Value} {w : World} (h : F67 R x0 w) : Calls Pg 67 ⟨[x0]⟩ w R :=
  calls_of_den Try.func67 (by kernel_rfl) (by kernel_rfl) (F67_den R x0) h
/-! ### 68: orpimentref39_side -/
def F68_j3 (R : ER) (x9 : Value) : WP :=
  R (.returned x9)
theorem F68_j3_ok (R : ER) (e : Env) : den Pg R (cd Try.f68 [1,1,1,1,1,1,1]) e (kont Pg R Try.f68) = (F68_j3 R (e 9)) := by kernel_rfl
def F68_j4 (R : ER) (x5 x8 x9 : Value) : WP :=
  pv (unO .not x8) fun v1 =>
  cnd v1 (
   drewV (
   pv (binS .add x9 (.string ⟨⟨[32,112,111,114,116,32]⟩⟩)) fun v2 =>
   pv (faO 0 x5) fun v3 =>
   ld1 v3 fun v4 =>
   mem fun w6 => cal Pg noR 67 ⟨[v4]⟩ fun v5 =>
   pv (binS .add v2 v5) fun v7 =>
   pv (binS .add v7 (.string ⟨⟨[58]⟩⟩)) fun v8 =>
   pv (faO 1 x5) fun v9 =>
   ld1S [w6] v9 fun v10 =>
   mem fun w12 => cal Pg noR 67 ⟨[v10]⟩ fun v11 =>
   pv (binS .add v8 v11) fun v13 =>
   F68_j3 R v13)) (
   F68_j3 R x9)
theorem F68_j4_ok (R : ER) (e : Env) : den Pg R (cd Try.f68 [1,1,1,1,1,1,0]) e (setN (kont Pg R Try.f68) (fun e => F68_j3 R (e 9))) = (F68_j4 R (e 5) (e 8) (e 9)) := (by kernel_rfl)
def F68_j2 (R : ER) (x5 x8 x9 : Value) : WP :=
  F68_j4 R x5 x8 x9
theorem F68_j2_ok (R : ER) (e : Env) : den Pg R (cd Try.f68 [1,1,1,1,1,1]) e (kont Pg R Try.f68) = (F68_j2 R (e 5) (e 8) (e 9)) := (den_join Pg R 0 (cd Try.f68 [1,1,1,1,1,1]) (cd Try.f68 [1,1,1,1,1,1,1]) e (kont Pg R Try.f68) (fun e => F68_j3 R (e 9)) _ (by kernel_rfl) (fun e => F68_j3_ok R e) (den_conv Pg R (pre 0 (cd Try.f68 [1,1,1,1,1,1])) (cd Try.f68 [1,1,1,1,1,1,0]) e (setN (kont Pg R Try.f68) (fun e => F68_j3 R (e 9))) _ (by kernel_rfl) (F68_j4_ok R e)))
def F68_j9 (R : ER) (x4 x5 x8 x9 : Value) : WP :=
  pv (binS .add x9 (.string ⟨⟨[47]⟩⟩)) fun v14 =>
  pv (faO 1 x4) fun v15 =>
  ld1 v15 fun v16 =>
  cal Pg R 67 ⟨[v16]⟩ fun v17 =>
  pv (binS .add v14 v17) fun v18 =>
  F68_j2 R x5 x8 v18
theorem F68_j9_ok (R : ER) (e : Env) : den Pg R (cd Try.f68 [1,1,1,1,1,0,1,0,1,1,1]) e (setN (kont Pg R Try.f68) (fun e => F68_j2 R (e 5) (e 8) (e 9))) = (F68_j9 R (e 4) (e 5) (e 8) (e 9)) := by kernel_rfl
def F68_j13 (R : ER) (k1 : V5) (x4 x5 x8 x9 x10 : Value) : WP :=
  pv (bin .sub x10 (.int .i64 1)) fun v19 =>
  k1 x4 x5 x8 x9 v19
theorem F68_j13_ok (R : ER) (k1 : V5) (e : Env) : den Pg R (cd Try.f68 [1,1,1,1,1,0,1,0,1,1,0,1,0,0,1,1]) e (setN (inB 0 (setN (setN (kont Pg R Try.f68) (fun e => F68_j2 R (e 5) (e 8) (e 9))) (fun e => F68_j9 R (e 4) (e 5) (e 8) (e 9)))) (fun e => k1 (e 4) (e 5) (e 8) (e 9) (e 10))) = (F68_j13 R k1 (e 4) (e 5) (e 8) (e 9) (e 10)) := by kernel_rfl
def F68_j14 (R : ER) (k1 : V5) (x4 x5 x8 x9 x10 : Value) : WP :=
  pv (faO 0 x4) fun v20 =>
  ld1 v20 fun v21 =>
  pv (bin .mul (.int .i64 8) x10) fun v22 =>
  pv (cvI .u64 v22) fun v23 =>
  pv (bin .shr v21 v23) fun v24 =>
  pv (bin .rem v24 (.int .u32 256)) fun v25 =>
  pv (cvI .i64 v25) fun v26 =>
  cal Pg R 67 ⟨[v26]⟩ fun v27 =>
  pv (binS .add x9 v27) fun v28 =>
  pv (bin .gtr x10 (.int .i64 0)) fun v29 =>
  cnd v29 (
   pv (binS .add v28 (.string ⟨⟨[46]⟩⟩)) fun v30 =>
   F68_j13 R k1 x4 x5 x8 v30 x10) (
   F68_j13 R k1 x4 x5 x8 v28 x10)
theorem F68_j14_ok (R : ER) (k1 : V5) (e : Env) : den Pg R (cd Try.f68 [1,1,1,1,1,0,1,0,1,1,0,1,0,0,1,0]) e (setN (setN (inB 0 (setN (setN (kont Pg R Try.f68) (fun e => F68_j2 R (e 5) (e 8) (e 9))) (fun e => F68_j9 R (e 4) (e 5) (e 8) (e 9)))) (fun e => k1 (e 4) (e 5) (e 8) (e 9) (e 10))) (fun e => F68_j13 R k1 (e 4) (e 5) (e 8) (e 9) (e 10))) = (F68_j14 R k1 (e 4) (e 5) (e 8) (e 9) (e 10)) := (den_block Pg R (cd Try.f68 [1,1,1,1,1,0,1,0,1,1,0,1,0,0,1,0]) 1 (cd Try.f68 [1,1,1,1,1,0,1,0,1,1,0,1,0,0,1,0,0]) e (setN (setN (inB 0 (setN (setN (kont Pg R Try.f68) (fun e => F68_j2 R (e 5) (e 8) (e 9))) (fun e => F68_j9 R (e 4) (e 5) (e 8) (e 9)))) (fun e => k1 (e 4) (e 5) (e 8) (e 9) (e 10))) (fun e => F68_j13 R k1 (e 4) (e 5) (e 8) (e 9) (e 10))) _ (by kernel_rfl) (by kernel_rfl))
def F68_j12 (R : ER) (k1 : V5) (x4 x5 x8 x9 x10 : Value) : WP :=
  F68_j14 R k1 x4 x5 x8 x9 x10
theorem F68_j12_ok (R : ER) (k1 : V5) (e : Env) : den Pg R (cd Try.f68 [1,1,1,1,1,0,1,0,1,1,0,1,0,0,1]) e (setN (inB 0 (setN (setN (kont Pg R Try.f68) (fun e => F68_j2 R (e 5) (e 8) (e 9))) (fun e => F68_j9 R (e 4) (e 5) (e 8) (e 9)))) (fun e => k1 (e 4) (e 5) (e 8) (e 9) (e 10))) = (F68_j12 R k1 (e 4) (e 5) (e 8) (e 9) (e 10)) := (den_join Pg R 0 (cd Try.f68 [1,1,1,1,1,0,1,0,1,1,0,1,0,0,1]) (cd Try.f68 [1,1,1,1,1,0,1,0,1,1,0,1,0,0,1,1]) e (setN (inB 0 (setN (setN (kont Pg R Try.f68) (fun e => F68_j2 R (e 5) (e 8) (e 9))) (fun e => F68_j9 R (e 4) (e 5) (e 8) (e 9)))) (fun e => k1 (e 4) (e 5) (e 8) (e 9) (e 10))) (fun e => F68_j13 R k1 (e 4) (e 5) (e 8) (e 9) (e 10)) _ (by kernel_rfl) (fun e => F68_j13_ok R k1 e) (den_conv Pg R (pre 0 (cd Try.f68 [1,1,1,1,1,0,1,0,1,1,0,1,0,0,1])) (cd Try.f68 [1,1,1,1,1,0,1,0,1,1,0,1,0,0,1,0]) e (setN (setN (inB 0 (setN (setN (kont Pg R Try.f68) (fun e => F68_j2 R (e 5) (e 8) (e 9))) (fun e => F68_j9 R (e 4) (e 5) (e 8) (e 9)))) (fun e => k1 (e 4) (e 5) (e 8) (e 9) (e 10))) (fun e => F68_j13 R k1 (e 4) (e 5) (e 8) (e 9) (e 10))) _ (by kernel_rfl) (F68_j14_ok R k1 e)))
def F68_b1 (R : ER) (k1 : V5) (x4 x5 x8 x9 x10 : Value) : WP :=
  pv (bin .geq x10 (.int .i64 0)) fun v31 =>
  cnd v31 (
   F68_j12 R k1 x4 x5 x8 x9 x10) (
   F68_j9 R x4 x5 x8 x9)
theorem F68_b1_ok (R : ER) (k1 : V5) (e : Env) : den Pg R (cd Try.f68 [1,1,1,1,1,0,1,0,1,1,0,1,0,0]) e (setN (inB 0 (setN (setN (kont Pg R Try.f68) (fun e => F68_j2 R (e 5) (e 8) (e 9))) (fun e => F68_j9 R (e 4) (e 5) (e 8) (e 9)))) (fun e => k1 (e 4) (e 5) (e 8) (e 9) (e 10))) = (F68_b1 R k1 (e 4) (e 5) (e 8) (e 9) (e 10)) := (den_join Pg R 0 (cd Try.f68 [1,1,1,1,1,0,1,0,1,1,0,1,0,0]) (cd Try.f68 [1,1,1,1,1,0,1,0,1,1,0,1,0,0,1]) e (setN (inB 0 (setN (setN (kont Pg R Try.f68) (fun e => F68_j2 R (e 5) (e 8) (e 9))) (fun e => F68_j9 R (e 4) (e 5) (e 8) (e 9)))) (fun e => k1 (e 4) (e 5) (e 8) (e 9) (e 10))) (fun e => F68_j12 R k1 (e 4) (e 5) (e 8) (e 9) (e 10)) _ (by kernel_rfl) (fun e => F68_j12_ok R k1 e) (by kernel_rfl))
noncomputable def F68_l1 (R : ER) (n : Nat) : V5 := Nat.rec (motive := fun _ => V5) (fun _ _ _ _ _ => fun _ => False) (fun _ ih => fun x4 x5 x8 x9 x10 => F68_b1 R ih x4 x5 x8 x9 x10) n
theorem F68_l1_succ (R : ER) (n : Nat) (x4 x5 x8 x9 x10 : Value) : F68_l1 R (n + 1) x4 x5 x8 x9 x10 = F68_b1 R (F68_l1 R n) x4 x5 x8 x9 x10 := rfl
theorem F68_l1_ok (R : ER) : ∀ (n : Nat) (e : Env), iterL (den Pg R (cd Try.f68 [1,1,1,1,1,0,1,0,1,1,0,1,0,0])) n e (inB 0 (setN (setN (kont Pg R Try.f68) (fun e => F68_j2 R (e 5) (e 8) (e 9))) (fun e => F68_j9 R (e 4) (e 5) (e 8) (e 9)))) = F68_l1 R n (e 4) (e 5) (e 8) (e 9) (e 10) :=
  iterL_join (den Pg R (cd Try.f68 [1,1,1,1,1,0,1,0,1,1,0,1,0,0])) (inB 0 (setN (setN (kont Pg R Try.f68) (fun e => F68_j2 R (e 5) (e 8) (e 9))) (fun e => F68_j9 R (e 4) (e 5) (e 8) (e 9)))) (fun n e => F68_l1 R n (e 4) (e 5) (e 8) (e 9) (e 10)) (fun _ => rfl) (fun n e => (F68_b1_ok R (F68_l1 R n) e).trans (F68_l1_succ R n (e 4) (e 5) (e 8) (e 9) (e 10)).symm)
def F68_j11 (R : ER) (x4 x5 x8 x9 x10 : Value) : WP :=
  exN fun n => F68_l1 R n x4 x5 x8 x9 x10
theorem F68_j11_ok (R : ER) (e : Env) : den Pg R (cd Try.f68 [1,1,1,1,1,0,1,0,1,1,0,1]) e (setN (setN (kont Pg R Try.f68) (fun e => F68_j2 R (e 5) (e 8) (e 9))) (fun e => F68_j9 R (e 4) (e 5) (e 8) (e 9))) = (F68_j11 R (e 4) (e 5) (e 8) (e 9) (e 10)) := (den_block Pg R (cd Try.f68 [1,1,1,1,1,0,1,0,1,1,0,1]) 0 (cd Try.f68 [1,1,1,1,1,0,1,0,1,1,0,1,0]) e (setN (setN (kont Pg R Try.f68) (fun e => F68_j2 R (e 5) (e 8) (e 9))) (fun e => F68_j9 R (e 4) (e 5) (e 8) (e 9))) _ (by kernel_rfl) (den_loop Pg R (cd Try.f68 [1,1,1,1,1,0,1,0,1,1,0,1,0]) (cd Try.f68 [1,1,1,1,1,0,1,0,1,1,0,1,0,0]) e (inB 0 (setN (setN (kont Pg R Try.f68) (fun e => F68_j2 R (e 5) (e 8) (e 9))) (fun e => F68_j9 R (e 4) (e 5) (e 8) (e 9)))) (fun n e => F68_l1 R n (e 4) (e 5) (e 8) (e 9) (e 10)) _ (by kernel_rfl) (F68_l1_ok R) (by kernel_rfl)))
def F68_j10 (R : ER) (x4 x5 x8 x9 : Value) : WP :=
  F68_j11 R x4 x5 x8 x9 (.int .i64 3)
theorem F68_j10_ok (R : ER) (e : Env) : den Pg R (cd Try.f68 [1,1,1,1,1,0,1,0,1,1,0]) e (setN (setN (kont Pg R Try.f68) (fun e => F68_j2 R (e 5) (e 8) (e 9))) (fun e => F68_j9 R (e 4) (e 5) (e 8) (e 9))) = (F68_j10 R (e 4) (e 5) (e 8) (e 9)) := (den_join Pg R 0 (cd Try.f68 [1,1,1,1,1,0,1,0,1,1,0]) (cd Try.f68 [1,1,1,1,1,0,1,0,1,1,0,1]) e (setN (setN (kont Pg R Try.f68) (fun e => F68_j2 R (e 5) (e 8) (e 9))) (fun e => F68_j9 R (e 4) (e 5) (e 8) (e 9))) (fun e => F68_j11 R (e 4) (e 5) (e 8) (e 9) (e 10)) _ (by kernel_rfl) (fun e => F68_j11_ok R e) (by kernel_rfl))
def F68_j8 (R : ER) (x4 x5 x8 x9 : Value) : WP :=
  F68_j10 R x4 x5 x8 x9
theorem F68_j8_ok (R : ER) (e : Env) : den Pg R (cd Try.f68 [1,1,1,1,1,0,1,0,1,1]) e (setN (kont Pg R Try.f68) (fun e => F68_j2 R (e 5) (e 8) (e 9))) = (F68_j8 R (e 4) (e 5) (e 8) (e 9)) := (den_join Pg R 0 (cd Try.f68 [1,1,1,1,1,0,1,0,1,1]) (cd Try.f68 [1,1,1,1,1,0,1,0,1,1,1]) e (setN (kont Pg R Try.f68) (fun e => F68_j2 R (e 5) (e 8) (e 9))) (fun e => F68_j9 R (e 4) (e 5) (e 8) (e 9)) _ (by kernel_rfl) (fun e => F68_j9_ok R e) (den_conv Pg R (pre 0 (cd Try.f68 [1,1,1,1,1,0,1,0,1,1])) (cd Try.f68 [1,1,1,1,1,0,1,0,1,1,0]) e (setN (setN (kont Pg R Try.f68) (fun e => F68_j2 R (e 5) (e 8) (e 9))) (fun e => F68_j9 R (e 4) (e 5) (e 8) (e 9))) _ (by kernel_rfl) (F68_j10_ok R e)))
def F68_j7 (R : ER) (x4 x5 x8 x9 : Value) : WP :=
  pv (binS .add x9 (.string ⟨⟨[32]⟩⟩)) fun v32 =>
  pv (faO 2 x4) fun v33 =>
  ld1 v33 fun v34 =>
  cnd v34 (
   pv (binS .add v32 (.string ⟨⟨[33]⟩⟩)) fun v35 =>
   F68_j8 R x4 x5 x8 v35) (
   F68_j8 R x4 x5 x8 v32)
theorem F68_j7_ok (R : ER) (e : Env) : den Pg R (cd Try.f68 [1,1,1,1,1,0,1,0]) e (setN (kont Pg R Try.f68) (fun e => F68_j2 R (e 5) (e 8) (e 9))) = (F68_j7 R (e 4) (e 5) (e 8) (e 9)) := (den_join Pg R 1 (cd Try.f68 [1,1,1,1,1,0,1,0]) (cd Try.f68 [1,1,1,1,1,0,1,0,1,1]) e (setN (kont Pg R Try.f68) (fun e => F68_j2 R (e 5) (e 8) (e 9))) (fun e => F68_j8 R (e 4) (e 5) (e 8) (e 9)) _ (by kernel_rfl) (fun e => F68_j8_ok R e) (by kernel_rfl))
def F68_j6 (R : ER) (x4 x5 x8 x9 x29 : Value) : WP :=
  cnd x29 (F68_j7 R x4 x5 x8 x9) (F68_j2 R x5 x8 x9)
theorem F68_j6_ok (R : ER) (e : Env) : den Pg R (cd Try.f68 [1,1,1,1,1,0,1]) e (setN (kont Pg R Try.f68) (fun e => F68_j2 R (e 5) (e 8) (e 9))) = (F68_j6 R (e 4) (e 5) (e 8) (e 9) (e 29)) := (den_if Pg R (cd Try.f68 [1,1,1,1,1,0,1]) (cd Try.f68 [1,1,1,1,1,0,1,0]) (cd Try.f68 [1,1,1,1,1,0,1,1]) e (setN (kont Pg R Try.f68) (fun e => F68_j2 R (e 5) (e 8) (e 9))) (F68_j7 R (e 4) (e 5) (e 8) (e 9)) _ _ (by kernel_rfl) (F68_j7_ok R e) rfl (by kernel_rfl))
def F68_j5 (R : ER) (x4 x5 x7 x8 x9 : Value) : WP :=
  pv (unO .not x7) fun v36 =>
  F68_j6 R x4 x5 x8 x9 v36
theorem F68_j5_ok (R : ER) (e : Env) : den Pg R (cd Try.f68 [1,1,1,1,1,0]) e (setN (kont Pg R Try.f68) (fun e => F68_j2 R (e 5) (e 8) (e 9))) = (F68_j5 R (e 4) (e 5) (e 7) (e 8) (e 9)) := (den_join Pg R 0 (cd Try.f68 [1,1,1,1,1,0]) (cd Try.f68 [1,1,1,1,1,0,1]) e (setN (kont Pg R Try.f68) (fun e => F68_j2 R (e 5) (e 8) (e 9))) (fun e => F68_j6 R (e 4) (e 5) (e 8) (e 9) (e 29)) _ (by kernel_rfl) (fun e => F68_j6_ok R e) (by kernel_rfl))
def F68_j1 (R : ER) (x0 x4 x5 x7 x8 : Value) : WP :=
  pv (binS .add (.string ⟨⟨[32]⟩⟩) x0) fun v37 =>
  F68_j5 R x4 x5 x7 x8 v37
theorem F68_j1_ok (R : ER) (e : Env) : den Pg R (cd Try.f68 [1,1,1,1]) e (kont Pg R Try.f68) = (F68_j1 R (e 0) (e 4) (e 5) (e 7) (e 8)) := (den_join Pg R 1 (cd Try.f68 [1,1,1,1]) (cd Try.f68 [1,1,1,1,1,1]) e (kont Pg R Try.f68) (fun e => F68_j2 R (e 5) (e 8) (e 9)) _ (by kernel_rfl) (fun e => F68_j2_ok R e) (den_join Pg R 0 (pre 1 (cd Try.f68 [1,1,1,1])) (cd Try.f68 [1,1,1,1,1,0]) e (setN (kont Pg R Try.f68) (fun e => F68_j2 R (e 5) (e 8) (e 9))) (fun e => F68_j5 R (e 4) (e 5) (e 7) (e 8) (e 9)) _ (by kernel_rfl) (fun e => F68_j5_ok R e) (by kernel_rfl)))
def F68 (R : ER) (x0 x1 x2 : Value) : WP :=
  bx 35 x1 fun v38 =>
  bx 36 x2 fun v39 =>
  pv (faO 1 v38) fun v40 =>
  ld1 v40 fun v41 =>
  pv (bin .eql v41 (.int .i64 0)) fun v42 =>
  gd v42 true (pv (faO 2 v38)) fun v43 =>
  gd v42 true (ld1 v43) fun v44 =>
  gd v42 true (pv (unO .not v44)) fun v45 =>
  pv (pickO v42 v45 (.bool false)) fun v46 =>
  ldN 2 v39 fun v47 =>
  pv (bldO [.int .i64 0, .int .i64 0] [(0,1, (.int .i64 0)), (1,1, (.int .i64 65535))]) fun v48 =>
  pv (eqAgg [0,0] v47 v48) fun v49 =>
  gd v46 true (pv (some v49)) fun v50 =>
  pv (pickO v46 v50 (.bool false)) fun v51 =>
  cnd v51 (
   R (.returned (.string ⟨⟨[]⟩⟩))) (
   F68_j1 R x0 v38 v39 v46 v49)
theorem F68_den (R : ER) (x0 x1 x2 : Value) : den Pg R (cd Try.f68 []) (argsEnv [x0, x1, x2]) (kont Pg R Try.f68) = F68 R x0 x1 x2 :=
  have h : ∀ e, den Pg R (cd Try.f68 []) e (kont Pg R Try.f68) = F68 R (e 0) (e 1) (e 2) := fun e => (den_join Pg R 3 (cd Try.f68 []) (cd Try.f68 [1,1,1,1]) e (kont Pg R Try.f68) (fun e => F68_j1 R (e 0) (e 4) (e 5) (e 7) (e 8)) _ (by kernel_rfl) (fun e => F68_j1_ok R e) (by kernel_rfl))
  h _
theorem F68_calls {R : ER} {x0 x1 x2 : Value} {w : World} (h : F68 R x0 x1 x2 w) : Calls Pg 68 ⟨[x0, x1, x2]⟩ w R :=
  calls_of_den Try.func68 (by kernel_rfl) (by kernel_rfl) (F68_den R x0 x1 x2) h
/-! ### 69: filter_Pattern_has -/
def F69 (R : ER) (x0 x1 : Value) : WP :=
  bx 25 x0 fun v1 =>
  pv (faO 1 v1) fun v2 =>
  ld1 v2 fun v3 =>
  pv (bin .sub (.int .i64 32) v3) fun v4 =>
  drewV (
  pv (cvI .u64 x1) fun v5 =>
  pv (bin .shr v5 v4) fun v6 =>
  pv (faO 0 v1) fun v7 =>
  ld1 v7 fun v8 =>
  pv (cvI .u64 v8) fun v9 =>
  pv (bin .shr v9 v4) fun v10 =>
  pv (bin .eql v6 v10) fun v11 =>
  pv (faO 2 v1) fun v12 =>
  ld1 v12 fun v13 =>
  pv (binB .neq v11 v13) fun v14 =>
  R (.returned v14))
theorem F69_den (R : ER) (x0 x1 : Value) : den Pg R (cd Try.f69 []) (argsEnv [x0, x1]) (kont Pg R Try.f69) = F69 R x0 x1 :=
  have h : ∀ e, den Pg R (cd Try.f69 []) e (kont Pg R Try.f69) = F69 R (e 0) (e 1) := fun e => by kernel_rfl
  h _
theorem F69_calls {R : ER} {x0 x1 : Value} {w : World} (h : F69 R x0 x1 w) : Calls Pg 69 ⟨[x0, x1]⟩ w R :=
  calls_of_den Try.func69 (by kernel_rfl) (by kernel_rfl) (F69_den R x0 x1) h
/-! ### 70: filter_Range_has -/
def F70 (R : ER) (x0 x1 : Value) : WP :=
  bx 27 x0 fun v1 =>
  pv (faO 0 v1) fun v2 =>
  ld1 v2 fun v3 =>
  pv (faO 1 v1) fun v4 =>
  ld1 v4 fun v5 =>
  cal Pg R 42 ⟨[x1, v3, v5]⟩ fun v6 =>
  R (.returned v6)
theorem F70_den (R : ER) (x0 x1 : Value) : den Pg R (cd Try.f70 []) (argsEnv [x0, x1]) (kont Pg R Try.f70) = F70 R x0 x1 :=
  have h : ∀ e, den Pg R (cd Try.f70 []) e (kont Pg R Try.f70) = F70 R (e 0) (e 1) := fun e => by kernel_rfl
  h _
theorem F70_calls {R : ER} {x0 x1 : Value} {w : World} (h : F70 R x0 x1 w) : Calls Pg 70 ⟨[x0, x1]⟩ w R :=
  calls_of_den Try.func70 (by kernel_rfl) (by kernel_rfl) (F70_den R x0 x1) h
/-! ### 71: filter_Filter_make_1 -/
def F71 (R : ER) (x0 x1 : Value) : WP :=
  bx 121 x0 fun v1 =>
  bx 121 x1 fun v2 =>
  drewV (
  pv (faO 0 v1) fun v3 =>
  ld1 v3 fun v4 =>
  pv (faO 0 v2) fun v5 =>
  ld1 v5 fun v6 =>
  mem fun w8 => cal Pg noR 73 ⟨[v4, v6]⟩ fun v7 =>
  pv (faO 1 v1) fun v9 =>
  ld1S [w8] v9 fun v10 =>
  pv (faO 1 v2) fun v11 =>
  ld1S [w8] v11 fun v12 =>
  mem fun w14 => cal Pg noR 53 ⟨[v10, v12]⟩ fun v13 =>
  mem fun w16 => valV Pg noR (Instr.buildSlice 50 2 ⟨[(0, v7), (1, v13)]⟩) fun v15 =>
  mem fun w18 => cal Pg noR 72 ⟨[v15]⟩ fun v17 =>
  R (.returned v17))
theorem F71_den (R : ER) (x0 x1 : Value) : den Pg R (cd Try.f71 []) (argsEnv [x0, x1]) (kont Pg R Try.f71) = F71 R x0 x1 :=
  have h : ∀ e, den Pg R (cd Try.f71 []) e (kont Pg R Try.f71) = F71 R (e 0) (e 1) := fun e => by kernel_rfl
  h _
theorem F71_calls {R : ER} {x0 x1 : Value} {w : World} (h : F71 R x0 x1 w) : Calls Pg 71 ⟨[x0, x1]⟩ w R :=
  calls_of_den Try.func71 (by kernel_rfl) (by kernel_rfl) (F71_den R x0 x1) h
/-! ### 72: cmp_Or -/
def F72_j1 (R : ER) (x3 : Value) : WP :=
  R (.returned x3)
theorem F72_j1_ok (R : ER) (e : Env) : den Pg R (cd Try.f72 [1,1,1]) e (kont Pg R Try.f72) = (F72_j1 R (e 3)) := by kernel_rfl
def F72_b1 (R : ER) (k1 : V4) (x3 x6 x7 x8 : Value) : WP :=
  pv (bin .lss x8 x7) fun v1 =>
  cnd v1 (
   pv (ixS 1 x6 x8) fun v2 =>
  ld1 v2 fun v3 =>
  pv (bin .neq v3 x3) fun v4 =>
  cnd v4 (
   R (.returned v3)) (
   pv (bin .add x8 (.int .i64 1)) fun v5 =>
  k1 x3 x6 x7 v5)) (
   F72_j1 R x3)
theorem F72_b1_ok (R : ER) (k1 : V4) (e : Env) : den Pg R (cd Try.f72 [1,1,0,1,0,0]) e (setN (inB 0 (setN (kont Pg R Try.f72) (fun e => F72_j1 R (e 3)))) (fun e => k1 (e 3) (e 6) (e 7) (e 8))) = (F72_b1 R k1 (e 3) (e 6) (e 7) (e 8)) := by kernel_rfl
noncomputable def F72_l1 (R : ER) (n : Nat) : V4 := Nat.rec (motive := fun _ => V4) (fun _ _ _ _ => fun _ => False) (fun _ ih => fun x3 x6 x7 x8 => F72_b1 R ih x3 x6 x7 x8) n
theorem F72_l1_succ (R : ER) (n : Nat) (x3 x6 x7 x8 : Value) : F72_l1 R (n + 1) x3 x6 x7 x8 = F72_b1 R (F72_l1 R n) x3 x6 x7 x8 := rfl
theorem F72_l1_ok (R : ER) : ∀ (n : Nat) (e : Env), iterL (den Pg R (cd Try.f72 [1,1,0,1,0,0])) n e (inB 0 (setN (kont Pg R Try.f72) (fun e => F72_j1 R (e 3)))) = F72_l1 R n (e 3) (e 6) (e 7) (e 8) :=
  iterL_join (den Pg R (cd Try.f72 [1,1,0,1,0,0])) (inB 0 (setN (kont Pg R Try.f72) (fun e => F72_j1 R (e 3)))) (fun n e => F72_l1 R n (e 3) (e 6) (e 7) (e 8)) (fun _ => rfl) (fun n e => (F72_b1_ok R (F72_l1 R n) e).trans (F72_l1_succ R n (e 3) (e 6) (e 7) (e 8)).symm)
def F72_j3 (R : ER) (x3 x6 x7 x8 : Value) : WP :=
  exN fun n => F72_l1 R n x3 x6 x7 x8
theorem F72_j3_ok (R : ER) (e : Env) : den Pg R (cd Try.f72 [1,1,0,1]) e (setN (kont Pg R Try.f72) (fun e => F72_j1 R (e 3))) = (F72_j3 R (e 3) (e 6) (e 7) (e 8)) := (den_block Pg R (cd Try.f72 [1,1,0,1]) 0 (cd Try.f72 [1,1,0,1,0]) e (setN (kont Pg R Try.f72) (fun e => F72_j1 R (e 3))) _ (by kernel_rfl) (den_loop Pg R (cd Try.f72 [1,1,0,1,0]) (cd Try.f72 [1,1,0,1,0,0]) e (inB 0 (setN (kont Pg R Try.f72) (fun e => F72_j1 R (e 3)))) (fun n e => F72_l1 R n (e 3) (e 6) (e 7) (e 8)) _ (by kernel_rfl) (F72_l1_ok R) (by kernel_rfl)))
def F72_j2 (R : ER) (x0 x3 : Value) : WP :=
  pv (lenS x0) fun v6 =>
  F72_j3 R x3 x0 v6 (.int .i64 0)
theorem F72_j2_ok (R : ER) (e : Env) : den Pg R (cd Try.f72 [1,1,0]) e (setN (kont Pg R Try.f72) (fun e => F72_j1 R (e 3))) = (F72_j2 R (e 0) (e 3)) := (den_join Pg R 0 (cd Try.f72 [1,1,0]) (cd Try.f72 [1,1,0,1]) e (setN (kont Pg R Try.f72) (fun e => F72_j1 R (e 3))) (fun e => F72_j3 R (e 3) (e 6) (e 7) (e 8)) _ (by kernel_rfl) (fun e => F72_j3_ok R e) (by kernel_rfl))
def F72 (R : ER) (x0 : Value) : WP :=
  F72_j2 R x0 (.int .i64 0)
theorem F72_den (R : ER) (x0 : Value) : den Pg R (cd Try.f72 []) (argsEnv [x0]) (kont Pg R Try.f72) = F72 R x0 :=
  have h : ∀ e, den Pg R (cd Try.f72 []) e (kont Pg R Try.f72) = F72 R (e 0) := fun e => (den_join Pg R 2 (cd Try.f72 []) (cd Try.f72 [1,1,1]) e (kont Pg R Try.f72) (fun e => F72_j1 R (e 3)) _ (by kernel_rfl) (fun e => F72_j1_ok R e) (den_join Pg R 1 (pre 2 (cd Try.f72 [])) (cd Try.f72 [1,1,0]) e (setN (kont Pg R Try.f72) (fun e => F72_j1 R (e 3))) (fun e => F72_j2 R (e 0) (e 3)) _ (by kernel_rfl) (fun e => F72_j2_ok R e) (by kernel_rfl)))
  h _
theorem F72_calls {R : ER} {x0 : Value} {w : World} (h : F72 R x0 w) : Calls Pg 72 ⟨[x0]⟩ w R :=
  calls_of_den Try.func72 (by kernel_rfl) (by kernel_rfl) (F72_den R x0) h
/-! ### 73: cmp_Compare_73 -/
def F73_j1 (R : ER) (x0 x1 x6 : Value) : WP :=
  cnd x6 (
   R (.returned (.int .i64 1))) (
   pv (bin .lss x0 x1) fun v1 =>
  cnd v1 (
   R (.returned (.int .i64 (-1)))) (
   pv (bin .gtr x0 x1) fun v2 =>
  cnd v2 (
   R (.returned (.int .i64 1))) (
   R (.returned (.int .i64 0)))))
theorem F73_j1_ok (R : ER) (e : Env) : den Pg R (cd Try.f73 [1,1,1,1]) e (kont Pg R Try.f73) = (F73_j1 R (e 0) (e 1) (e 6)) := by kernel_rfl
def F73 (R : ER) (x0 x1 : Value) : WP :=
  cal Pg R 86 ⟨[x0]⟩ fun v3 =>
  cal Pg R 86 ⟨[x1]⟩ fun v4 =>
  cnd v3 (
   cnd v4 (
    R (.returned (.int .i64 0))) (
    R (.returned (.int .i64 (-1))))) (
   F73_j1 R x0 x1 v4)
theorem F73_den (R : ER) (x0 x1 : Value) : den Pg R (cd Try.f73 []) (argsEnv [x0, x1]) (kont Pg R Try.f73) = F73 R x0 x1 :=
  have h : ∀ e, den Pg R (cd Try.f73 []) e (kont Pg R Try.f73) = F73 R (e 0) (e 1) := fun e => (den_join Pg R 3 (cd Try.f73 []) (cd Try.f73 [1,1,1,1]) e (kont Pg R Try.f73) (fun e => F73_j1 R (e 0) (e 1) (e 6)) _ (by kernel_rfl) (fun e => F73_j1_ok R e) (by kernel_rfl))
  h _
theorem F73_calls {R : ER} {x0 x1 : Value} {w : World} (h : F73 R x0 x1 w) : Calls Pg 73 ⟨[x0, x1]⟩ w R :=
  calls_of_den Try.func73 (by kernel_rfl) (by kernel_rfl) (F73_den R x0 x1) h
/-! ### 76: cmp_isNaN -/
def F76 (R : ER) (x0 : Value) : WP :=
  pv (bin .neq x0 x0) fun v1 =>
  R (.returned v1)
theorem F76_den (R : ER) (x0 : Value) : den Pg R (cd Try.f76 []) (argsEnv [x0]) (kont Pg R Try.f76) = F76 R x0 :=
  have h : ∀ e, den Pg R (cd Try.f76 []) e (kont Pg R Try.f76) = F76 R (e 0) := fun e => by kernel_rfl
  h _
theorem F76_calls {R : ER} {x0 : Value} {w : World} (h : F76 R x0 w) : Calls Pg 76 ⟨[x0]⟩ w R :=
  calls_of_den Try.func76 (by kernel_rfl) (by kernel_rfl) (F76_den R x0) h
/-! ### 77: orpimentref39_within -/
def F77 (R : ER) (x0 x1 x2 : Value) : WP :=
  pv (bin .geq x0 x1) fun v1 =>
  gd v1 true (pv (some x0)) fun v2 =>
  gd v1 true (pv (some x2)) fun v3 =>
  gd v1 true (pv (bin .leq v2 v3)) fun v4 =>
  pv (pickO v1 v4 (.bool false)) fun v5 =>
  R (.returned v5)
theorem F77_den (R : ER) (x0 x1 x2 : Value) : den Pg R (cd Try.f77 []) (argsEnv [x0, x1, x2]) (kont Pg R Try.f77) = F77 R x0 x1 x2 :=
  have h : ∀ e, den Pg R (cd Try.f77 []) e (kont Pg R Try.f77) = F77 R (e 0) (e 1) (e 2) := fun e => by kernel_rfl
  h _
theorem F77_calls {R : ER} {x0 x1 x2 : Value} {w : World} (h : F77 R x0 x1 x2 w) : Calls Pg 77 ⟨[x0, x1, x2]⟩ w R :=
  calls_of_den Try.func77 (by kernel_rfl) (by kernel_rfl) (F77_den R x0 x1 x2) h
/-! ### 78: orpimentref39_isRange -/
def F78 (R : ER) (x0 : Value) : WP :=
  bx 36 x0 fun v1 =>
  pv (faO 0 v1) fun v2 =>
  ld1 v2 fun v3 =>
  pv (bin .geq v3 (.int .i64 0)) fun v4 =>
  gd v4 true (pv (faO 0 v1)) fun v5 =>
  gd v4 true (ld1 v5) fun v6 =>
  gd v4 true (pv (faO 1 v1)) fun v7 =>
  gd v4 true (ld1 v7) fun v8 =>
  gd v4 true (pv (bin .leq v6 v8)) fun v9 =>
  pv (pickO v4 v9 (.bool false)) fun v10 =>
  gd v10 true (pv (faO 1 v1)) fun v11 =>
  gd v10 true (ld1 v11) fun v12 =>
  gd v10 true (pv (bin .leq v12 (.int .i64 65535))) fun v13 =>
  pv (pickO v10 v13 (.bool false)) fun v14 =>
  R (.returned v14)
theorem F78_den (R : ER) (x0 : Value) : den Pg R (cd Try.f78 []) (argsEnv [x0]) (kont Pg R Try.f78) = F78 R x0 :=
  have h : ∀ e, den Pg R (cd Try.f78 []) e (kont Pg R Try.f78) = F78 R (e 0) := fun e => by kernel_rfl
  h _
theorem F78_calls {R : ER} {x0 : Value} {w : World} (h : F78 R x0 w) : Calls Pg 78 ⟨[x0]⟩ w R :=
  calls_of_den Try.func78 (by kernel_rfl) (by kernel_rfl) (F78_den R x0) h
/-! ### 79: orpimentref39_clean -/
def F79 (R : ER) (x0 : Value) : WP :=
  bx 35 x0 fun v1 =>
  pv (faO 1 v1) fun v2 =>
  ld1 v2 fun v3 =>
  pv (bin .eql v3 (.int .i64 32)) fun v4 =>
  gd v4 false (pv (faO 0 v1)) fun v5 =>
  gd v4 false (ld1 v5) fun v6 =>
  gd v4 false (pv (faO 1 v1)) fun v7 =>
  gd v4 false (ld1 v7) fun v8 =>
  gd v4 false (pv (cvI .u64 v8)) fun v9 =>
  gd v4 false (pv (bin .shl v6 v9)) fun v10 =>
  gd v4 false (pv (bin .eql v10 (.int .u32 0))) fun v11 =>
  pv (pickO v4 (.bool true) v11) fun v12 =>
  R (.returned v12)
theorem F79_den (R : ER) (x0 : Value) : den Pg R (cd Try.f79 []) (argsEnv [x0]) (kont Pg R Try.f79) = F79 R x0 :=
  have h : ∀ e, den Pg R (cd Try.f79 []) e (kont Pg R Try.f79) = F79 R (e 0) := fun e => by kernel_rfl
  h _
theorem F79_calls {R : ER} {x0 : Value} {w : World} (h : F79 R x0 w) : Calls Pg 79 ⟨[x0]⟩ w R :=
  calls_of_den Try.func79 (by kernel_rfl) (by kernel_rfl) (F79_den R x0) h
/-! ### 80: orpimentref39_Matches -/
def F80_j1 (R : ER) (x2 x3 : Value) : WP :=
  pv (faO 3 x2) fun v1 =>
  ld1 v1 fun v2 =>
  pv (bin .eql v2 (.int .i64 3)) fun v3 =>
  gd v3 false (pv (faO 3 x2)) fun v4 =>
  gd v3 false (ld1 v4) fun v5 =>
  gd v3 false (pv (faO 0 x3)) fun v6 =>
  gd v3 false (ld1 v6) fun v7 =>
  gd v3 false (pv (bin .eql v5 v7)) fun v8 =>
  pv (pickO v3 (.bool true) v8) fun v9 =>
  gd v9 true (pv (faO 4 x2)) fun v10 =>
  gd v9 true (ld1 v10) fun v11 =>
  gd v9 true (pv (bin .eql v11 (.int .i64 (-1)))) fun v12 =>
  gd v9 true (pv (some v12)) fun v13 =>
  gd v13 false (pv (faO 4 x2)) fun v14 =>
  gd v13 false (ld1 v14) fun v15 =>
  gd v13 false (pv (faO 1 x3)) fun v16 =>
  gd v13 false (ld1 v16) fun v17 =>
  gd v13 false (pv (bin .eql v15 v17)) fun v18 =>
  gd v9 true (pv (pickO v13 (.bool true) v18)) fun v19 =>
  pv (pickO v9 v19 (.bool false)) fun v20 =>
  gd v20 true (pv (faO 5 x2)) fun v21 =>
  gd v20 true (ld1 v21) fun v22 =>
  gd v20 true (pv (bin .eql v22 (.int .i64 (-1)))) fun v23 =>
  gd v20 true (pv (some v23)) fun v24 =>
  gd v24 false (pv (faO 5 x2)) fun v25 =>
  gd v24 false (ld1 v25) fun v26 =>
  gd v24 false (pv (faO 4 x3)) fun v27 =>
  gd v24 false (ld1 v27) fun v28 =>
  gd v24 false (pv (bin .eql v26 v28)) fun v29 =>
  gd v20 true (pv (pickO v24 (.bool true) v29)) fun v30 =>
  pv (pickO v20 v30 (.bool false)) fun v31 =>
  gd v31 true (pv (faO 2 x3)) fun v32 =>
  gd v31 true (ld1 v32) fun v33 =>
  gd v31 true (pv (faO 6 x2)) fun v34 =>
  gd v31 true (ldN 3 v34) fun v35 =>
  gd v31 true (cal Pg R 89 ⟨[v33, v35]⟩) fun v36 =>
  pv (pickO v31 v36 (.bool false)) fun v37 =>
  gd v37 true (pv (faO 3 x3)) fun v38 =>
  gd v37 true (ld1 v38) fun v39 =>
  gd v37 true (pv (faO 9 x2)) fun v40 =>
  gd v37 true (ldN 3 v40) fun v41 =>
  gd v37 true (cal Pg R 89 ⟨[v39, v41]⟩) fun v42 =>
  pv (pickO v37 v42 (.bool false)) fun v43 =>
  gd v43 true (pv (faO 5 x3)) fun v44 =>
  gd v43 true (ld1 v44) fun v45 =>
  gd v43 true (pv (faO 12 x2)) fun v46 =>
  gd v43 true (pv (faO 0 v46)) fun v47 =>
  gd v43 true (ld1 v47) fun v48 =>
  gd v43 true (pv (faO 12 x2)) fun v49 =>
  gd v43 true (pv (faO 1 v49)) fun v50 =>
  gd v43 true (ld1 v50) fun v51 =>
  gd v43 true (cal Pg R 77 ⟨[v45, v48, v51]⟩) fun v52 =>
  pv (pickO v43 v52 (.bool false)) fun v53 =>
  gd v53 true (pv (faO 6 x3)) fun v54 =>
  gd v53 true (ld1 v54) fun v55 =>
  gd v53 true (pv (faO 14 x2)) fun v56 =>
  gd v53 true (pv (faO 0 v56)) fun v57 =>
  gd v53 true (ld1 v57) fun v58 =>
  gd v53 true (pv (faO 14 x2)) fun v59 =>
  gd v53 true (pv (faO 1 v59)) fun v60 =>
  gd v53 true (ld1 v60) fun v61 =>
  gd v53 true (cal Pg R 77 ⟨[v55, v58, v61]⟩) fun v62 =>
  pv (pickO v53 v62 (.bool false)) fun v63 =>
  R (.returned v63)
theorem F80_j1_ok (R : ER) (e : Env) : den Pg R (cd Try.f80 [1,1]) e (kont Pg R Try.f80) = (F80_j1 R (e 2) (e 3)) := by kernel_rfl
def F80 (R : ER) (x0 x1 : Value) : WP :=
  bx 38 x0 fun v64 =>
  bx 67 x1 fun v65 =>
  ldN 16 v64 fun v66 =>
  cal Pg R 57 ⟨[v66]⟩ fun v67 =>
  pv (bin .neq v67 (.int .i64 0)) fun v68 =>
  gd v68 false (ldN 8 v65) fun v69 =>
  gd v68 false (cal Pg R 58 ⟨[v69]⟩) fun v70 =>
  gd v68 false (pv (bin .neq v70 (.int .i64 0))) fun v71 =>
  pv (pickO v68 (.bool true) v71) fun v72 =>
  cnd v72 (
   R (.returned (.bool false))) (
   F80_j1 R v64 v65)
theorem F80_den (R : ER) (x0 x1 : Value) : den Pg R (cd Try.f80 []) (argsEnv [x0, x1]) (kont Pg R Try.f80) = F80 R x0 x1 :=
  have h : ∀ e, den Pg R (cd Try.f80 []) e (kont Pg R Try.f80) = F80 R (e 0) (e 1) := fun e => (den_join Pg R 1 (cd Try.f80 []) (cd Try.f80 [1,1]) e (kont Pg R Try.f80) (fun e => F80_j1 R (e 2) (e 3)) _ (by kernel_rfl) (fun e => F80_j1_ok R e) (by kernel_rfl))
  h _
theorem F80_calls {R : ER} {x0 x1 : Value} {w : World} (h : F80 R x0 x1 w) : Calls Pg 80 ⟨[x0, x1]⟩ w R :=
  calls_of_den Try.func80 (by kernel_rfl) (by kernel_rfl) (F80_den R x0 x1) h
/-! ### 81: filter_parser_ends -/
def F81 (R : ER) (x0 x1 : Value) : WP :=
  pv (nilO x0) fun v1 =>
  pv (faO 0 v1) fun v2 =>
  ld1 v2 fun v3 =>
  pv (lenStr v3) fun v4 =>
  pv (bin .geq x1 v4) fun v5 =>
  gd v5 false (pv (some x0)) fun v6 =>
  gd v5 false (pv (nilO v6)) fun v7 =>
  gd v5 false (pv (faO 0 v7)) fun v8 =>
  gd v5 false (ld1 v8) fun v9 =>
  gd v5 false (pv (some x1)) fun v10 =>
  gd v5 false (pv (ixStr v9 v10)) fun v11 =>
  gd v5 false (pv (bin .eql v11 (.int .u8 32))) fun v12 =>
  pv (pickO v5 (.bool true) v12) fun v13 =>
  R (.returned v13)
theorem F81_den (R : ER) (x0 x1 : Value) : den Pg R (cd Try.f81 []) (argsEnv [x0, x1]) (kont Pg R Try.f81) = F81 R x0 x1 :=
  have h : ∀ e, den Pg R (cd Try.f81 []) e (kont Pg R Try.f81) = F81 R (e 0) (e 1) := fun e => by kernel_rfl
  h _
theorem F81_calls {R : ER} {x0 x1 : Value} {w : World} (h : F81 R x0 x1 w) : Calls Pg 81 ⟨[x0, x1]⟩ w R :=
  calls_of_den Try.func81 (by kernel_rfl) (by kernel_rfl) (F81_den R x0 x1) h
/-! ### 82: filter_parser_char -/
def F82 (R : ER) (x0 x1 : Value) : WP :=
  pv (nilO x0) fun v1 =>
  pv (faO 0 v1) fun v2 =>
  ld1 v2 fun v3 =>
  pv (lenStr v3) fun v4 =>
  pv (bin .lss x1 v4) fun v5 =>
  cnd v5 (
   pv (nilO x0) fun v6 =>
   pv (faO 0 v6) fun v7 =>
   ld1 v7 fun v8 =>
   pv (ixStr v8 x1) fun v9 =>
   R (.returned v9)) (
   R (.returned (.int .u8 10)))
theorem F82_den (R : ER) (x0 x1 : Value) : den Pg R (cd Try.f82 []) (argsEnv [x0, x1]) (kont Pg R Try.f82) = F82 R x0 x1 :=
  have h : ∀ e, den Pg R (cd Try.f82 []) e (kont Pg R Try.f82) = F82 R (e 0) (e 1) := fun e => (by kernel_rfl)
  h _
theorem F82_calls {R : ER} {x0 x1 : Value} {w : World} (h : F82 R x0 x1 w) : Calls Pg 82 ⟨[x0, x1]⟩ w R :=
  calls_of_den Try.func82 (by kernel_rfl) (by kernel_rfl) (F82_den R x0 x1) h
/-! ### 83: filter_parser_sign -/
def F83_j1 (R : ER) (x0 : Value) : WP :=
  pv (nilO x0) fun v1 =>
  pv (faO 1 v1) fun v2 =>
  ld1 v2 fun v3 =>
  pv (bin .add v3 (.int .i64 1)) fun v4 =>
  pv (nilO x0) fun v5 =>
  pv (faO 1 v5) fun v6 =>
  st1 v6 v4 fun _ =>
  R (.returned (.tuple ⟨[]⟩))
theorem F83_j1_ok (R : ER) (e : Env) : den Pg R (cd Try.f83 [1]) e (kont Pg R Try.f83) = (F83_j1 R (e 0)) := by kernel_rfl
def F83_j2 (R : ER) (x0 x1 : Value) : WP :=
  pv (nilO x0) fun v7 =>
  pv (faO 1 v7) fun v8 =>
  ld1 v8 fun v9 =>
  cal Pg R 82 ⟨[x0, v9]⟩ fun v10 =>
  pv (bin .neq v10 x1) fun v11 =>
  cnd v11 (
   drewV (
   pv (nilO x0) fun v12 =>
   pv (faO 1 v12) fun v13 =>
   ld1 v13 fun v14 =>
   pv (nilO x0) fun v15 =>
   pv (faO 0 v15) fun v16 =>
   ld1 v16 fun v17 =>
   pv (lenStr v17) fun v18 =>
   pv (min2I v14 v18) fun v19 =>
   mem fun w21 => cal Pg noR 66 ⟨[x0, v19]⟩ fun v20 =>
   F83_j1 R x0)) (
   F83_j1 R x0)
theorem F83_j2_ok (R : ER) (e : Env) : den Pg R (cd Try.f83 [0]) e (setN (kont Pg R Try.f83) (fun e => F83_j1 R (e 0))) = (F83_j2 R (e 0) (e 1)) := (by kernel_rfl)
def F83 (R : ER) (x0 x1 : Value) : WP :=
  F83_j2 R x0 x1
theorem F83_den (R : ER) (x0 x1 : Value) : den Pg R (cd Try.f83 []) (argsEnv [x0, x1]) (kont Pg R Try.f83) = F83 R x0 x1 :=
  have h : ∀ e, den Pg R (cd Try.f83 []) e (kont Pg R Try.f83) = F83 R (e 0) (e 1) := fun e => (den_join Pg R 0 (cd Try.f83 []) (cd Try.f83 [1]) e (kont Pg R Try.f83) (fun e => F83_j1 R (e 0)) _ (by kernel_rfl) (fun e => F83_j1_ok R e) (den_conv Pg R (pre 0 (cd Try.f83 [])) (cd Try.f83 [0]) e (setN (kont Pg R Try.f83) (fun e => F83_j1 R (e 0))) _ (by kernel_rfl) (F83_j2_ok R e)))
  h _
theorem F83_calls {R : ER} {x0 x1 : Value} {w : World} (h : F83 R x0 x1 w) : Calls Pg 83 ⟨[x0, x1]⟩ w R :=
  calls_of_den Try.func83 (by kernel_rfl) (by kernel_rfl) (F83_den R x0 x1) h
/-! ### 84: filter_parser_counted -/
def F84_j1 (R : ER) (x3 : Value) : WP :=
  R (.returned x3)
theorem F84_j1_ok (R : ER) (e : Env) : den Pg R (cd Try.f84 [1,1,1,1]) e (kont Pg R Try.f84) = (F84_j1 R (e 3)) := by kernel_rfl
def F84_j2 (R : ER) (x0 x3 : Value) : WP :=
  pv (nilO x0) fun v1 =>
  pv (faO 1 v1) fun v2 =>
  ld1 v2 fun v3 =>
  cal Pg R 81 ⟨[x0, v3]⟩ fun v4 =>
  pv (unO .not v4) fun v5 =>
  cnd v5 (
   pv (nilO x0) fun v6 =>
   pv (faO 1 v6) fun v7 =>
   ld1 v7 fun v8 =>
   cal Pg R 66 ⟨[x0, v8]⟩ fun v9 =>
   F84_j1 R x3) (
   F84_j1 R x3)
theorem F84_j2_ok (R : ER) (e : Env) : den Pg R (cd Try.f84 [1,1,1,0]) e (setN (kont Pg R Try.f84) (fun e => F84_j1 R (e 3))) = (F84_j2 R (e 0) (e 3)) := (by kernel_rfl)
def F84 (R : ER) (x0 : Value) : WP :=
  cal Pg R 83 ⟨[x0, (.int .u8 32)]⟩ fun v10 =>
  cal Pg R 90 ⟨[x0, (.int .i64 0), (.int .i64 255), (.int .i64 (-1))]⟩ fun v11 =>
  F84_j2 R x0 v11
theorem F84_den (R : ER) (x0 : Value) : den Pg R (cd Try.f84 []) (argsEnv [x0]) (kont Pg R Try.f84) = F84 R x0 :=
  have h : ∀ e, den Pg R (cd Try.f84 []) e (kont Pg R Try.f84) = F84 R (e 0) := fun e => (den_join Pg R 3 (cd Try.f84 []) (cd Try.f84 [1,1,1,1]) e (kont Pg R Try.f84) (fun e => F84_j1 R (e 3)) _ (by kernel_rfl) (fun e => F84_j1_ok R e) (den_join Pg R 2 (pre 3 (cd Try.f84 [])) (cd Try.f84 [1,1,1,0]) e (setN (kont Pg R Try.f84) (fun e => F84_j1 R (e 3))) (fun e => F84_j2 R (e 0) (e 3)) _ (by kernel_rfl) (fun e => F84_j2_ok R e) (by kernel_rfl)))
  h _
theorem F84_calls {R : ER} {x0 : Value} {w : World} (h : F84 R x0 w) : Calls Pg 84 ⟨[x0]⟩ w R :=
  calls_of_den Try.func84 (by kernel_rfl) (by kernel_rfl) (F84_den R x0) h
/-! ### 85: filter_parser_side -/
def F85_j1 (R : ER) (x0 x1 x4 x5 : Value) : WP :=
  cal Pg R 92 ⟨[x0]⟩ fun v1 =>
  stN 2 x5 v1 fun _ =>
  cal Pg R 64 ⟨[x0]⟩ fun v2 =>
  pv (unO .not v2) fun v3 =>
  cnd v3 (
   drewV (
   ldN 3 x4 fun v4 =>
   ldN 2 x5 fun v5 =>
   mem fun w7 => stN 3 x4 v4 fun v6 =>
   rdN 2 x5 v5 <|
   mem fun w9 => stN 2 x5 v5 fun v8 =>
   ldN 3 x4 fun v10 => ldN 2 x5 fun v11 => R (.returned (.tuple ⟨[v10, v11, (.int .i64 (-1))]⟩)))) (
   drewV (
  ldN 3 x4 fun v12 =>
  ldN 2 x5 fun v13 =>
  mem fun w15 => cal Pg noR 63 ⟨[x0, x1]⟩ fun v14 =>
  rdN 2 x5 v13 <|
  rdN 3 x4 v12 <|
  mem fun w17 => stN 3 x4 v12 fun v16 =>
  rdN 2 x5 v13 <|
  mem fun w19 => stN 2 x5 v13 fun v18 =>
  ldN 3 x4 fun v20 => ldN 2 x5 fun v21 => R (.returned (.tuple ⟨[v20, v21, v14]⟩))))
theorem F85_j1_ok (R : ER) (e : Env) : den Pg R (cd Try.f85 [1,1,1,1]) e (kont Pg R Try.f85) = (F85_j1 R (e 0) (e 1) (e 4) (e 5)) := (by kernel_rfl)
def F85_j5 (R : ER) (x0 x1 x4 x5 : Value) : WP :=
  valV Pg R (Instr.buildSlice 104 1 ⟨[(0, (.string ⟨⟨[112,111,114,116]⟩⟩))]⟩) fun v22 =>
  blt Pg R .append ⟨[104,104]⟩ 104 ⟨[false, false]⟩ ⟨[v22, x1]⟩ fun v23 =>
  cal Pg R 63 ⟨[x0, v23]⟩ fun v24 =>
  pv (bin .gtr v24 (.int .i64 0)) fun v25 =>
  cnd v25 (
   drewV (
   ldN 3 x4 fun v26 =>
   ldN 2 x5 fun v27 =>
   pv (bin .sub v24 (.int .i64 1)) fun v28 =>
   mem fun w30 => stN 3 x4 v26 fun v29 =>
   rdN 2 x5 v27 <|
   mem fun w32 => stN 2 x5 v27 fun v31 =>
   ldN 3 x4 fun v33 => ldN 2 x5 fun v34 => R (.returned (.tuple ⟨[v33, v34, v28]⟩)))) (
   F85_j1 R x0 x1 x4 x5)
theorem F85_j5_ok (R : ER) (e : Env) : den Pg R (cd Try.f85 [1,1,1,0,1,1,0,1,1]) e (setN (kont Pg R Try.f85) (fun e => F85_j1 R (e 0) (e 1) (e 4) (e 5))) = (F85_j5 R (e 0) (e 1) (e 4) (e 5)) := (by kernel_rfl)
def F85_j4 (R : ER) (x0 x1 x4 x5 : Value) : WP :=
  cal Pg R 91 ⟨[x0]⟩ fun v35 =>
  stN 3 x4 v35 fun _ =>
  cal Pg R 64 ⟨[x0]⟩ fun v36 =>
  pv (unO .not v36) fun v37 =>
  cnd v37 (
   drewV (
   ldN 3 x4 fun v38 =>
   ldN 2 x5 fun v39 =>
   mem fun w41 => stN 3 x4 v38 fun v40 =>
   rdN 2 x5 v39 <|
   mem fun w43 => stN 2 x5 v39 fun v42 =>
   ldN 3 x4 fun v44 => ldN 2 x5 fun v45 => R (.returned (.tuple ⟨[v44, v45, (.int .i64 (-1))]⟩)))) (
   F85_j5 R x0 x1 x4 x5)
theorem F85_j4_ok (R : ER) (e : Env) : den Pg R (cd Try.f85 [1,1,1,0,1,1,0]) e (setN (kont Pg R Try.f85) (fun e => F85_j1 R (e 0) (e 1) (e 4) (e 5))) = (F85_j4 R (e 0) (e 1) (e 4) (e 5)) := (den_join Pg R 1 (cd Try.f85 [1,1,1,0,1,1,0]) (cd Try.f85 [1,1,1,0,1,1,0,1,1]) e (setN (kont Pg R Try.f85) (fun e => F85_j1 R (e 0) (e 1) (e 4) (e 5))) (fun e => F85_j5 R (e 0) (e 1) (e 4) (e 5)) _ (by kernel_rfl) (fun e => F85_j5_ok R e) (by kernel_rfl))
def F85_j3 (R : ER) (x0 x1 x4 x5 x26 : Value) : WP :=
  cnd x26 (F85_j4 R x0 x1 x4 x5) (valV Pg R (Instr.buildSlice 104 1 ⟨[(0, (.string ⟨⟨[112,111,114,116]⟩⟩))]⟩) fun v46 =>
  cal Pg R 63 ⟨[x0, v46]⟩ fun v47 =>
  F85_j1 R x0 x1 x4 x5)
theorem F85_j3_ok (R : ER) (e : Env) : den Pg R (cd Try.f85 [1,1,1,0,1,1]) e (setN (kont Pg R Try.f85) (fun e => F85_j1 R (e 0) (e 1) (e 4) (e 5))) = (F85_j3 R (e 0) (e 1) (e 4) (e 5) (e 26)) := (den_if Pg R (cd Try.f85 [1,1,1,0,1,1]) (cd Try.f85 [1,1,1,0,1,1,0]) (cd Try.f85 [1,1,1,0,1,1,1]) e (setN (kont Pg R Try.f85) (fun e => F85_j1 R (e 0) (e 1) (e 4) (e 5))) (F85_j4 R (e 0) (e 1) (e 4) (e 5)) _ _ (by kernel_rfl) (F85_j4_ok R e) rfl (by kernel_rfl))
def F85_j2 (R : ER) (x0 x1 x4 x5 : Value) : WP :=
  pv (nilO x0) fun v48 =>
  pv (faO 1 v48) fun v49 =>
  ld1 v49 fun v50 =>
  cal Pg R 82 ⟨[x0, v50]⟩ fun v51 =>
  pv (bin .eql v51 (.int .u8 33)) fun v52 =>
  gd v52 false (pv (some v51)) fun v53 =>
  gd v52 false (pv (bin .geq v53 (.int .u8 48))) fun v54 =>
  gd v52 false (pv (some v54)) fun v55 =>
  gd v55 true (pv (some v51)) fun v56 =>
  gd v55 true (pv (bin .leq v56 (.int .u8 57))) fun v57 =>
  gd v52 false (pv (pickO v55 v57 (.bool false))) fun v58 =>
  pv (pickO v52 (.bool true) v58) fun v59 =>
  F85_j3 R x0 x1 x4 x5 v59
theorem F85_j2_ok (R : ER) (e : Env) : den Pg R (cd Try.f85 [1,1,1,0]) e (setN (kont Pg R Try.f85) (fun e => F85_j1 R (e 0) (e 1) (e 4) (e 5))) = (F85_j2 R (e 0) (e 1) (e 4) (e 5)) := (den_join Pg R 1 (cd Try.f85 [1,1,1,0]) (cd Try.f85 [1,1,1,0,1,1]) e (setN (kont Pg R Try.f85) (fun e => F85_j1 R (e 0) (e 1) (e 4) (e 5))) (fun e => F85_j3 R (e 0) (e 1) (e 4) (e 5) (e 26)) _ (by kernel_rfl) (fun e => F85_j3_ok R e) (by kernel_rfl))
def F85 (R : ER) (x0 x1 : Value) : WP :=
  al Pg 25 fun v60 =>
  al Pg 27 fun v61 =>
  pv (bldO [.int .i64 0, .int .i64 0] [(0,1, (.int .i64 0)), (1,1, (.int .i64 65535))]) fun v62 =>
  stN 2 v61 v62 fun _ =>
  cal Pg R 83 ⟨[x0, (.int .u8 32)]⟩ fun v63 =>
  F85_j2 R x0 x1 v60 v61
theorem F85_den (R : ER) (x0 x1 : Value) : den Pg R (cd Try.f85 []) (argsEnv [x0, x1]) (kont Pg R Try.f85) = F85 R x0 x1 :=
  have h : ∀ e, den Pg R (cd Try.f85 []) e (kont Pg R Try.f85) = F85 R (e 0) (e 1) := fun e => (den_join Pg R 3 (cd Try.f85 []) (cd Try.f85 [1,1,1,1]) e (kont Pg R Try.f85) (fun e => F85_j1 R (e 0) (e 1) (e 4) (e 5)) _ (by kernel_rfl) (fun e => F85_j1_ok R e) (den_join Pg R 2 (pre 3 (cd Try.f85 [])) (cd Try.f85 [1,1,1,0]) e (setN (kont Pg R Try.f85) (fun e => F85_j1 R (e 0) (e 1) (e 4) (e 5))) (fun e => F85_j2 R (e 0) (e 1) (e 4) (e 5)) _ (by kernel_rfl) (fun e => F85_j2_ok R e) (by kernel_rfl)))
  h _
theorem F85_calls {R : ER} {x0 x1 : Value} {w : World} (h : F85 R x0 x1 w) : Calls Pg 85 ⟨[x0, x1]⟩ w R :=
  calls_of_den Try.func85 (by kernel_rfl) (by kernel_rfl) (F85_den R x0 x1) h
/-! ### 86: cmp_isNaN_86 -/
def F86 (R : ER) (x0 : Value) : WP :=
  pv (bin .neq x0 x0) fun v1 =>
  R (.returned v1)
theorem F86_den (R : ER) (x0 : Value) : den Pg R (cd Try.f86 []) (argsEnv [x0]) (kont Pg R Try.f86) = F86 R x0 :=
  have h : ∀ e, den Pg R (cd Try.f86 []) e (kont Pg R Try.f86) = F86 R (e 0) := fun e => by kernel_rfl
  h _
theorem F86_calls {R : ER} {x0 : Value} {w : World} (h : F86 R x0 w) : Calls Pg 86 ⟨[x0]⟩ w R :=
  calls_of_den Try.func86 (by kernel_rfl) (by kernel_rfl) (F86_den R x0) h
/-! ### 89: orpimentref39_fits -/
def F89 (R : ER) (x0 x1 : Value) : WP :=
  bx 35 x1 fun v1 =>
  pv (faO 1 v1) fun v2 =>
  ld1 v2 fun v3 =>
  pv (bin .eql v3 (.int .i64 0)) fun v4 =>
  gd v4 false (pv (some x0)) fun v5 =>
  gd v4 false (pv (faO 1 v1)) fun v6 =>
  gd v4 false (ld1 v6) fun v7 =>
  gd v4 false (pv (bin .sub (.int .i64 32) v7)) fun v8 =>
  gd v4 false (pv (cvI .u64 v8)) fun v9 =>
  gd v4 false (pv (bin .shr v5 v9)) fun v10 =>
  gd v4 false (pv (faO 0 v1)) fun v11 =>
  gd v4 false (ld1 v11) fun v12 =>
  gd v4 false (pv (faO 1 v1)) fun v13 =>
  gd v4 false (ld1 v13) fun v14 =>
  gd v4 false (pv (bin .sub (.int .i64 32) v14)) fun v15 =>
  gd v4 false (pv (cvI .u64 v15)) fun v16 =>
  gd v4 false (pv (bin .shr v12 v16)) fun v17 =>
  gd v4 false (pv (bin .eql v10 v17)) fun v18 =>
  pv (pickO v4 (.bool true) v18) fun v19 =>
  pv (faO 2 v1) fun v20 =>
  ld1 v20 fun v21 =>
  pv (binB .neq v19 v21) fun v22 =>
  R (.returned v22)
theorem F89_den (R : ER) (x0 x1 : Value) : den Pg R (cd Try.f89 []) (argsEnv [x0, x1]) (kont Pg R Try.f89) = F89 R x0 x1 :=
  have h : ∀ e, den Pg R (cd Try.f89 []) e (kont Pg R Try.f89) = F89 R (e 0) (e 1) := fun e => by kernel_rfl
  h _
theorem F89_calls {R : ER} {x0 x1 : Value} {w : World} (h : F89 R x0 x1 w) : Calls Pg 89 ⟨[x0, x1]⟩ w R :=
  calls_of_den Try.func89 (by kernel_rfl) (by kernel_rfl) (F89_den R x0 x1) h
/-! ### 90: filter_parser_number -/
def F90_j2 (R : ER) (x9 : Value) : WP :=
  R (.returned x9)
theorem F90_j2_ok (R : ER) (e : Env) : den Pg R (cd Try.f90 [1,1,1,1]) e (kont Pg R Try.f90) = (F90_j2 R (e 9)) := by kernel_rfl
def F90_j3 (R : ER) (x0 x1 x3 x9 x10 : Value) : WP :=
  pv (nilO x0) fun v1 =>
  pv (faO 1 v1) fun v2 =>
  ld1 v2 fun v3 =>
  pv (bin .eql v3 x10) fun v4 =>
  gd v4 false (pv (some x9)) fun v5 =>
  gd v4 false (pv (some x1)) fun v6 =>
  gd v4 false (pv (bin .lss v5 v6)) fun v7 =>
  pv (pickO v4 (.bool true) v7) fun v8 =>
  gd v8 false (pv (some x9)) fun v9 =>
  gd v8 false (pv (some x3)) fun v10 =>
  gd v8 false (pv (bin .eql v9 v10)) fun v11 =>
  pv (pickO v8 (.bool true) v11) fun v12 =>
  cnd v12 (
   drewV (
   pv (nilO x0) fun v13 =>
   pv (faO 1 v13) fun v14 =>
   ld1 v14 fun v15 =>
   pv (nilO x0) fun v16 =>
   pv (faO 0 v16) fun v17 =>
   ld1 v17 fun v18 =>
   pv (lenStr v18) fun v19 =>
   pv (min2I v15 v19) fun v20 =>
   mem fun w22 => cal Pg noR 66 ⟨[x0, v20]⟩ fun v21 =>
   F90_j2 R x9)) (
   F90_j2 R x9)
theorem F90_j3_ok (R : ER) (e : Env) : den Pg R (cd Try.f90 [1,1,1,0]) e (setN (kont Pg R Try.f90) (fun e => F90_j2 R (e 9))) = (F90_j3 R (e 0) (e 1) (e 3) (e 9) (e 10)) := (by kernel_rfl)
def F90_j1 (R : ER) (x0 x1 x3 x9 x10 : Value) : WP :=
  F90_j3 R x0 x1 x3 x9 x10
theorem F90_j1_ok (R : ER) (e : Env) : den Pg R (cd Try.f90 [1,1,1]) e (kont Pg R Try.f90) = (F90_j1 R (e 0) (e 1) (e 3) (e 9) (e 10)) := (den_join Pg R 0 (cd Try.f90 [1,1,1]) (cd Try.f90 [1,1,1,1]) e (kont Pg R Try.f90) (fun e => F90_j2 R (e 9)) _ (by kernel_rfl) (fun e => F90_j2_ok R e) (den_conv Pg R (pre 0 (cd Try.f90 [1,1,1])) (cd Try.f90 [1,1,1,0]) e (setN (kont Pg R Try.f90) (fun e => F90_j2 R (e 9))) _ (by kernel_rfl) (F90_j3_ok R e)))
def F90_j6 (R : ER) (k1 : V6) (x0 x1 x2 x3 x10 x13 : Value) : WP :=
  pv (nilO x0) fun v23 =>
  pv (faO 1 v23) fun v24 =>
  ld1 v24 fun v25 =>
  pv (bin .add v25 (.int .i64 1)) fun v26 =>
  pv (nilO x0) fun v27 =>
  pv (faO 1 v27) fun v28 =>
  st1 v28 v26 fun _ =>
  k1 x0 x1 x2 x3 x13 x10
theorem F90_j6_ok (R : ER) (k1 : V6) (e : Env) : den Pg R (cd Try.f90 [1,1,0,0,0,0,1,1,1,1,1]) e (inB 1 (setN (inB 0 (setN (kont Pg R Try.f90) (fun e => F90_j1 R (e 0) (e 1) (e 3) (e 9) (e 10)))) (fun e => k1 (e 0) (e 1) (e 2) (e 3) (e 9) (e 10)))) = (F90_j6 R k1 (e 0) (e 1) (e 2) (e 3) (e 10) (e 13)) := by kernel_rfl
def F90_j5 (R : ER) (k1 : V6) (x0 x1 x2 x3 x9 x10 x11 : Value) : WP :=
  pv (bin .mul (.int .i64 10) x9) fun v29 =>
  pv (bin .sub x11 (.int .u8 48)) fun v30 =>
  pv (cvI .i64 v30) fun v31 =>
  pv (bin .add v29 v31) fun v32 =>
  cal Pg R 103 ⟨[v32, x1, x2, x3]⟩ fun v33 =>
  pv (unO .not v33) fun v34 =>
  cnd v34 (
   pv (nilO x0) fun v35 =>
   pv (faO 1 v35) fun v36 =>
   ld1 v36 fun v37 =>
   cal Pg R 66 ⟨[x0, v37]⟩ fun v38 =>
   F90_j6 R k1 x0 x1 x2 x3 x10 v32) (
   F90_j6 R k1 x0 x1 x2 x3 x10 v32)
theorem F90_j5_ok (R : ER) (k1 : V6) (e : Env) : den Pg R (cd Try.f90 [1,1,0,0,0,0,1,1,1]) e (inB 1 (setN (inB 0 (setN (kont Pg R Try.f90) (fun e => F90_j1 R (e 0) (e 1) (e 3) (e 9) (e 10)))) (fun e => k1 (e 0) (e 1) (e 2) (e 3) (e 9) (e 10)))) = (F90_j5 R k1 (e 0) (e 1) (e 2) (e 3) (e 9) (e 10) (e 11)) := (den_join Pg R 1 (cd Try.f90 [1,1,0,0,0,0,1,1,1]) (cd Try.f90 [1,1,0,0,0,0,1,1,1,1,1]) e (inB 1 (setN (inB 0 (setN (kont Pg R Try.f90) (fun e => F90_j1 R (e 0) (e 1) (e 3) (e 9) (e 10)))) (fun e => k1 (e 0) (e 1) (e 2) (e 3) (e 9) (e 10)))) (fun e => F90_j6 R k1 (e 0) (e 1) (e 2) (e 3) (e 10) (e 13)) _ (by kernel_rfl) (fun e => F90_j6_ok R k1 e) (by kernel_rfl))
def F90_b1 (R : ER) (k1 : V6) (x0 x1 x2 x3 x9 x10 : Value) : WP :=
  pv (nilO x0) fun v39 =>
  pv (faO 1 v39) fun v40 =>
  ld1 v40 fun v41 =>
  cal Pg R 82 ⟨[x0, v41]⟩ fun v42 =>
  pv (bin .geq v42 (.int .u8 48)) fun v43 =>
  gd v43 true (pv (some v42)) fun v44 =>
  gd v43 true (pv (bin .leq v44 (.int .u8 57))) fun v45 =>
  pv (pickO v43 v45 (.bool false)) fun v46 =>
  gd v46 true (pv (some x0)) fun v47 =>
  gd v46 true (pv (nilO v47)) fun v48 =>
  gd v46 true (pv (faO 1 v48)) fun v49 =>
  gd v46 true (ld1 v49) fun v50 =>
  gd v46 true (pv (some x10)) fun v51 =>
  gd v46 true (pv (bin .eql v50 v51)) fun v52 =>
  gd v46 true (pv (some v52)) fun v53 =>
  gd v53 false (pv (some x9)) fun v54 =>
  gd v53 false (pv (bin .gtr v54 (.int .i64 0))) fun v55 =>
  gd v46 true (pv (pickO v53 (.bool true) v55)) fun v56 =>
  pv (pickO v46 v56 (.bool false)) fun v57 =>
  pv (unO .not v57) fun v58 =>
  cnd v58 (
   F90_j1 R x0 x1 x3 x9 x10) (
   F90_j5 R k1 x0 x1 x2 x3 x9 x10 v42)
theorem F90_b1_ok (R : ER) (k1 : V6) (e : Env) : den Pg R (cd Try.f90 [1,1,0,0,0]) e (setN (inB 0 (setN (kont Pg R Try.f90) (fun e => F90_j1 R (e 0) (e 1) (e 3) (e 9) (e 10)))) (fun e => k1 (e 0) (e 1) (e 2) (e 3) (e 9) (e 10))) = (F90_b1 R k1 (e 0) (e 1) (e 2) (e 3) (e 9) (e 10)) := (den_block Pg R (cd Try.f90 [1,1,0,0,0]) 1 (cd Try.f90 [1,1,0,0,0,0]) e (setN (inB 0 (setN (kont Pg R Try.f90) (fun e => F90_j1 R (e 0) (e 1) (e 3) (e 9) (e 10)))) (fun e => k1 (e 0) (e 1) (e 2) (e 3) (e 9) (e 10))) _ (by kernel_rfl) (den_join Pg R 2 (cd Try.f90 [1,1,0,0,0,0]) (cd Try.f90 [1,1,0,0,0,0,1,1,1]) e (inB 1 (setN (inB 0 (setN (kont Pg R Try.f90) (fun e => F90_j1 R (e 0) (e 1) (e 3) (e 9) (e 10)))) (fun e => k1 (e 0) (e 1) (e 2) (e 3) (e 9) (e 10)))) (fun e => F90_j5 R k1 (e 0) (e 1) (e 2) (e 3) (e 9) (e 10) (e 11)) _ (by kernel_rfl) (fun e => F90_j5_ok R k1 e) (by kernel_rfl)))
noncomputable def F90_l1 (R : ER) (n : Nat) : V6 := Nat.rec (motive := fun _ => V6) (fun _ _ _ _ _ _ => fun _ => False) (fun _ ih => fun x0 x1 x2 x3 x9 x10 => F90_b1 R ih x0 x1 x2 x3 x9 x10) n
theorem F90_l1_succ (R : ER) (n : Nat) (x0 x1 x2 x3 x9 x10 : Value) : F90_l1 R (n + 1) x0 x1 x2 x3 x9 x10 = F90_b1 R (F90_l1 R n) x0 x1 x2 x3 x9 x10 := rfl
theorem F90_l1_ok (R : ER) : ∀ (n : Nat) (e : Env), iterL (den Pg R (cd Try.f90 [1,1,0,0,0])) n e (inB 0 (setN (kont Pg R Try.f90) (fun e => F90_j1 R (e 0) (e 1) (e 3) (e 9) (e 10)))) = F90_l1 R n (e 0) (e 1) (e 2) (e 3) (e 9) (e 10) :=
  iterL_join (den Pg R (cd Try.f90 [1,1,0,0,0])) (inB 0 (setN (kont Pg R Try.f90) (fun e => F90_j1 R (e 0) (e 1) (e 3) (e 9) (e 10)))) (fun n e => F90_l1 R n (e 0) (e 1) (e 2) (e 3) (e 9) (e 10)) (fun _ => rfl) (fun n e => (F90_b1_ok R (F90_l1 R n) e).trans (F90_l1_succ R n (e 0) (e 1) (e 2) (e 3) (e 9) (e 10)).symm)
def F90_j4 (R : ER) (x0 x1 x2 x3 x9 x10 : Value) : WP :=
  exN fun n => F90_l1 R n x0 x1 x2 x3 x9 x10
theorem F90_j4_ok (R : ER) (e : Env) : den Pg R (cd Try.f90 [1,1,0]) e (setN (kont Pg R Try.f90) (fun e => F90_j1 R (e 0) (e 1) (e 3) (e 9) (e 10))) = (F90_j4 R (e 0) (e 1) (e 2) (e 3) (e 9) (e 10)) := (den_block Pg R (cd Try.f90 [1,1,0]) 0 (cd Try.f90 [1,1,0,0]) e (setN (kont Pg R Try.f90) (fun e => F90_j1 R (e 0) (e 1) (e 3) (e 9) (e 10))) _ (by kernel_rfl) (den_loop Pg R (cd Try.f90 [1,1,0,0]) (cd Try.f90 [1,1,0,0,0]) e (inB 0 (setN (kont Pg R Try.f90) (fun e => F90_j1 R (e 0) (e 1) (e 3) (e 9) (e 10)))) (fun n e => F90_l1 R n (e 0) (e 1) (e 2) (e 3) (e 9) (e 10)) _ (by kernel_rfl) (F90_l1_ok R) (by kernel_rfl)))
def F90 (R : ER) (x0 x1 x2 x3 : Value) : WP :=
  drewV (
  pv (nilO x0) fun v59 =>
  pv (faO 1 v59) fun v60 =>
  ld1 v60 fun v61 =>
  F90_j4 R x0 x1 x2 x3 (.int .i64 0) v61)
theorem F90_den (R : ER) (x0 x1 x2 x3 : Value) : den Pg R (cd Try.f90 []) (argsEnv [x0, x1, x2, x3]) (kont Pg R Try.f90) = F90 R x0 x1 x2 x3 :=
  have h : ∀ e, den Pg R (cd Try.f90 []) e (kont Pg R Try.f90) = F90 R (e 0) (e 1) (e 2) (e 3) := fun e => (den_join Pg R 2 (cd Try.f90 []) (cd Try.f90 [1,1,1]) e (kont Pg R Try.f90) (fun e => F90_j1 R (e 0) (e 1) (e 3) (e 9) (e 10)) _ (by kernel_rfl) (fun e => F90_j1_ok R e) (den_join Pg R 1 (pre 2 (cd Try.f90 [])) (cd Try.f90 [1,1,0]) e (setN (kont Pg R Try.f90) (fun e => F90_j1 R (e 0) (e 1) (e 3) (e 9) (e 10))) (fun e => F90_j4 R (e 0) (e 1) (e 2) (e 3) (e 9) (e 10)) _ (by kernel_rfl) (fun e => F90_j4_ok R e) (by kernel_rfl)))
  h _
theorem F90_calls {R : ER} {x0 x1 x2 x3 : Value} {w : World} (h : F90 R x0 x1 x2 x3 w) : Calls Pg 90 ⟨[x0, x1, x2, x3]⟩ w R :=
  calls_of_den Try.func90 (by kernel_rfl) (by kernel_rfl) (F90_den R x0 x1 x2 x3) h
/-! ### 91: filter_parser_pattern -/
def F91_j4 (R : ER) (x2 x3 : Value) : WP :=
  ldN 3 x3 fun v1 =>
  stN 3 x2 v1 fun _ =>
  ldN 3 x2 fun v2 => R (.returned v2)
theorem F91_j4_ok (R : ER) (e : Env) : den Pg R (cd Try.f91 [1,1,1,1,1,1,1,1,1]) e (kont Pg R Try.f91) = (F91_j4 R (e 2) (e 3)) := by kernel_rfl
def F91_j5 (R : ER) (x0 x2 x3 : Value) : WP :=
  pv (nilO x0) fun v3 =>
  pv (faO 1 v3) fun v4 =>
  ld1 v4 fun v5 =>
  cal Pg R 81 ⟨[x0, v5]⟩ fun v6 =>
  pv (unO .not v6) fun v7 =>
  cnd v7 (
   pv (nilO x0) fun v8 =>
   pv (faO 1 v8) fun v9 =>
   ld1 v9 fun v10 =>
   cal Pg R 66 ⟨[x0, v10]⟩ fun v11 =>
   F91_j4 R x2 x3) (
   F91_j4 R x2 x3)
theorem F91_j5_ok (R : ER) (e : Env) : den Pg R (cd Try.f91 [1,1,1,1,1,1,1,1,0]) e (setN (kont Pg R Try.f91) (fun e => F91_j4 R (e 2) (e 3))) = (F91_j5 R (e 0) (e 2) (e 3)) := (by kernel_rfl)
def F91_j3 (R : ER) (x0 x2 x3 x5 : Value) : WP :=
  cal Pg R 90 ⟨[x0, (.int .i64 0), (.int .i64 32), x5]⟩ fun v12 =>
  pv (faO 1 x3) fun v13 =>
  st1 v13 v12 fun _ =>
  F91_j5 R x0 x2 x3
theorem F91_j3_ok (R : ER) (e : Env) : den Pg R (cd Try.f91 [1,1,1,1,1,1,1]) e (kont Pg R Try.f91) = (F91_j3 R (e 0) (e 2) (e 3) (e 5)) := (den_join Pg R 1 (cd Try.f91 [1,1,1,1,1,1,1]) (cd Try.f91 [1,1,1,1,1,1,1,1,1]) e (kont Pg R Try.f91) (fun e => F91_j4 R (e 2) (e 3)) _ (by kernel_rfl) (fun e => F91_j4_ok R e) (den_join Pg R 0 (pre 1 (cd Try.f91 [1,1,1,1,1,1,1])) (cd Try.f91 [1,1,1,1,1,1,1,1,0]) e (setN (kont Pg R Try.f91) (fun e => F91_j4 R (e 2) (e 3))) (fun e => F91_j5 R (e 0) (e 2) (e 3)) _ (by kernel_rfl) (fun e => F91_j5_ok R e) (by kernel_rfl)))
def F91_j2 (R : ER) (x0 x2 x3 : Value) : WP :=
  cal Pg R 83 ⟨[x0, (.int .u8 47)]⟩ fun v14 =>
  pv (faO 0 x3) fun v15 =>
  ld1 v15 fun v16 =>
  pv (bin .eql v16 (.int .u32 0)) fun v17 =>
  gd v17 true (pv (faO 2 x3)) fun v18 =>
  gd v17 true (ld1 v18) fun v19 =>
  gd v17 true (pv (unO .not v19)) fun v20 =>
  pv (pickO v17 v20 (.bool false)) fun v21 =>
  cnd v21 (
   F91_j3 R x0 x2 x3 (.int .i64 0)) (
   F91_j3 R x0 x2 x3 (.int .i64 (-1)))
theorem F91_j2_ok (R : ER) (e : Env) : den Pg R (cd Try.f91 [1,1,1,1]) e (kont Pg R Try.f91) = (F91_j2 R (e 0) (e 2) (e 3)) := (den_join Pg R 2 (cd Try.f91 [1,1,1,1]) (cd Try.f91 [1,1,1,1,1,1,1]) e (kont Pg R Try.f91) (fun e => F91_j3 R (e 0) (e 2) (e 3) (e 5)) _ (by kernel_rfl) (fun e => F91_j3_ok R e) (by kernel_rfl))
def F91_j9 (R : ER) (k1 : V4) (x0 x2 x3 x21 : Value) : WP :=
  pv (bin .add x21 (.int .i64 1)) fun v22 =>
  k1 x0 x2 x3 v22
theorem F91_j9_ok (R : ER) (k1 : V4) (e : Env) : den Pg R (cd Try.f91 [1,1,1,0,1,0,0,1,1,1]) e (setN (inB 0 (setN (kont Pg R Try.f91) (fun e => F91_j2 R (e 0) (e 2) (e 3)))) (fun e => k1 (e 0) (e 2) (e 3) (e 21))) = (F91_j9 R k1 (e 0) (e 2) (e 3) (e 21)) := by kernel_rfl
def F91_j11 (R : ER) (k1 : V4) (x0 x2 x3 x21 : Value) : WP :=
  drewV (
  pv (faO 0 x3) fun v23 =>
  ld1 v23 fun v24 =>
  pv (bin .shl v24 (.int .u64 8)) fun v25 =>
  mem fun w27 => cal Pg noR 90 ⟨[x0, (.int .i64 0), (.int .i64 255), (.int .i64 (-1))]⟩ fun v26 =>
  rd1 v23 v24 <|
  pv (cvI .u32 v26) fun v28 =>
  pv (bin .or v25 v28) fun v29 =>
  pv (faO 0 x3) fun v30 =>
  mem fun w32 => st1 v30 v29 fun v31 =>
  F91_j9 R k1 x0 x2 x3 x21)
theorem F91_j11_ok (R : ER) (k1 : V4) (e : Env) : den Pg R (cd Try.f91 [1,1,1,0,1,0,0,1,1,0,0,1,1]) e (inB 1 (setN (setN (inB 0 (setN (kont Pg R Try.f91) (fun e => F91_j2 R (e 0) (e 2) (e 3)))) (fun e => k1 (e 0) (e 2) (e 3) (e 21))) (fun e => F91_j9 R k1 (e 0) (e 2) (e 3) (e 21)))) = (F91_j11 R k1 (e 0) (e 2) (e 3) (e 21)) := by kernel_rfl
def F91_j10 (R : ER) (k1 : V4) (x0 x2 x3 x21 : Value) : WP :=
  pv (bin .gtr x21 (.int .i64 0)) fun v33 =>
  cnd v33 (
   cal Pg R 83 ⟨[x0, (.int .u8 46)]⟩ fun v34 =>
   F91_j11 R k1 x0 x2 x3 x21) (
   F91_j11 R k1 x0 x2 x3 x21)
theorem F91_j10_ok (R : ER) (k1 : V4) (e : Env) : den Pg R (cd Try.f91 [1,1,1,0,1,0,0,1,1,0]) e (setN (setN (inB 0 (setN (kont Pg R Try.f91) (fun e => F91_j2 R (e 0) (e 2) (e 3)))) (fun e => k1 (e 0) (e 2) (e 3) (e 21))) (fun e => F91_j9 R k1 (e 0) (e 2) (e 3) (e 21))) = (F91_j10 R k1 (e 0) (e 2) (e 3) (e 21)) := (den_block Pg R (cd Try.f91 [1,1,1,0,1,0,0,1,1,0]) 1 (cd Try.f91 [1,1,1,0,1,0,0,1,1,0,0]) e (setN (setN (inB 0 (setN (kont Pg R Try.f91) (fun e => F91_j2 R (e 0) (e 2) (e 3)))) (fun e => k1 (e 0) (e 2) (e 3) (e 21))) (fun e => F91_j9 R k1 (e 0) (e 2) (e 3) (e 21))) _ (by kernel_rfl) (den_join Pg R 1 (cd Try.f91 [1,1,1,0,1,0,0,1,1,0,0]) (cd Try.f91 [1,1,1,0,1,0,0,1,1,0,0,1,1]) e (inB 1 (setN (setN (inB 0 (setN (kont Pg R Try.f91) (fun e => F91_j2 R (e 0) (e 2) (e 3)))) (fun e => k1 (e 0) (e 2) (e 3) (e 21))) (fun e => F91_j9 R k1 (e 0) (e 2) (e 3) (e 21)))) (fun e => F91_j11 R k1 (e 0) (e 2) (e 3) (e 21)) _ (by kernel_rfl) (fun e => F91_j11_ok R k1 e) (by kernel_rfl)))
def F91_j8 (R : ER) (k1 : V4) (x0 x2 x3 x21 : Value) : WP :=
  F91_j10 R k1 x0 x2 x3 x21
theorem F91_j8_ok (R : ER) (k1 : V4) (e : Env) : den Pg R (cd Try.f91 [1,1,1,0,1,0,0,1,1]) e (setN (inB 0 (setN (kont Pg R Try.f91) (fun e => F91_j2 R (e 0) (e 2) (e 3)))) (fun e => k1 (e 0) (e 2) (e 3) (e 21))) = (F91_j8 R k1 (e 0) (e 2) (e 3) (e 21)) := (den_join Pg R 0 (cd Try.f91 [1,1,1,0,1,0,0,1,1]) (cd Try.f91 [1,1,1,0,1,0,0,1,1,1]) e (setN (inB 0 (setN (kont Pg R Try.f91) (fun e => F91_j2 R (e 0) (e 2) (e 3)))) (fun e => k1 (e 0) (e 2) (e 3) (e 21))) (fun e => F91_j9 R k1 (e 0) (e 2) (e 3) (e 21)) _ (by kernel_rfl) (fun e => F91_j9_ok R k1 e) (den_conv Pg R (pre 0 (cd Try.f91 [1,1,1,0,1,0,0,1,1])) (cd Try.f91 [1,1,1,0,1,0,0,1,1,0]) e (setN (setN (inB 0 (setN (kont Pg R Try.f91) (fun e => F91_j2 R (e 0) (e 2) (e 3)))) (fun e => k1 (e 0) (e 2) (e 3) (e 21))) (fun e => F91_j9 R k1 (e 0) (e 2) (e 3) (e 21))) _ (by kernel_rfl) (F91_j10_ok R k1 e)))
def F91_b1 (R : ER) (k1 : V4) (x0 x2 x3 x21 : Value) : WP :=
  pv (bin .lss x21 (.int .i64 4)) fun v35 =>
  cnd v35 (
   F91_j8 R k1 x0 x2 x3 x21) (
   F91_j2 R x0 x2 x3)
theorem F91_b1_ok (R : ER) (k1 : V4) (e : Env) : den Pg R (cd Try.f91 [1,1,1,0,1,0,0]) e (setN (inB 0 (setN (kont Pg R Try.f91) (fun e => F91_j2 R (e 0) (e 2) (e 3)))) (fun e => k1 (e 0) (e 2) (e 3) (e 21))) = (F91_b1 R k1 (e 0) (e 2) (e 3) (e 21)) := (den_join Pg R 1 (cd Try.f91 [1,1,1,0,1,0,0]) (cd Try.f91 [1,1,1,0,1,0,0,1,1]) e (setN (inB 0 (setN (kont Pg R Try.f91) (fun e => F91_j2 R (e 0) (e 2) (e 3)))) (fun e => k1 (e 0) (e 2) (e 3) (e 21))) (fun e => F91_j8 R k1 (e 0) (e 2) (e 3) (e 21)) _ (by kernel_rfl) (fun e => F91_j8_ok R k1 e) (by kernel_rfl))
noncomputable def F91_l1 (R : ER) (n : Nat) : V4 := Nat.rec (motive := fun _ => V4) (fun _ _ _ _ => fun _ => False) (fun _ ih => fun x0 x2 x3 x21 => F91_b1 R ih x0 x2 x3 x21) n
theorem F91_l1_succ (R : ER) (n : Nat) (x0 x2 x3 x21 : Value) : F91_l1 R (n + 1) x0 x2 x3 x21 = F91_b1 R (F91_l1 R n) x0 x2 x3 x21 := rfl
theorem F91_l1_ok (R : ER) : ∀ (n : Nat) (e : Env), iterL (den Pg R (cd Try.f91 [1,1,1,0,1,0,0])) n e (inB 0 (setN (kont Pg R Try.f91) (fun e => F91_j2 R (e 0) (e 2) (e 3)))) = F91_l1 R n (e 0) (e 2) (e 3) (e 21) :=
  iterL_join (den Pg R (cd Try.f91 [1,1,1,0,1,0,0])) (inB 0 (setN (kont Pg R Try.f91) (fun e => F91_j2 R (e 0) (e 2) (e 3)))) (fun n e => F91_l1 R n (e 0) (e 2) (e 3) (e 21)) (fun _ => rfl) (fun n e => (F91_b1_ok R (F91_l1 R n) e).trans (F91_l1_succ R n (e 0) (e 2) (e 3) (e 21)).symm)
def F91_j7 (R : ER) (x0 x2 x3 x21 : Value) : WP :=
  exN fun n => F91_l1 R n x0 x2 x3 x21
theorem F91_j7_ok (R : ER) (e : Env) : den Pg R (cd Try.f91 [1,1,1,0,1]) e (setN (kont Pg R Try.f91) (fun e => F91_j2 R (e 0) (e 2) (e 3))) = (F91_j7 R (e 0) (e 2) (e 3) (e 21)) := (den_block Pg R (cd Try.f91 [1,1,1,0,1]) 0 (cd Try.f91 [1,1,1,0,1,0]) e (setN (kont Pg R Try.f91) (fun e => F91_j2 R (e 0) (e 2) (e 3))) _ (by kernel_rfl) (den_loop Pg R (cd Try.f91 [1,1,1,0,1,0]) (cd Try.f91 [1,1,1,0,1,0,0]) e (inB 0 (setN (kont Pg R Try.f91) (fun e => F91_j2 R (e 0) (e 2) (e 3)))) (fun n e => F91_l1 R n (e 0) (e 2) (e 3) (e 21)) _ (by kernel_rfl) (F91_l1_ok R) (by kernel_rfl)))
def F91_j6 (R : ER) (x0 x2 x3 : Value) : WP :=
  F91_j7 R x0 x2 x3 (.int .i64 0)
theorem F91_j6_ok (R : ER) (e : Env) : den Pg R (cd Try.f91 [1,1,1,0]) e (setN (kont Pg R Try.f91) (fun e => F91_j2 R (e 0) (e 2) (e 3))) = (F91_j6 R (e 0) (e 2) (e 3)) := (den_join Pg R 0 (cd Try.f91 [1,1,1,0]) (cd Try.f91 [1,1,1,0,1]) e (setN (kont Pg R Try.f91) (fun e => F91_j2 R (e 0) (e 2) (e 3))) (fun e => F91_j7 R (e 0) (e 2) (e 3) (e 21)) _ (by kernel_rfl) (fun e => F91_j7_ok R e) (by kernel_rfl))
def F91_j1 (R : ER) (x0 x2 x3 : Value) : WP :=
  F91_j6 R x0 x2 x3
theorem F91_j1_ok (R : ER) (e : Env) : den Pg R (cd Try.f91 [1,1,1]) e (kont Pg R Try.f91) = (F91_j1 R (e 0) (e 2) (e 3)) := (den_join Pg R 0 (cd Try.f91 [1,1,1]) (cd Try.f91 [1,1,1,1]) e (kont Pg R Try.f91) (fun e => F91_j2 R (e 0) (e 2) (e 3)) _ (by kernel_rfl) (fun e => F91_j2_ok R e) (den_conv Pg R (pre 0 (cd Try.f91 [1,1,1])) (cd Try.f91 [1,1,1,0]) e (setN (kont Pg R Try.f91) (fun e => F91_j2 R (e 0) (e 2) (e 3))) _ (by kernel_rfl) (F91_j6_ok R e)))
def F91_j12 (R : ER) (x0 x2 x3 : Value) : WP :=
  pv (nilO x0) fun v36 =>
  pv (faO 1 v36) fun v37 =>
  ld1 v37 fun v38 =>
  cal Pg R 82 ⟨[x0, v38]⟩ fun v39 =>
  pv (bin .eql v39 (.int .u8 33)) fun v40 =>
  cnd v40 (
   pv (faO 2 x3) fun v41 =>
   st1 v41 (.bool true) fun _ =>
   pv (nilO x0) fun v42 =>
   pv (faO 1 v42) fun v43 =>
   ld1 v43 fun v44 =>
   pv (bin .add v44 (.int .i64 1)) fun v45 =>
   pv (nilO x0) fun v46 =>
   pv (faO 1 v46) fun v47 =>
   st1 v47 v45 fun _ =>
   F91_j1 R x0 x2 x3) (
   F91_j1 R x0 x2 x3)
theorem F91_j12_ok (R : ER) (e : Env) : den Pg R (cd Try.f91 [1,1,0]) e (setN (kont Pg R Try.f91) (fun e => F91_j1 R (e 0) (e 2) (e 3))) = (F91_j12 R (e 0) (e 2) (e 3)) := (by kernel_rfl)
def F91 (R : ER) (x0 : Value) : WP :=
  al Pg 25 fun v48 =>
  al Pg 25 fun v49 =>
  F91_j12 R x0 v48 v49
theorem F91_den (R : ER) (x0 : Value) : den Pg R (cd Try.f91 []) (argsEnv [x0]) (kont Pg R Try.f91) = F91 R x0 :=
  have h : ∀ e, den Pg R (cd Try.f91 []) e (kont Pg R Try.f91) = F91 R (e 0) := fun e => (den_join Pg R 2 (cd Try.f91 []) (cd Try.f91 [1,1,1]) e (kont Pg R Try.f91) (fun e => F91_j1 R (e 0) (e 2) (e 3)) _ (by kernel_rfl) (fun e => F91_j1_ok R e) (den_join Pg R 1 (pre 2 (cd Try.f91 [])) (cd Try.f91 [1,1,0]) e (setN (kont Pg R Try.f91) (fun e => F91_j1 R (e 0) (e 2) (e 3))) (fun e => F91_j12 R (e 0) (e 2) (e 3)) _ (by kernel_rfl) (fun e => F91_j12_ok R e) (by kernel_rfl)))
  h _
theorem F91_calls {R : ER} {x0 : Value} {w : World} (h : F91 R x0 w) : Calls Pg 91 ⟨[x0]⟩ w R :=
  calls_of_den Try.func91 (by kernel_rfl) (by kernel_rfl) (F91_den R x0) h
/-! ### 92: filter_parser_ports -/
def F92_j2 (R : ER) (x2 x5 : Value) : WP :=
  ldN 2 x5 fun v1 =>
  stN 2 x2 v1 fun _ =>
  ldN 2 x2 fun v2 => R (.returned v2)
theorem F92_j2_ok (R : ER) (e : Env) : den Pg R (cd Try.f92 [1,1,1,1,1,1,1,1]) e (kont Pg R Try.f92) = (F92_j2 R (e 2) (e 5)) := by kernel_rfl
def F92_j3 (R : ER) (x0 x2 x5 : Value) : WP :=
  pv (nilO x0) fun v3 =>
  pv (faO 1 v3) fun v4 =>
  ld1 v4 fun v5 =>
  cal Pg R 81 ⟨[x0, v5]⟩ fun v6 =>
  pv (unO .not v6) fun v7 =>
  cnd v7 (
   pv (nilO x0) fun v8 =>
   pv (faO 1 v8) fun v9 =>
   ld1 v9 fun v10 =>
   cal Pg R 66 ⟨[x0, v10]⟩ fun v11 =>
   F92_j2 R x2 x5) (
   F92_j2 R x2 x5)
theorem F92_j3_ok (R : ER) (e : Env) : den Pg R (cd Try.f92 [1,1,1,1,1,1,1,0]) e (setN (kont Pg R Try.f92) (fun e => F92_j2 R (e 2) (e 5))) = (F92_j3 R (e 0) (e 2) (e 5)) := (by kernel_rfl)
def F92_j1 (R : ER) (x0 x2 x3 x4 : Value) : WP :=
  cal Pg R 90 ⟨[x0, x3, (.int .i64 65535), x4]⟩ fun v12 =>
  pv (bldO [.int .i64 0, .int .i64 0] [(0,1, x3), (1,1, v12)]) fun v13 =>
  al Pg 27 fun v14 =>
  stN 2 v14 v13 fun _ =>
  F92_j3 R x0 x2 v14
theorem F92_j1_ok (R : ER) (e : Env) : den Pg R (cd Try.f92 [1,1,1,1,1,1]) e (kont Pg R Try.f92) = (F92_j1 R (e 0) (e 2) (e 3) (e 4)) := (den_join Pg R 1 (cd Try.f92 [1,1,1,1,1,1]) (cd Try.f92 [1,1,1,1,1,1,1,1]) e (kont Pg R Try.f92) (fun e => F92_j2 R (e 2) (e 5)) _ (by kernel_rfl) (fun e => F92_j2_ok R e) (den_join Pg R 0 (pre 1 (cd Try.f92 [1,1,1,1,1,1])) (cd Try.f92 [1,1,1,1,1,1,1,0]) e (setN (kont Pg R Try.f92) (fun e => F92_j2 R (e 2) (e 5))) (fun e => F92_j3 R (e 0) (e 2) (e 5)) _ (by kernel_rfl) (fun e => F92_j3_ok R e) (by kernel_rfl)))
def F92 (R : ER) (x0 : Value) : WP :=
  al Pg 27 fun v15 =>
  cal Pg R 83 ⟨[x0, (.int .u8 32)]⟩ fun v16 =>
  cal Pg R 90 ⟨[x0, (.int .i64 0), (.int .i64 65535), (.int .i64 (-1))]⟩ fun v17 =>
  cal Pg R 83 ⟨[x0, (.int .u8 58)]⟩ fun v18 =>
  pv (bin .eql v17 (.int .i64 0)) fun v19 =>
  cnd v19 (
   F92_j1 R x0 v15 v17 (.int .i64 65535)) (
   F92_j1 R x0 v15 v17 (.int .i64 (-1)))
theorem F92_den (R : ER) (x0 : Value) : den Pg R (cd Try.f92 []) (argsEnv [x0]) (kont Pg R Try.f92) = F92 R x0 :=
  have h : ∀ e, den Pg R (cd Try.f92 []) e (kont Pg R Try.f92) = F92 R (e 0) := fun e => (den_join Pg R 5 (cd Try.f92 []) (cd Try.f92 [1,1,1,1,1,1]) e (kont Pg R Try.f92) (fun e => F92_j1 R (e 0) (e 2) (e 3) (e 4)) _ (by kernel_rfl) (fun e => F92_j1_ok R e) (by kernel_rfl))
  h _
theorem F92_calls {R : ER} {x0 : Value} {w : World} (h : F92 R x0 w) : Calls Pg 92 ⟨[x0]⟩ w R :=
  calls_of_den Try.func92 (by kernel_rfl) (by kernel_rfl) (F92_den R x0) h
/-! ### 103: filter_goesOn -/
def F103_j2 (R : ER) : WP :=
  R (.returned (.bool false))
theorem F103_j2_ok (R : ER) (e : Env) : den Pg R (cd Try.f103 [1,1,1]) e (kont Pg R Try.f103) = (F103_j2 R) := by kernel_rfl
def F103_j5 (R : ER) (k1 : V5) (x0 x1 x2 x3 x9 : Value) : WP :=
  pv (bin .mul x0 x9) fun v1 =>
  pv (max2I x1 v1) fun v2 =>
  pv (bin .mul x0 x9) fun v3 =>
  pv (bin .add v3 x9) fun v4 =>
  pv (bin .sub v4 (.int .i64 1)) fun v5 =>
  pv (min2I x2 v5) fun v6 =>
  pv (bin .lss v2 v6) fun v7 =>
  gd v7 false (pv (some v2)) fun v8 =>
  gd v7 false (pv (some v6)) fun v9 =>
  gd v7 false (pv (bin .eql v8 v9)) fun v10 =>
  gd v7 false (pv (some v10)) fun v11 =>
  gd v11 true (pv (some v2)) fun v12 =>
  gd v11 true (pv (some x3)) fun v13 =>
  gd v11 true (pv (bin .neq v12 v13)) fun v14 =>
  gd v7 false (pv (pickO v11 v14 (.bool false))) fun v15 =>
  pv (pickO v7 (.bool true) v15) fun v16 =>
  cnd v16 (
   R (.returned (.bool true))) (
   pv (bin .mul x9 (.int .i64 10)) fun v17 =>
  k1 x0 x1 x2 x3 v17)
theorem F103_j5_ok (R : ER) (k1 : V5) (e : Env) : den Pg R (cd Try.f103 [1,1,0,1,0,0,1]) e (setN (inB 0 (setN (kont Pg R Try.f103) (fun e => F103_j2 R))) (fun e => k1 (e 0) (e 1) (e 2) (e 3) (e 9))) = (F103_j5 R k1 (e 0) (e 1) (e 2) (e 3) (e 9)) := (by kernel_rfl)
def F103_b1 (R : ER) (k1 : V5) (x0 x1 x2 x3 x9 : Value) : WP :=
  pv (bin .mul x0 x9) fun v18 =>
  pv (bin .leq v18 x2) fun v19 =>
  cnd v19 (
   F103_j5 R k1 x0 x1 x2 x3 x9) (
   F103_j2 R)
theorem F103_b1_ok (R : ER) (k1 : V5) (e : Env) : den Pg R (cd Try.f103 [1,1,0,1,0,0]) e (setN (inB 0 (setN (kont Pg R Try.f103) (fun e => F103_j2 R))) (fun e => k1 (e 0) (e 1) (e 2) (e 3) (e 9))) = (F103_b1 R k1 (e 0) (e 1) (e 2) (e 3) (e 9)) := (den_join Pg R 0 (cd Try.f103 [1,1,0,1,0,0]) (cd Try.f103 [1,1,0,1,0,0,1]) e (setN (inB 0 (setN (kont Pg R Try.f103) (fun e => F103_j2 R))) (fun e => k1 (e 0) (e 1) (e 2) (e 3) (e 9))) (fun e => F103_j5 R k1 (e 0) (e 1) (e 2) (e 3) (e 9)) _ (by kernel_rfl) (fun e => F103_j5_ok R k1 e) (by kernel_rfl))
noncomputable def F103_l1 (R : ER) (n : Nat) : V5 := Nat.rec (motive := fun _ => V5) (fun _ _ _ _ _ => fun _ => False) (fun _ ih => fun x0 x1 x2 x3 x9 => F103_b1 R ih x0 x1 x2 x3 x9) n
theorem F103_l1_succ (R : ER) (n : Nat) (x0 x1 x2 x3 x9 : Value) : F103_l1 R (n + 1) x0 x1 x2 x3 x9 = F103_b1 R (F103_l1 R n) x0 x1 x2 x3 x9 := rfl
theorem F103_l1_ok (R : ER) : ∀ (n : Nat) (e : Env), iterL (den Pg R (cd Try.f103 [1,1,0,1,0,0])) n e (inB 0 (setN (kont Pg R Try.f103) (fun e => F103_j2 R))) = F103_l1 R n (e 0) (e 1) (e 2) (e 3) (e 9) :=
  iterL_join (den Pg R (cd Try.f103 [1,1,0,1,0,0])) (inB 0 (setN (kont Pg R Try.f103) (fun e => F103_j2 R))) (fun n e => F103_l1 R n (e 0) (e 1) (e 2) (e 3) (e 9)) (fun _ => rfl) (fun n e => (F103_b1_ok R (F103_l1 R n) e).trans (F103_l1_succ R n (e 0) (e 1) (e 2) (e 3) (e 9)).symm)
def F103_j4 (R : ER) (x0 x1 x2 x3 x9 : Value) : WP :=
  exN fun n => F103_l1 R n x0 x1 x2 x3 x9
theorem F103_j4_ok (R : ER) (e : Env) : den Pg R (cd Try.f103 [1,1,0,1]) e (setN (kont Pg R Try.f103) (fun e => F103_j2 R)) = (F103_j4 R (e 0) (e 1) (e 2) (e 3) (e 9)) := (den_block Pg R (cd Try.f103 [1,1,0,1]) 0 (cd Try.f103 [1,1,0,1,0]) e (setN (kont Pg R Try.f103) (fun e => F103_j2 R)) _ (by kernel_rfl) (den_loop Pg R (cd Try.f103 [1,1,0,1,0]) (cd Try.f103 [1,1,0,1,0,0]) e (inB 0 (setN (kont Pg R Try.f103) (fun e => F103_j2 R))) (fun n e => F103_l1 R n (e 0) (e 1) (e 2) (e 3) (e 9)) _ (by kernel_rfl) (F103_l1_ok R) (by kernel_rfl)))
def F103_j3 (R : ER) (x0 x1 x2 x3 : Value) : WP :=
  F103_j4 R x0 x1 x2 x3 (.int .i64 1)
theorem F103_j3_ok (R : ER) (e : Env) : den Pg R (cd Try.f103 [1,1,0]) e (setN (kont Pg R Try.f103) (fun e => F103_j2 R)) = (F103_j3 R (e 0) (e 1) (e 2) (e 3)) := (den_join Pg R 0 (cd Try.f103 [1,1,0]) (cd Try.f103 [1,1,0,1]) e (setN (kont Pg R Try.f103) (fun e => F103_j2 R)) (fun e => F103_j4 R (e 0) (e 1) (e 2) (e 3) (e 9)) _ (by kernel_rfl) (fun e => F103_j4_ok R e) (by kernel_rfl))
def F103_j1 (R : ER) (x0 x1 x2 x3 : Value) : WP :=
  F103_j3 R x0 x1 x2 x3
theorem F103_j1_ok (R : ER) (e : Env) : den Pg R (cd Try.f103 [1,1]) e (kont Pg R Try.f103) = (F103_j1 R (e 0) (e 1) (e 2) (e 3)) := (den_join Pg R 0 (cd Try.f103 [1,1]) (cd Try.f103 [1,1,1]) e (kont Pg R Try.f103) (fun e => F103_j2 R) _ (by kernel_rfl) (fun e => F103_j2_ok R e) (den_conv Pg R (pre 0 (cd Try.f103 [1,1])) (cd Try.f103 [1,1,0]) e (setN (kont Pg R Try.f103) (fun e => F103_j2 R)) _ (by kernel_rfl) (F103_j3_ok R e)))
def F103 (R : ER) (x0 x1 x2 x3 : Value) : WP :=
  pv (bin .eql x0 (.int .i64 0)) fun v20 =>
  cnd v20 (
   pv (bin .leq x1 (.int .i64 0)) fun v21 =>
   gd v21 true (pv (some x3)) fun v22 =>
   gd v21 true (pv (bin .neq v22 (.int .i64 0))) fun v23 =>
   pv (pickO v21 v23 (.bool false)) fun v24 =>
   R (.returned v24)) (
   F103_j1 R x0 x1 x2 x3)
theorem F103_den (R : ER) (x0 x1 x2 x3 : Value) : den Pg R (cd Try.f103 []) (argsEnv [x0, x1, x2, x3]) (kont Pg R Try.f103) = F103 R x0 x1 x2 x3 :=
  have h : ∀ e, den Pg R (cd Try.f103 []) e (kont Pg R Try.f103) = F103 R (e 0) (e 1) (e 2) (e 3) := fun e => (den_join Pg R 1 (cd Try.f103 []) (cd Try.f103 [1,1]) e (kont Pg R Try.f103) (fun e => F103_j1 R (e 0) (e 1) (e 2) (e 3)) _ (by kernel_rfl) (fun e => F103_j1_ok R e) (by kernel_rfl))
  h _
theorem F103_calls {R : ER} {x0 x1 x2 x3 : Value} {w : World} (h : F103 R x0 x1 x2 x3 w) : Calls Pg 103 ⟨[x0, x1, x2, x3]⟩ w R :=
  calls_of_den Try.func103 (by kernel_rfl) (by kernel_rfl) (F103_den R x0 x1 x2 x3) h
end Go.Proofs.Ytmmbepdghpjgeaa.Den
end
