/- Printed by a program of this session: what the functions mean, and that the model means just that. Conditions: none. -/
import Derived.Test.YtmkcjopacmadhaaDenRange
set_option linter.unusedVariables false
set_option maxRecDepth 100000
namespace Go.Proofs.Ytmkcjopacmadhaa.Den
open Go
/-! ### 3: orpimentlaw11_ChannelsSorted -/
def F3_j3 (R : ER) : WP :=
  cal Pg R 6 ⟨[]⟩ fun v1 =>
  R (.returned v1)
theorem F3_j3_ok (R : ER) (e : Env) : den Pg R (cd Try.f3 [1,1,1,1,1,1,1]) e (kont Pg R Try.f3) = (F3_j3 R) := by kernel_rfl
def F3_j7 (R : ER) (k1 : V4) (x0 x3 x4 x12 : Value) : WP :=
  pv (bin .sub x12 (.int .i64 1)) fun v2 =>
  k1 x0 x3 x4 v2
theorem F3_j7_ok (R : ER) (k1 : V4) (e : Env) : den Pg R (cd Try.f3 [1,1,1,1,1,1,0,1,0,0,1,1]) e (setN (inB 2 (setN (kont Pg R Try.f3) (fun e => F3_j3 R))) (fun e => k1 (e 0) (e 3) (e 4) (e 12))) = (F3_j7 R k1 (e 0) (e 3) (e 4) (e 12)) := by kernel_rfl
def F3_j11 (R : ER) (k1 : V4) (k2 : V7) (x0 x3 x4 x12 x60 x61 x62 : Value) : WP :=
  pv (bin .add x62 (.int .i64 1)) fun v3 =>
  k2 x0 x3 x4 x12 x60 x61 v3
theorem F3_j11_ok (R : ER) (k1 : V4) (k2 : V7) (e : Env) : den Pg R (cd Try.f3 [1,1,1,1,1,1,0,1,0,0,1,0,0,1,0,0,1,1,1]) e (setN (inB 4 (inB 3 (setN (setN (inB 2 (setN (kont Pg R Try.f3) (fun e => F3_j3 R))) (fun e => k1 (e 0) (e 3) (e 4) (e 12))) (fun e => F3_j7 R k1 (e 0) (e 3) (e 4) (e 12))))) (fun e => k2 (e 0) (e 3) (e 4) (e 12) (e 60) (e 61) (e 62))) = (F3_j11 R k1 k2 (e 0) (e 3) (e 4) (e 12) (e 60) (e 61) (e 62)) := by kernel_rfl
def F3_j13 (R : ER) (k1 : V4) (k2 : V7) (x0 x3 x4 x12 x13 x60 x61 x62 : Value) : WP :=
  cal Pg R 11 ⟨[x3, (.int .i64 100), (.int .i64 0), x4, (.int .i64 0), (.int .i64 10)]⟩ fun v4 =>
  pv (extO 0 v4) fun v5 =>
  pv (extO 1 v4) fun v6 =>
  pv (extO 2 v4) fun v7 =>
  al Pg 34 fun v8 =>
  stN 10 v8 v5 fun _ =>
  pv (bin .neq v7 (.int .i64 0)) fun v9 =>
  gd v9 false (pv (some v6)) fun v10 =>
  pv (pickO v9 (.bool true) v10) fun v11 =>
  gd v11 false (pv (faO 1 v8)) fun v12 =>
  gd v11 false (ld1 v12) fun v13 =>
  gd v11 false (pv (some x13)) fun v14 =>
  gd v11 false (pv (bin .neq v13 v14)) fun v15 =>
  pv (pickO v11 (.bool true) v15) fun v16 =>
  gd v16 false (pv (faO 4 v8)) fun v17 =>
  gd v16 false (ld1 v17) fun v18 =>
  gd v16 false (pv (some x12)) fun v19 =>
  gd v16 false (pv (bin .neq v18 v19)) fun v20 =>
  pv (pickO v16 (.bool true) v20) fun v21 =>
  gd v21 false (pv (faO 7 v8)) fun v22 =>
  gd v21 false (ld1 v22) fun v23 =>
  gd v21 false (pv (some x13)) fun v24 =>
  gd v21 false (pv (cvI .u8 v24)) fun v25 =>
  gd v21 false (valV Pg R (Instr.buildSlice 22 1 ⟨[(0, v25)]⟩)) fun v26 =>
  gd v21 false (cal Pg R 12 ⟨[v23, v26]⟩) fun v27 =>
  gd v21 false (pv (unO .not v27)) fun v28 =>
  pv (pickO v21 (.bool true) v28) fun v29 =>
  cnd v29 (
   R (.returned (.bool false))) (
   F3_j11 R k1 k2 x0 x3 x4 x12 x60 x61 x62)
theorem F3_j13_ok (R : ER) (k1 : V4) (k2 : V7) (e : Env) : den Pg R (cd Try.f3 [1,1,1,1,1,1,0,1,0,0,1,0,0,1,0,0,1,1,0,0,1,1]) e (inB 5 (setN (setN (inB 4 (inB 3 (setN (setN (inB 2 (setN (kont Pg R Try.f3) (fun e => F3_j3 R))) (fun e => k1 (e 0) (e 3) (e 4) (e 12))) (fun e => F3_j7 R k1 (e 0) (e 3) (e 4) (e 12))))) (fun e => k2 (e 0) (e 3) (e 4) (e 12) (e 60) (e 61) (e 62))) (fun e => F3_j11 R k1 k2 (e 0) (e 3) (e 4) (e 12) (e 60) (e 61) (e 62)))) = (F3_j13 R k1 k2 (e 0) (e 3) (e 4) (e 12) (e 13) (e 60) (e 61) (e 62)) := (by kernel_rfl)
def F3_j12 (R : ER) (k1 : V4) (k2 : V7) (x0 x3 x4 x12 x60 x61 x62 : Value) : WP :=
  pv (ixS 1 x60 x62) fun v30 =>
  ld1 v30 fun v31 =>
  pv (cvI .i64 v31) fun v32 =>
  pv (bin .neq v32 x12) fun v33 =>
  cnd v33 (
   F3_j11 R k1 k2 x0 x3 x4 x12 x60 x61 x62) (
   F3_j13 R k1 k2 x0 x3 x4 x12 x62 x60 x61 x62)
theorem F3_j12_ok (R : ER) (k1 : V4) (k2 : V7) (e : Env) : den Pg R (cd Try.f3 [1,1,1,1,1,1,0,1,0,0,1,0,0,1,0,0,1,1,0]) e (setN (setN (inB 4 (inB 3 (setN (setN (inB 2 (setN (kont Pg R Try.f3) (fun e => F3_j3 R))) (fun e => k1 (e 0) (e 3) (e 4) (e 12))) (fun e => F3_j7 R k1 (e 0) (e 3) (e 4) (e 12))))) (fun e => k2 (e 0) (e 3) (e 4) (e 12) (e 60) (e 61) (e 62))) (fun e => F3_j11 R k1 k2 (e 0) (e 3) (e 4) (e 12) (e 60) (e 61) (e 62))) = (F3_j12 R k1 k2 (e 0) (e 3) (e 4) (e 12) (e 60) (e 61) (e 62)) := (den_block Pg R (cd Try.f3 [1,1,1,1,1,1,0,1,0,0,1,0,0,1,0,0,1,1,0]) 5 (cd Try.f3 [1,1,1,1,1,1,0,1,0,0,1,0,0,1,0,0,1,1,0,0]) e (setN (setN (inB 4 (inB 3 (setN (setN (inB 2 (setN (kont Pg R Try.f3) (fun e => F3_j3 R))) (fun e => k1 (e 0) (e 3) (e 4) (e 12))) (fun e => F3_j7 R k1 (e 0) (e 3) (e 4) (e 12))))) (fun e => k2 (e 0) (e 3) (e 4) (e 12) (e 60) (e 61) (e 62))) (fun e => F3_j11 R k1 k2 (e 0) (e 3) (e 4) (e 12) (e 60) (e 61) (e 62))) _ (by kernel_rfl) (den_join Pg R 1 (cd Try.f3 [1,1,1,1,1,1,0,1,0,0,1,0,0,1,0,0,1,1,0,0]) (cd Try.f3 [1,1,1,1,1,1,0,1,0,0,1,0,0,1,0,0,1,1,0,0,1,1]) e (inB 5 (setN (setN (inB 4 (inB 3 (setN (setN (inB 2 (setN (kont Pg R Try.f3) (fun e => F3_j3 R))) (fun e => k1 (e 0) (e 3) (e 4) (e 12))) (fun e => F3_j7 R k1 (e 0) (e 3) (e 4) (e 12))))) (fun e => k2 (e 0) (e 3) (e 4) (e 12) (e 60) (e 61) (e 62))) (fun e => F3_j11 R k1 k2 (e 0) (e 3) (e 4) (e 12) (e 60) (e 61) (e 62)))) (fun e => F3_j13 R k1 k2 (e 0) (e 3) (e 4) (e 12) (e 13) (e 60) (e 61) (e 62)) _ (by kernel_rfl) (fun e => F3_j13_ok R k1 k2 e) (by kernel_rfl)))
def F3_j10 (R : ER) (k1 : V4) (k2 : V7) (x0 x3 x4 x12 x60 x61 x62 : Value) : WP :=
  F3_j12 R k1 k2 x0 x3 x4 x12 x60 x61 x62
theorem F3_j10_ok (R : ER) (k1 : V4) (k2 : V7) (e : Env) : den Pg R (cd Try.f3 [1,1,1,1,1,1,0,1,0,0,1,0,0,1,0,0,1,1]) e (setN (inB 4 (inB 3 (setN (setN (inB 2 (setN (kont Pg R Try.f3) (fun e => F3_j3 R))) (fun e => k1 (e 0) (e 3) (e 4) (e 12))) (fun e => F3_j7 R k1 (e 0) (e 3) (e 4) (e 12))))) (fun e => k2 (e 0) (e 3) (e 4) (e 12) (e 60) (e 61) (e 62))) = (F3_j10 R k1 k2 (e 0) (e 3) (e 4) (e 12) (e 60) (e 61) (e 62)) := (den_join Pg R 0 (cd Try.f3 [1,1,1,1,1,1,0,1,0,0,1,0,0,1,0,0,1,1]) (cd Try.f3 [1,1,1,1,1,1,0,1,0,0,1,0,0,1,0,0,1,1,1]) e (setN (inB 4 (inB 3 (setN (setN (inB 2 (setN (kont Pg R Try.f3) (fun e => F3_j3 R))) (fun e => k1 (e 0) (e 3) (e 4) (e 12))) (fun e => F3_j7 R k1 (e 0) (e 3) (e 4) (e 12))))) (fun e => k2 (e 0) (e 3) (e 4) (e 12) (e 60) (e 61) (e 62))) (fun e => F3_j11 R k1 k2 (e 0) (e 3) (e 4) (e 12) (e 60) (e 61) (e 62)) _ (by kernel_rfl) (fun e => F3_j11_ok R k1 k2 e) (den_conv Pg R (pre 0 (cd Try.f3 [1,1,1,1,1,1,0,1,0,0,1,0,0,1,0,0,1,1])) (cd Try.f3 [1,1,1,1,1,1,0,1,0,0,1,0,0,1,0,0,1,1,0]) e (setN (setN (inB 4 (inB 3 (setN (setN (inB 2 (setN (kont Pg R Try.f3) (fun e => F3_j3 R))) (fun e => k1 (e 0) (e 3) (e 4) (e 12))) (fun e => F3_j7 R k1 (e 0) (e 3) (e 4) (e 12))))) (fun e => k2 (e 0) (e 3) (e 4) (e 12) (e 60) (e 61) (e 62))) (fun e => F3_j11 R k1 k2 (e 0) (e 3) (e 4) (e 12) (e 60) (e 61) (e 62))) _ (by kernel_rfl) (F3_j12_ok R k1 k2 e)))
def F3_b2 (R : ER) (k1 : V4) (k2 : V7) (x0 x3 x4 x12 x60 x61 x62 : Value) : WP :=
  pv (bin .lss x62 x61) fun v34 =>
  cnd v34 (
   F3_j10 R k1 k2 x0 x3 x4 x12 x60 x61 x62) (
   F3_j7 R k1 x0 x3 x4 x12)
theorem F3_b2_ok (R : ER) (k1 : V4) (k2 : V7) (e : Env) : den Pg R (cd Try.f3 [1,1,1,1,1,1,0,1,0,0,1,0,0,1,0,0]) e (setN (inB 4 (inB 3 (setN (setN (inB 2 (setN (kont Pg R Try.f3) (fun e => F3_j3 R))) (fun e => k1 (e 0) (e 3) (e 4) (e 12))) (fun e => F3_j7 R k1 (e 0) (e 3) (e 4) (e 12))))) (fun e => k2 (e 0) (e 3) (e 4) (e 12) (e 60) (e 61) (e 62))) = (F3_b2 R k1 k2 (e 0) (e 3) (e 4) (e 12) (e 60) (e 61) (e 62)) := (den_join Pg R 1 (cd Try.f3 [1,1,1,1,1,1,0,1,0,0,1,0,0,1,0,0]) (cd Try.f3 [1,1,1,1,1,1,0,1,0,0,1,0,0,1,0,0,1,1]) e (setN (inB 4 (inB 3 (setN (setN (inB 2 (setN (kont Pg R Try.f3) (fun e => F3_j3 R))) (fun e => k1 (e 0) (e 3) (e 4) (e 12))) (fun e => F3_j7 R k1 (e 0) (e 3) (e 4) (e 12))))) (fun e => k2 (e 0) (e 3) (e 4) (e 12) (e 60) (e 61) (e 62))) (fun e => F3_j10 R k1 k2 (e 0) (e 3) (e 4) (e 12) (e 60) (e 61) (e 62)) _ (by kernel_rfl) (fun e => F3_j10_ok R k1 k2 e) (by kernel_rfl))
noncomputable def F3_l1 (R : ER) (k1 : V4) (n : Nat) : V7 := Nat.rec (motive := fun _ => V7) (fun _ _ _ _ _ _ _ => fun _ => False) (fun _ ih => fun x0 x3 x4 x12 x60 x61 x62 => F3_b2 R k1 ih x0 x3 x4 x12 x60 x61 x62) n
theorem F3_l1_succ (R : ER) (k1 : V4) (n : Nat) (x0 x3 x4 x12 x60 x61 x62 : Value) : F3_l1 R k1 (n + 1) x0 x3 x4 x12 x60 x61 x62 = F3_b2 R k1 (F3_l1 R k1 n) x0 x3 x4 x12 x60 x61 x62 := rfl
theorem F3_l1_ok (R : ER) (k1 : V4) : ∀ (n : Nat) (e : Env), iterL (den Pg R (cd Try.f3 [1,1,1,1,1,1,0,1,0,0,1,0,0,1,0,0])) n e (inB 4 (inB 3 (setN (setN (inB 2 (setN (kont Pg R Try.f3) (fun e => F3_j3 R))) (fun e => k1 (e 0) (e 3) (e 4) (e 12))) (fun e => F3_j7 R k1 (e 0) (e 3) (e 4) (e 12))))) = F3_l1 R k1 n (e 0) (e 3) (e 4) (e 12) (e 60) (e 61) (e 62) :=
  iterL_join (den Pg R (cd Try.f3 [1,1,1,1,1,1,0,1,0,0,1,0,0,1,0,0])) (inB 4 (inB 3 (setN (setN (inB 2 (setN (kont Pg R Try.f3) (fun e => F3_j3 R))) (fun e => k1 (e 0) (e 3) (e 4) (e 12))) (fun e => F3_j7 R k1 (e 0) (e 3) (e 4) (e 12))))) (fun n e => F3_l1 R k1 n (e 0) (e 3) (e 4) (e 12) (e 60) (e 61) (e 62)) (fun _ => rfl) (fun n e => (F3_b2_ok R k1 (F3_l1 R k1 n) e).trans (F3_l1_succ R k1 n (e 0) (e 3) (e 4) (e 12) (e 60) (e 61) (e 62)).symm)
def F3_j9 (R : ER) (k1 : V4) (x0 x3 x4 x12 x60 x61 x62 : Value) : WP :=
  exN fun n => F3_l1 R k1 n x0 x3 x4 x12 x60 x61 x62
theorem F3_j9_ok (R : ER) (k1 : V4) (e : Env) : den Pg R (cd Try.f3 [1,1,1,1,1,1,0,1,0,0,1,0,0,1]) e (inB 3 (setN (setN (inB 2 (setN (kont Pg R Try.f3) (fun e => F3_j3 R))) (fun e => k1 (e 0) (e 3) (e 4) (e 12))) (fun e => F3_j7 R k1 (e 0) (e 3) (e 4) (e 12)))) = (F3_j9 R k1 (e 0) (e 3) (e 4) (e 12) (e 60) (e 61) (e 62)) := (den_block Pg R (cd Try.f3 [1,1,1,1,1,1,0,1,0,0,1,0,0,1]) 4 (cd Try.f3 [1,1,1,1,1,1,0,1,0,0,1,0,0,1,0]) e (inB 3 (setN (setN (inB 2 (setN (kont Pg R Try.f3) (fun e => F3_j3 R))) (fun e => k1 (e 0) (e 3) (e 4) (e 12))) (fun e => F3_j7 R k1 (e 0) (e 3) (e 4) (e 12)))) _ (by kernel_rfl) (den_loop Pg R (cd Try.f3 [1,1,1,1,1,1,0,1,0,0,1,0,0,1,0]) (cd Try.f3 [1,1,1,1,1,1,0,1,0,0,1,0,0,1,0,0]) e (inB 4 (inB 3 (setN (setN (inB 2 (setN (kont Pg R Try.f3) (fun e => F3_j3 R))) (fun e => k1 (e 0) (e 3) (e 4) (e 12))) (fun e => F3_j7 R k1 (e 0) (e 3) (e 4) (e 12))))) (fun n e => F3_l1 R k1 n (e 0) (e 3) (e 4) (e 12) (e 60) (e 61) (e 62)) _ (by kernel_rfl) (F3_l1_ok R k1) (by kernel_rfl)))
def F3_j8 (R : ER) (k1 : V4) (x0 x3 x4 x12 : Value) : WP :=
  pv (lenS x0) fun v35 =>
  F3_j9 R k1 x0 x3 x4 x12 x0 v35 (.int .i64 0)
theorem F3_j8_ok (R : ER) (k1 : V4) (e : Env) : den Pg R (cd Try.f3 [1,1,1,1,1,1,0,1,0,0,1,0]) e (setN (setN (inB 2 (setN (kont Pg R Try.f3) (fun e => F3_j3 R))) (fun e => k1 (e 0) (e 3) (e 4) (e 12))) (fun e => F3_j7 R k1 (e 0) (e 3) (e 4) (e 12))) = (F3_j8 R k1 (e 0) (e 3) (e 4) (e 12)) := (den_block Pg R (cd Try.f3 [1,1,1,1,1,1,0,1,0,0,1,0]) 3 (cd Try.f3 [1,1,1,1,1,1,0,1,0,0,1,0,0]) e (setN (setN (inB 2 (setN (kont Pg R Try.f3) (fun e => F3_j3 R))) (fun e => k1 (e 0) (e 3) (e 4) (e 12))) (fun e => F3_j7 R k1 (e 0) (e 3) (e 4) (e 12))) _ (by kernel_rfl) (den_join Pg R 0 (cd Try.f3 [1,1,1,1,1,1,0,1,0,0,1,0,0]) (cd Try.f3 [1,1,1,1,1,1,0,1,0,0,1,0,0,1]) e (inB 3 (setN (setN (inB 2 (setN (kont Pg R Try.f3) (fun e => F3_j3 R))) (fun e => k1 (e 0) (e 3) (e 4) (e 12))) (fun e => F3_j7 R k1 (e 0) (e 3) (e 4) (e 12)))) (fun e => F3_j9 R k1 (e 0) (e 3) (e 4) (e 12) (e 60) (e 61) (e 62)) _ (by kernel_rfl) (fun e => F3_j9_ok R k1 e) (by kernel_rfl)))
def F3_j6 (R : ER) (k1 : V4) (x0 x3 x4 x12 : Value) : WP :=
  F3_j8 R k1 x0 x3 x4 x12
theorem F3_j6_ok (R : ER) (k1 : V4) (e : Env) : den Pg R (cd Try.f3 [1,1,1,1,1,1,0,1,0,0,1]) e (setN (inB 2 (setN (kont Pg R Try.f3) (fun e => F3_j3 R))) (fun e => k1 (e 0) (e 3) (e 4) (e 12))) = (F3_j6 R k1 (e 0) (e 3) (e 4) (e 12)) := (den_join Pg R 0 (cd Try.f3 [1,1,1,1,1,1,0,1,0,0,1]) (cd Try.f3 [1,1,1,1,1,1,0,1,0,0,1,1]) e (setN (inB 2 (setN (kont Pg R Try.f3) (fun e => F3_j3 R))) (fun e => k1 (e 0) (e 3) (e 4) (e 12))) (fun e => F3_j7 R k1 (e 0) (e 3) (e 4) (e 12)) _ (by kernel_rfl) (fun e => F3_j7_ok R k1 e) (den_conv Pg R (pre 0 (cd Try.f3 [1,1,1,1,1,1,0,1,0,0,1])) (cd Try.f3 [1,1,1,1,1,1,0,1,0,0,1,0]) e (setN (setN (inB 2 (setN (kont Pg R Try.f3) (fun e => F3_j3 R))) (fun e => k1 (e 0) (e 3) (e 4) (e 12))) (fun e => F3_j7 R k1 (e 0) (e 3) (e 4) (e 12))) _ (by kernel_rfl) (F3_j8_ok R k1 e)))
def F3_b1 (R : ER) (k1 : V4) (x0 x3 x4 x12 : Value) : WP :=
  pv (bin .geq x12 (.int .i64 0)) fun v36 =>
  cnd v36 (
   F3_j6 R k1 x0 x3 x4 x12) (
   F3_j3 R)
theorem F3_b1_ok (R : ER) (k1 : V4) (e : Env) : den Pg R (cd Try.f3 [1,1,1,1,1,1,0,1,0,0]) e (setN (inB 2 (setN (kont Pg R Try.f3) (fun e => F3_j3 R))) (fun e => k1 (e 0) (e 3) (e 4) (e 12))) = (F3_b1 R k1 (e 0) (e 3) (e 4) (e 12)) := (den_join Pg R 0 (cd Try.f3 [1,1,1,1,1,1,0,1,0,0]) (cd Try.f3 [1,1,1,1,1,1,0,1,0,0,1]) e (setN (inB 2 (setN (kont Pg R Try.f3) (fun e => F3_j3 R))) (fun e => k1 (e 0) (e 3) (e 4) (e 12))) (fun e => F3_j6 R k1 (e 0) (e 3) (e 4) (e 12)) _ (by kernel_rfl) (fun e => F3_j6_ok R k1 e) (by kernel_rfl))
noncomputable def F3_l2 (R : ER) (n : Nat) : V4 := Nat.rec (motive := fun _ => V4) (fun _ _ _ _ => fun _ => False) (fun _ ih => fun x0 x3 x4 x12 => F3_b1 R ih x0 x3 x4 x12) n
theorem F3_l2_succ (R : ER) (n : Nat) (x0 x3 x4 x12 : Value) : F3_l2 R (n + 1) x0 x3 x4 x12 = F3_b1 R (F3_l2 R n) x0 x3 x4 x12 := rfl
theorem F3_l2_ok (R : ER) : ∀ (n : Nat) (e : Env), iterL (den Pg R (cd Try.f3 [1,1,1,1,1,1,0,1,0,0])) n e (inB 2 (setN (kont Pg R Try.f3) (fun e => F3_j3 R))) = F3_l2 R n (e 0) (e 3) (e 4) (e 12) :=
  iterL_join (den Pg R (cd Try.f3 [1,1,1,1,1,1,0,1,0,0])) (inB 2 (setN (kont Pg R Try.f3) (fun e => F3_j3 R))) (fun n e => F3_l2 R n (e 0) (e 3) (e 4) (e 12)) (fun _ => rfl) (fun n e => (F3_b1_ok R (F3_l2 R n) e).trans (F3_l2_succ R n (e 0) (e 3) (e 4) (e 12)).symm)
def F3_j5 (R : ER) (x0 x3 x4 x12 : Value) : WP :=
  exN fun n => F3_l2 R n x0 x3 x4 x12
theorem F3_j5_ok (R : ER) (e : Env) : den Pg R (cd Try.f3 [1,1,1,1,1,1,0,1]) e (setN (kont Pg R Try.f3) (fun e => F3_j3 R)) = (F3_j5 R (e 0) (e 3) (e 4) (e 12)) := (den_block Pg R (cd Try.f3 [1,1,1,1,1,1,0,1]) 2 (cd Try.f3 [1,1,1,1,1,1,0,1,0]) e (setN (kont Pg R Try.f3) (fun e => F3_j3 R)) _ (by kernel_rfl) (den_loop Pg R (cd Try.f3 [1,1,1,1,1,1,0,1,0]) (cd Try.f3 [1,1,1,1,1,1,0,1,0,0]) e (inB 2 (setN (kont Pg R Try.f3) (fun e => F3_j3 R))) (fun n e => F3_l2 R n (e 0) (e 3) (e 4) (e 12)) _ (by kernel_rfl) (F3_l2_ok R) (by kernel_rfl)))
def F3_j4 (R : ER) (x0 x3 x4 : Value) : WP :=
  F3_j5 R x0 x3 x4 (.int .i64 255)
theorem F3_j4_ok (R : ER) (e : Env) : den Pg R (cd Try.f3 [1,1,1,1,1,1,0]) e (setN (kont Pg R Try.f3) (fun e => F3_j3 R)) = (F3_j4 R (e 0) (e 3) (e 4)) := (den_join Pg R 0 (cd Try.f3 [1,1,1,1,1,1,0]) (cd Try.f3 [1,1,1,1,1,1,0,1]) e (setN (kont Pg R Try.f3) (fun e => F3_j3 R)) (fun e => F3_j5 R (e 0) (e 3) (e 4) (e 12)) _ (by kernel_rfl) (fun e => F3_j5_ok R e) (by kernel_rfl))
def F3_j2 (R : ER) (x0 x3 x4 : Value) : WP :=
  F3_j4 R x0 x3 x4
theorem F3_j2_ok (R : ER) (e : Env) : den Pg R (cd Try.f3 [1,1,1,1,1,1]) e (kont Pg R Try.f3) = (F3_j2 R (e 0) (e 3) (e 4)) := (den_join Pg R 0 (cd Try.f3 [1,1,1,1,1,1]) (cd Try.f3 [1,1,1,1,1,1,1]) e (kont Pg R Try.f3) (fun e => F3_j3 R) _ (by kernel_rfl) (fun e => F3_j3_ok R e) (den_conv Pg R (pre 0 (cd Try.f3 [1,1,1,1,1,1])) (cd Try.f3 [1,1,1,1,1,1,0]) e (setN (kont Pg R Try.f3) (fun e => F3_j3 R)) _ (by kernel_rfl) (F3_j4_ok R e)))
def F3_j16 (R : ER) (k1 : V7) (x0 x3 x4 x6 x34 x35 x36 : Value) : WP :=
  pv (ixS 1 x34 x36) fun v37 =>
  ld1 v37 fun v38 =>
  pv (cvI .i64 v38) fun v39 =>
  pv (cvI .u8 x36) fun v40 =>
  valV Pg R (Instr.buildSlice 22 1 ⟨[(0, v40)]⟩) fun v41 =>
  cal Pg R 10 ⟨[x3, x36, (.int .i64 1), x6, v39, v41, (.int .i64 0)]⟩ fun v42 =>
  pv (extO 0 v42) fun v43 =>
  pv (extO 1 v42) fun v44 =>
  pv (bin .neq v44 (.int .i64 0)) fun v45 =>
  cnd v45 (
   R (.returned (.bool false))) (
   pv (bin .add x36 (.int .i64 1)) fun v46 =>
  k1 x0 x3 x4 x6 x34 x35 v46)
theorem F3_j16_ok (R : ER) (k1 : V7) (e : Env) : den Pg R (cd Try.f3 [1,1,1,1,1,0,1,0,0,1,1]) e (setN (inB 0 (setN (kont Pg R Try.f3) (fun e => F3_j2 R (e 0) (e 3) (e 4)))) (fun e => k1 (e 0) (e 3) (e 4) (e 6) (e 34) (e 35) (e 36))) = (F3_j16 R k1 (e 0) (e 3) (e 4) (e 6) (e 34) (e 35) (e 36)) := (by kernel_rfl)
def F3_b3 (R : ER) (k1 : V7) (x0 x3 x4 x6 x34 x35 x36 : Value) : WP :=
  pv (bin .lss x36 x35) fun v47 =>
  cnd v47 (
   F3_j16 R k1 x0 x3 x4 x6 x34 x35 x36) (
   F3_j2 R x0 x3 x4)
theorem F3_b3_ok (R : ER) (k1 : V7) (e : Env) : den Pg R (cd Try.f3 [1,1,1,1,1,0,1,0,0]) e (setN (inB 0 (setN (kont Pg R Try.f3) (fun e => F3_j2 R (e 0) (e 3) (e 4)))) (fun e => k1 (e 0) (e 3) (e 4) (e 6) (e 34) (e 35) (e 36))) = (F3_b3 R k1 (e 0) (e 3) (e 4) (e 6) (e 34) (e 35) (e 36)) := (den_join Pg R 1 (cd Try.f3 [1,1,1,1,1,0,1,0,0]) (cd Try.f3 [1,1,1,1,1,0,1,0,0,1,1]) e (setN (inB 0 (setN (kont Pg R Try.f3) (fun e => F3_j2 R (e 0) (e 3) (e 4)))) (fun e => k1 (e 0) (e 3) (e 4) (e 6) (e 34) (e 35) (e 36))) (fun e => F3_j16 R k1 (e 0) (e 3) (e 4) (e 6) (e 34) (e 35) (e 36)) _ (by kernel_rfl) (fun e => F3_j16_ok R k1 e) (by kernel_rfl))
noncomputable def F3_l3 (R : ER) (n : Nat) : V7 := Nat.rec (motive := fun _ => V7) (fun _ _ _ _ _ _ _ => fun _ => False) (fun _ ih => fun x0 x3 x4 x6 x34 x35 x36 => F3_b3 R ih x0 x3 x4 x6 x34 x35 x36) n
theorem F3_l3_succ (R : ER) (n : Nat) (x0 x3 x4 x6 x34 x35 x36 : Value) : F3_l3 R (n + 1) x0 x3 x4 x6 x34 x35 x36 = F3_b3 R (F3_l3 R n) x0 x3 x4 x6 x34 x35 x36 := rfl
theorem F3_l3_ok (R : ER) : ∀ (n : Nat) (e : Env), iterL (den Pg R (cd Try.f3 [1,1,1,1,1,0,1,0,0])) n e (inB 0 (setN (kont Pg R Try.f3) (fun e => F3_j2 R (e 0) (e 3) (e 4)))) = F3_l3 R n (e 0) (e 3) (e 4) (e 6) (e 34) (e 35) (e 36) :=
  iterL_join (den Pg R (cd Try.f3 [1,1,1,1,1,0,1,0,0])) (inB 0 (setN (kont Pg R Try.f3) (fun e => F3_j2 R (e 0) (e 3) (e 4)))) (fun n e => F3_l3 R n (e 0) (e 3) (e 4) (e 6) (e 34) (e 35) (e 36)) (fun _ => rfl) (fun n e => (F3_b3_ok R (F3_l3 R n) e).trans (F3_l3_succ R n (e 0) (e 3) (e 4) (e 6) (e 34) (e 35) (e 36)).symm)
def F3_j15 (R : ER) (x0 x3 x4 x6 x34 x35 x36 : Value) : WP :=
  exN fun n => F3_l3 R n x0 x3 x4 x6 x34 x35 x36
theorem F3_j15_ok (R : ER) (e : Env) : den Pg R (cd Try.f3 [1,1,1,1,1,0,1]) e (setN (kont Pg R Try.f3) (fun e => F3_j2 R (e 0) (e 3) (e 4))) = (F3_j15 R (e 0) (e 3) (e 4) (e 6) (e 34) (e 35) (e 36)) := (den_block Pg R (cd Try.f3 [1,1,1,1,1,0,1]) 0 (cd Try.f3 [1,1,1,1,1,0,1,0]) e (setN (kont Pg R Try.f3) (fun e => F3_j2 R (e 0) (e 3) (e 4))) _ (by kernel_rfl) (den_loop Pg R (cd Try.f3 [1,1,1,1,1,0,1,0]) (cd Try.f3 [1,1,1,1,1,0,1,0,0]) e (inB 0 (setN (kont Pg R Try.f3) (fun e => F3_j2 R (e 0) (e 3) (e 4)))) (fun n e => F3_l3 R n (e 0) (e 3) (e 4) (e 6) (e 34) (e 35) (e 36)) _ (by kernel_rfl) (F3_l3_ok R) (by kernel_rfl)))
def F3_j14 (R : ER) (x0 x3 x4 x6 : Value) : WP :=
  pv (lenS x0) fun v48 =>
  F3_j15 R x0 x3 x4 x6 x0 v48 (.int .i64 0)
theorem F3_j14_ok (R : ER) (e : Env) : den Pg R (cd Try.f3 [1,1,1,1,1,0]) e (setN (kont Pg R Try.f3) (fun e => F3_j2 R (e 0) (e 3) (e 4))) = (F3_j14 R (e 0) (e 3) (e 4) (e 6)) := (den_join Pg R 0 (cd Try.f3 [1,1,1,1,1,0]) (cd Try.f3 [1,1,1,1,1,0,1]) e (setN (kont Pg R Try.f3) (fun e => F3_j2 R (e 0) (e 3) (e 4))) (fun e => F3_j15 R (e 0) (e 3) (e 4) (e 6) (e 34) (e 35) (e 36)) _ (by kernel_rfl) (fun e => F3_j15_ok R e) (by kernel_rfl))
def F3_j1 (R : ER) (x0 : Value) : WP :=
  cal Pg R 7 ⟨[]⟩ fun v49 =>
  cal Pg R 8 ⟨[v49, (.int .i64 0), (.bool false)]⟩ fun v50 =>
  pv (extO 0 v50) fun v51 =>
  pv (extO 1 v50) fun v52 =>
  cal Pg R 9 ⟨[v49, (.int .i64 1), v51]⟩ fun v53 =>
  pv (extO 0 v53) fun v54 =>
  pv (extO 1 v53) fun v55 =>
  F3_j14 R x0 v49 v51 v54
theorem F3_j1_ok (R : ER) (e : Env) : den Pg R (cd Try.f3 [1,1]) e (kont Pg R Try.f3) = (F3_j1 R (e 0)) := (den_join Pg R 3 (cd Try.f3 [1,1]) (cd Try.f3 [1,1,1,1,1,1]) e (kont Pg R Try.f3) (fun e => F3_j2 R (e 0) (e 3) (e 4)) _ (by kernel_rfl) (fun e => F3_j2_ok R e) (den_join Pg R 2 (pre 3 (cd Try.f3 [1,1])) (cd Try.f3 [1,1,1,1,1,0]) e (setN (kont Pg R Try.f3) (fun e => F3_j2 R (e 0) (e 3) (e 4))) (fun e => F3_j14 R (e 0) (e 3) (e 4) (e 6)) _ (by kernel_rfl) (fun e => F3_j14_ok R e) (by kernel_rfl)))
def F3 (R : ER) (x0 : Value) : WP :=
  pv (lenS x0) fun v56 =>
  pv (bin .gtr v56 (.int .i64 30)) fun v57 =>
  cnd v57 (
   cal Pg R 6 ⟨[]⟩ fun v58 =>
   R (.returned v58)) (
   F3_j1 R x0)
theorem F3_den (R : ER) (x0 : Value) : den Pg R (cd Try.f3 []) (argsEnv [x0]) (kont Pg R Try.f3) = F3 R x0 :=
  have h : ∀ e, den Pg R (cd Try.f3 []) e (kont Pg R Try.f3) = F3 R (e 0) := fun e => (den_join Pg R 1 (cd Try.f3 []) (cd Try.f3 [1,1]) e (kont Pg R Try.f3) (fun e => F3_j1 R (e 0)) _ (by kernel_rfl) (fun e => F3_j1_ok R e) (by kernel_rfl))
  h _
theorem F3_calls {R : ER} {x0 : Value} {w : World} (h : F3 R x0 w) : Calls Pg 3 ⟨[x0]⟩ w R :=
  calls_of_den Try.func3 (by kernel_rfl) (by kernel_rfl) (F3_den R x0) h
/-! ### 4: orpimentlaw11_ChannelsBytes -/
def F4_j6 (R : ER) (x8 x19 x20 : Value) : WP :=
  cal Pg R 17 ⟨[x8, (.int .i64 1)]⟩ fun v1 =>
  pv (extO 0 v1) fun v2 =>
  pv (extO 1 v1) fun v3 =>
  gd v3 true (pv (some v2)) fun v4 =>
  gd v3 true (pv (some x19)) fun v5 =>
  gd v3 true (pv (some x20)) fun v6 =>
  gd v3 true (pv (slS 1 v5 none (some v6))) fun v7 =>
  gd v3 true (cal Pg R 12 ⟨[v4, v7]⟩) fun v8 =>
  pv (pickO v3 v8 (.bool false)) fun v9 =>
  gd v9 true (cal Pg R 6 ⟨[]⟩) fun v10 =>
  pv (pickO v9 v10 (.bool false)) fun v11 =>
  R (.returned v11)
theorem F4_j6_ok (R : ER) (e : Env) : den Pg R (cd Try.f4 [1,1,1,1,1,1,1,1,1,1,1,1,1,1]) e (kont Pg R Try.f4) = (F4_j6 R (e 8) (e 19) (e 20)) := by kernel_rfl
def F4_j5 (R : ER) (x8 x15 x19 x20 : Value) : WP :=
  pv (faO 0 x15) fun v12 =>
  ld1 v12 fun v13 =>
  cal Pg R 16 ⟨[x8, (.int .i64 0), v13, (.int .i64 3), (.slice none 0 0)]⟩ fun v14 =>
  pv (extO 0 v14) fun v15 =>
  pv (extO 1 v14) fun v16 =>
  pv (bin .neq v16 (.int .i64 0)) fun v17 =>
  cnd v17 (
   R (.returned (.bool false))) (
   F4_j6 R x8 x19 x20)
theorem F4_j5_ok (R : ER) (e : Env) : den Pg R (cd Try.f4 [1,1,1,1,1,1,1,1,1,1,1,1,1]) e (kont Pg R Try.f4) = (F4_j5 R (e 8) (e 15) (e 19) (e 20)) := (den_join Pg R 0 (cd Try.f4 [1,1,1,1,1,1,1,1,1,1,1,1,1]) (cd Try.f4 [1,1,1,1,1,1,1,1,1,1,1,1,1,1]) e (kont Pg R Try.f4) (fun e => F4_j6 R (e 8) (e 19) (e 20)) _ (by kernel_rfl) (fun e => F4_j6_ok R e) (by kernel_rfl))
def F4_j10 (R : ER) (k1 : V8) (x7 x8 x15 x19 x20 x107 x108 x109 : Value) : WP :=
  pv (bin .add x109 (.int .i64 1)) fun v18 =>
  k1 x7 x8 x15 x19 x20 x107 x108 v18
theorem F4_j10_ok (R : ER) (k1 : V8) (e : Env) : den Pg R (cd Try.f4 [1,1,1,1,1,1,1,1,1,1,1,1,0,1,0,0,1,1,1]) e (setN (inB 0 (setN (kont Pg R Try.f4) (fun e => F4_j5 R (e 8) (e 15) (e 19) (e 20)))) (fun e => k1 (e 7) (e 8) (e 15) (e 19) (e 20) (e 107) (e 108) (e 109))) = (F4_j10 R k1 (e 7) (e 8) (e 15) (e 19) (e 20) (e 107) (e 108) (e 109)) := by kernel_rfl
def F4_j15 (R : ER) (k1 : V8) (x7 x8 x15 x19 x20 x22 x23 x107 x108 x109 : Value) : WP :=
  drewV (
  pv (faO 5 x22) fun v19 =>
  ld1 v19 fun v20 =>
  pv (slS 1 x19 (some v20) none) fun v21 =>
  pv (faO 7 x22) fun v22 =>
  ld1 v22 fun v23 =>
  mem fun w25 => blt Pg noR .copy ⟨[22,22]⟩ 3 ⟨[false, false]⟩ ⟨[v21, v23]⟩ fun v24 =>
  pv (faO 5 x22) fun v26 =>
  ld1 v26 fun v27 =>
  pv (bin .add v27 x23) fun v28 =>
  pv (max2I x20 v28) fun v29 =>
  F4_j10 R k1 x7 x8 x15 x19 v29 x107 x108 x109)
theorem F4_j15_ok (R : ER) (k1 : V8) (e : Env) : den Pg R (cd Try.f4 [1,1,1,1,1,1,1,1,1,1,1,1,0,1,0,0,1,1,0,0,1,1,1,1,1,0]) e (inB 1 (setN (setN (inB 0 (setN (kont Pg R Try.f4) (fun e => F4_j5 R (e 8) (e 15) (e 19) (e 20)))) (fun e => k1 (e 7) (e 8) (e 15) (e 19) (e 20) (e 107) (e 108) (e 109))) (fun e => F4_j10 R k1 (e 7) (e 8) (e 15) (e 19) (e 20) (e 107) (e 108) (e 109)))) = (F4_j15 R k1 (e 7) (e 8) (e 15) (e 19) (e 20) (e 22) (e 23) (e 107) (e 108) (e 109)) := by kernel_rfl
def F4_j14 (R : ER) (k1 : V8) (x7 x8 x15 x19 x20 x22 x23 x107 x108 x109 x146 : Value) : WP :=
  cnd x146 (F4_j15 R k1 x7 x8 x15 x19 x20 x22 x23 x107 x108 x109) (F4_j10 R k1 x7 x8 x15 x19 x20 x107 x108 x109)
theorem F4_j14_ok (R : ER) (k1 : V8) (e : Env) : den Pg R (cd Try.f4 [1,1,1,1,1,1,1,1,1,1,1,1,0,1,0,0,1,1,0,0,1,1,1,1,1]) e (inB 1 (setN (setN (inB 0 (setN (kont Pg R Try.f4) (fun e => F4_j5 R (e 8) (e 15) (e 19) (e 20)))) (fun e => k1 (e 7) (e 8) (e 15) (e 19) (e 20) (e 107) (e 108) (e 109))) (fun e => F4_j10 R k1 (e 7) (e 8) (e 15) (e 19) (e 20) (e 107) (e 108) (e 109)))) = (F4_j14 R k1 (e 7) (e 8) (e 15) (e 19) (e 20) (e 22) (e 23) (e 107) (e 108) (e 109) (e 146)) := (den_if Pg R (cd Try.f4 [1,1,1,1,1,1,1,1,1,1,1,1,0,1,0,0,1,1,0,0,1,1,1,1,1]) (cd Try.f4 [1,1,1,1,1,1,1,1,1,1,1,1,0,1,0,0,1,1,0,0,1,1,1,1,1,0]) (cd Try.f4 [1,1,1,1,1,1,1,1,1,1,1,1,0,1,0,0,1,1,0,0,1,1,1,1,1,1]) e (inB 1 (setN (setN (inB 0 (setN (kont Pg R Try.f4) (fun e => F4_j5 R (e 8) (e 15) (e 19) (e 20)))) (fun e => k1 (e 7) (e 8) (e 15) (e 19) (e 20) (e 107) (e 108) (e 109))) (fun e => F4_j10 R k1 (e 7) (e 8) (e 15) (e 19) (e 20) (e 107) (e 108) (e 109)))) (F4_j15 R k1 (e 7) (e 8) (e 15) (e 19) (e 20) (e 22) (e 23) (e 107) (e 108) (e 109)) _ _ (by kernel_rfl) (F4_j15_ok R k1 e) rfl (by kernel_rfl))
def F4_j13 (R : ER) (k1 : V8) (x7 x8 x15 x19 x20 x22 x23 x107 x108 x109 : Value) : WP :=
  pv (bin .gtr x23 (.int .i64 0)) fun v30 =>
  F4_j14 R k1 x7 x8 x15 x19 x20 x22 x23 x107 x108 x109 v30
theorem F4_j13_ok (R : ER) (k1 : V8) (e : Env) : den Pg R (cd Try.f4 [1,1,1,1,1,1,1,1,1,1,1,1,0,1,0,0,1,1,0,0,1,1,1,1]) e (inB 1 (setN (setN (inB 0 (setN (kont Pg R Try.f4) (fun e => F4_j5 R (e 8) (e 15) (e 19) (e 20)))) (fun e => k1 (e 7) (e 8) (e 15) (e 19) (e 20) (e 107) (e 108) (e 109))) (fun e => F4_j10 R k1 (e 7) (e 8) (e 15) (e 19) (e 20) (e 107) (e 108) (e 109)))) = (F4_j13 R k1 (e 7) (e 8) (e 15) (e 19) (e 20) (e 22) (e 23) (e 107) (e 108) (e 109)) := (den_join Pg R 0 (cd Try.f4 [1,1,1,1,1,1,1,1,1,1,1,1,0,1,0,0,1,1,0,0,1,1,1,1]) (cd Try.f4 [1,1,1,1,1,1,1,1,1,1,1,1,0,1,0,0,1,1,0,0,1,1,1,1,1]) e (inB 1 (setN (setN (inB 0 (setN (kont Pg R Try.f4) (fun e => F4_j5 R (e 8) (e 15) (e 19) (e 20)))) (fun e => k1 (e 7) (e 8) (e 15) (e 19) (e 20) (e 107) (e 108) (e 109))) (fun e => F4_j10 R k1 (e 7) (e 8) (e 15) (e 19) (e 20) (e 107) (e 108) (e 109)))) (fun e => F4_j14 R k1 (e 7) (e 8) (e 15) (e 19) (e 20) (e 22) (e 23) (e 107) (e 108) (e 109) (e 146)) _ (by kernel_rfl) (fun e => F4_j14_ok R k1 e) (by kernel_rfl))
def F4_j16 (R : ER) (k1 : V8) (x7 x8 x15 x19 x20 x22 x23 x107 x108 x109 : Value) : WP :=
  pv (faO 7 x22) fun v31 =>
  ld1 v31 fun v32 =>
  pv (lenS v32) fun v33 =>
  pv (bin .neq x23 v33) fun v34 =>
  gd v34 false (pv (faO 5 x22)) fun v35 =>
  gd v34 false (ld1 v35) fun v36 =>
  gd v34 false (pv (bin .lss v36 (.int .i64 0))) fun v37 =>
  pv (pickO v34 (.bool true) v37) fun v38 =>
  gd v38 false (pv (faO 5 x22)) fun v39 =>
  gd v38 false (ld1 v39) fun v40 =>
  gd v38 false (pv (some x23)) fun v41 =>
  gd v38 false (pv (bin .add v40 v41)) fun v42 =>
  gd v38 false (pv (some x7)) fun v43 =>
  gd v38 false (pv (bin .gtr v42 v43)) fun v44 =>
  pv (pickO v38 (.bool true) v44) fun v45 =>
  cnd v45 (
   R (.returned (.bool false))) (
   F4_j13 R k1 x7 x8 x15 x19 x20 x22 x23 x107 x108 x109)
theorem F4_j16_ok (R : ER) (k1 : V8) (e : Env) : den Pg R (cd Try.f4 [1,1,1,1,1,1,1,1,1,1,1,1,0,1,0,0,1,1,0,0,1,1,1,0]) e (setN (inB 1 (setN (setN (inB 0 (setN (kont Pg R Try.f4) (fun e => F4_j5 R (e 8) (e 15) (e 19) (e 20)))) (fun e => k1 (e 7) (e 8) (e 15) (e 19) (e 20) (e 107) (e 108) (e 109))) (fun e => F4_j10 R k1 (e 7) (e 8) (e 15) (e 19) (e 20) (e 107) (e 108) (e 109)))) (fun e => F4_j13 R k1 (e 7) (e 8) (e 15) (e 19) (e 20) (e 22) (e 23) (e 107) (e 108) (e 109))) = (F4_j16 R k1 (e 7) (e 8) (e 15) (e 19) (e 20) (e 22) (e 23) (e 107) (e 108) (e 109)) := (by kernel_rfl)
def F4_j12 (R : ER) (k1 : V8) (x7 x8 x15 x19 x20 x22 x23 x107 x108 x109 : Value) : WP :=
  F4_j16 R k1 x7 x8 x15 x19 x20 x22 x23 x107 x108 x109
theorem F4_j12_ok (R : ER) (k1 : V8) (e : Env) : den Pg R (cd Try.f4 [1,1,1,1,1,1,1,1,1,1,1,1,0,1,0,0,1,1,0,0,1,1,1]) e (inB 1 (setN (setN (inB 0 (setN (kont Pg R Try.f4) (fun e => F4_j5 R (e 8) (e 15) (e 19) (e 20)))) (fun e => k1 (e 7) (e 8) (e 15) (e 19) (e 20) (e 107) (e 108) (e 109))) (fun e => F4_j10 R k1 (e 7) (e 8) (e 15) (e 19) (e 20) (e 107) (e 108) (e 109)))) = (F4_j12 R k1 (e 7) (e 8) (e 15) (e 19) (e 20) (e 22) (e 23) (e 107) (e 108) (e 109)) := (den_join Pg R 0 (cd Try.f4 [1,1,1,1,1,1,1,1,1,1,1,1,0,1,0,0,1,1,0,0,1,1,1]) (cd Try.f4 [1,1,1,1,1,1,1,1,1,1,1,1,0,1,0,0,1,1,0,0,1,1,1,1]) e (inB 1 (setN (setN (inB 0 (setN (kont Pg R Try.f4) (fun e => F4_j5 R (e 8) (e 15) (e 19) (e 20)))) (fun e => k1 (e 7) (e 8) (e 15) (e 19) (e 20) (e 107) (e 108) (e 109))) (fun e => F4_j10 R k1 (e 7) (e 8) (e 15) (e 19) (e 20) (e 107) (e 108) (e 109)))) (fun e => F4_j13 R k1 (e 7) (e 8) (e 15) (e 19) (e 20) (e 22) (e 23) (e 107) (e 108) (e 109)) _ (by kernel_rfl) (fun e => F4_j13_ok R k1 e) (den_conv Pg R (pre 0 (cd Try.f4 [1,1,1,1,1,1,1,1,1,1,1,1,0,1,0,0,1,1,0,0,1,1,1])) (cd Try.f4 [1,1,1,1,1,1,1,1,1,1,1,1,0,1,0,0,1,1,0,0,1,1,1,0]) e (setN (inB 1 (setN (setN (inB 0 (setN (kont Pg R Try.f4) (fun e => F4_j5 R (e 8) (e 15) (e 19) (e 20)))) (fun e => k1 (e 7) (e 8) (e 15) (e 19) (e 20) (e 107) (e 108) (e 109))) (fun e => F4_j10 R k1 (e 7) (e 8) (e 15) (e 19) (e 20) (e 107) (e 108) (e 109)))) (fun e => F4_j13 R k1 (e 7) (e 8) (e 15) (e 19) (e 20) (e 22) (e 23) (e 107) (e 108) (e 109))) _ (by kernel_rfl) (F4_j16_ok R k1 e)))
def F4_j11 (R : ER) (k1 : V8) (x7 x8 x15 x19 x20 x107 x108 x109 : Value) : WP :=
  pv (ixS 9 x107 x109) fun v46 =>
  ldN 9 v46 fun v47 =>
  al Pg 44 fun v48 =>
  stN 9 v48 v47 fun _ =>
  drewV (
  pv (faO 0 x15) fun v49 =>
  ld1 v49 fun v50 =>
  pv (faO 5 v48) fun v51 =>
  ld1 v51 fun v52 =>
  pv (faO 7 v48) fun v53 =>
  ld1 v53 fun v54 =>
  mem fun w56 => cal Pg noR 15 ⟨[v54]⟩ fun v55 =>
  rd1 v51 v52 <|
  rd1 v49 v50 <|
  mem fun w58 => cal Pg noR 14 ⟨[x8, (.int .i64 0), v50, v52, v55]⟩ fun v57 =>
  pv (extO 0 v57) fun v59 =>
  pv (extO 1 v57) fun v60 =>
  pv (bin .neq v60 (.int .i64 0)) fun v61 =>
  cnd v61 (
   F4_j10 R k1 x7 x8 x15 x19 x20 x107 x108 x109) (
   F4_j12 R k1 x7 x8 x15 x19 x20 v48 v59 x107 x108 x109))
theorem F4_j11_ok (R : ER) (k1 : V8) (e : Env) : den Pg R (cd Try.f4 [1,1,1,1,1,1,1,1,1,1,1,1,0,1,0,0,1,1,0]) e (setN (setN (inB 0 (setN (kont Pg R Try.f4) (fun e => F4_j5 R (e 8) (e 15) (e 19) (e 20)))) (fun e => k1 (e 7) (e 8) (e 15) (e 19) (e 20) (e 107) (e 108) (e 109))) (fun e => F4_j10 R k1 (e 7) (e 8) (e 15) (e 19) (e 20) (e 107) (e 108) (e 109))) = (F4_j11 R k1 (e 7) (e 8) (e 15) (e 19) (e 20) (e 107) (e 108) (e 109)) := (den_block Pg R (cd Try.f4 [1,1,1,1,1,1,1,1,1,1,1,1,0,1,0,0,1,1,0]) 1 (cd Try.f4 [1,1,1,1,1,1,1,1,1,1,1,1,0,1,0,0,1,1,0,0]) e (setN (setN (inB 0 (setN (kont Pg R Try.f4) (fun e => F4_j5 R (e 8) (e 15) (e 19) (e 20)))) (fun e => k1 (e 7) (e 8) (e 15) (e 19) (e 20) (e 107) (e 108) (e 109))) (fun e => F4_j10 R k1 (e 7) (e 8) (e 15) (e 19) (e 20) (e 107) (e 108) (e 109))) _ (by kernel_rfl) (den_join Pg R 2 (cd Try.f4 [1,1,1,1,1,1,1,1,1,1,1,1,0,1,0,0,1,1,0,0]) (cd Try.f4 [1,1,1,1,1,1,1,1,1,1,1,1,0,1,0,0,1,1,0,0,1,1,1]) e (inB 1 (setN (setN (inB 0 (setN (kont Pg R Try.f4) (fun e => F4_j5 R (e 8) (e 15) (e 19) (e 20)))) (fun e => k1 (e 7) (e 8) (e 15) (e 19) (e 20) (e 107) (e 108) (e 109))) (fun e => F4_j10 R k1 (e 7) (e 8) (e 15) (e 19) (e 20) (e 107) (e 108) (e 109)))) (fun e => F4_j12 R k1 (e 7) (e 8) (e 15) (e 19) (e 20) (e 22) (e 23) (e 107) (e 108) (e 109)) _ (by kernel_rfl) (fun e => F4_j12_ok R k1 e) (by kernel_rfl)))
def F4_j9 (R : ER) (k1 : V8) (x7 x8 x15 x19 x20 x107 x108 x109 : Value) : WP :=
  F4_j11 R k1 x7 x8 x15 x19 x20 x107 x108 x109
theorem F4_j9_ok (R : ER) (k1 : V8) (e : Env) : den Pg R (cd Try.f4 [1,1,1,1,1,1,1,1,1,1,1,1,0,1,0,0,1,1]) e (setN (inB 0 (setN (kont Pg R Try.f4) (fun e => F4_j5 R (e 8) (e 15) (e 19) (e 20)))) (fun e => k1 (e 7) (e 8) (e 15) (e 19) (e 20) (e 107) (e 108) (e 109))) = (F4_j9 R k1 (e 7) (e 8) (e 15) (e 19) (e 20) (e 107) (e 108) (e 109)) := (den_join Pg R 0 (cd Try.f4 [1,1,1,1,1,1,1,1,1,1,1,1,0,1,0,0,1,1]) (cd Try.f4 [1,1,1,1,1,1,1,1,1,1,1,1,0,1,0,0,1,1,1]) e (setN (inB 0 (setN (kont Pg R Try.f4) (fun e => F4_j5 R (e 8) (e 15) (e 19) (e 20)))) (fun e => k1 (e 7) (e 8) (e 15) (e 19) (e 20) (e 107) (e 108) (e 109))) (fun e => F4_j10 R k1 (e 7) (e 8) (e 15) (e 19) (e 20) (e 107) (e 108) (e 109)) _ (by kernel_rfl) (fun e => F4_j10_ok R k1 e) (den_conv Pg R (pre 0 (cd Try.f4 [1,1,1,1,1,1,1,1,1,1,1,1,0,1,0,0,1,1])) (cd Try.f4 [1,1,1,1,1,1,1,1,1,1,1,1,0,1,0,0,1,1,0]) e (setN (setN (inB 0 (setN (kont Pg R Try.f4) (fun e => F4_j5 R (e 8) (e 15) (e 19) (e 20)))) (fun e => k1 (e 7) (e 8) (e 15) (e 19) (e 20) (e 107) (e 108) (e 109))) (fun e => F4_j10 R k1 (e 7) (e 8) (e 15) (e 19) (e 20) (e 107) (e 108) (e 109))) _ (by kernel_rfl) (F4_j11_ok R k1 e)))
def F4_b1 (R : ER) (k1 : V8) (x7 x8 x15 x19 x20 x107 x108 x109 : Value) : WP :=
  pv (bin .lss x109 x108) fun v62 =>
  cnd v62 (
   F4_j9 R k1 x7 x8 x15 x19 x20 x107 x108 x109) (
   F4_j5 R x8 x15 x19 x20)
theorem F4_b1_ok (R : ER) (k1 : V8) (e : Env) : den Pg R (cd Try.f4 [1,1,1,1,1,1,1,1,1,1,1,1,0,1,0,0]) e (setN (inB 0 (setN (kont Pg R Try.f4) (fun e => F4_j5 R (e 8) (e 15) (e 19) (e 20)))) (fun e => k1 (e 7) (e 8) (e 15) (e 19) (e 20) (e 107) (e 108) (e 109))) = (F4_b1 R k1 (e 7) (e 8) (e 15) (e 19) (e 20) (e 107) (e 108) (e 109)) := (den_join Pg R 1 (cd Try.f4 [1,1,1,1,1,1,1,1,1,1,1,1,0,1,0,0]) (cd Try.f4 [1,1,1,1,1,1,1,1,1,1,1,1,0,1,0,0,1,1]) e (setN (inB 0 (setN (kont Pg R Try.f4) (fun e => F4_j5 R (e 8) (e 15) (e 19) (e 20)))) (fun e => k1 (e 7) (e 8) (e 15) (e 19) (e 20) (e 107) (e 108) (e 109))) (fun e => F4_j9 R k1 (e 7) (e 8) (e 15) (e 19) (e 20) (e 107) (e 108) (e 109)) _ (by kernel_rfl) (fun e => F4_j9_ok R k1 e) (by kernel_rfl))
noncomputable def F4_l1 (R : ER) (n : Nat) : V8 := Nat.rec (motive := fun _ => V8) (fun _ _ _ _ _ _ _ _ => fun _ => False) (fun _ ih => fun x7 x8 x15 x19 x20 x107 x108 x109 => F4_b1 R ih x7 x8 x15 x19 x20 x107 x108 x109) n
theorem F4_l1_succ (R : ER) (n : Nat) (x7 x8 x15 x19 x20 x107 x108 x109 : Value) : F4_l1 R (n + 1) x7 x8 x15 x19 x20 x107 x108 x109 = F4_b1 R (F4_l1 R n) x7 x8 x15 x19 x20 x107 x108 x109 := rfl
theorem F4_l1_ok (R : ER) : ∀ (n : Nat) (e : Env), iterL (den Pg R (cd Try.f4 [1,1,1,1,1,1,1,1,1,1,1,1,0,1,0,0])) n e (inB 0 (setN (kont Pg R Try.f4) (fun e => F4_j5 R (e 8) (e 15) (e 19) (e 20)))) = F4_l1 R n (e 7) (e 8) (e 15) (e 19) (e 20) (e 107) (e 108) (e 109) :=
  iterL_join (den Pg R (cd Try.f4 [1,1,1,1,1,1,1,1,1,1,1,1,0,1,0,0])) (inB 0 (setN (kont Pg R Try.f4) (fun e => F4_j5 R (e 8) (e 15) (e 19) (e 20)))) (fun n e => F4_l1 R n (e 7) (e 8) (e 15) (e 19) (e 20) (e 107) (e 108) (e 109)) (fun _ => rfl) (fun n e => (F4_b1_ok R (F4_l1 R n) e).trans (F4_l1_succ R n (e 7) (e 8) (e 15) (e 19) (e 20) (e 107) (e 108) (e 109)).symm)
def F4_j8 (R : ER) (x7 x8 x15 x19 x20 x107 x108 x109 : Value) : WP :=
  exN fun n => F4_l1 R n x7 x8 x15 x19 x20 x107 x108 x109
theorem F4_j8_ok (R : ER) (e : Env) : den Pg R (cd Try.f4 [1,1,1,1,1,1,1,1,1,1,1,1,0,1]) e (setN (kont Pg R Try.f4) (fun e => F4_j5 R (e 8) (e 15) (e 19) (e 20))) = (F4_j8 R (e 7) (e 8) (e 15) (e 19) (e 20) (e 107) (e 108) (e 109)) := (den_block Pg R (cd Try.f4 [1,1,1,1,1,1,1,1,1,1,1,1,0,1]) 0 (cd Try.f4 [1,1,1,1,1,1,1,1,1,1,1,1,0,1,0]) e (setN (kont Pg R Try.f4) (fun e => F4_j5 R (e 8) (e 15) (e 19) (e 20))) _ (by kernel_rfl) (den_loop Pg R (cd Try.f4 [1,1,1,1,1,1,1,1,1,1,1,1,0,1,0]) (cd Try.f4 [1,1,1,1,1,1,1,1,1,1,1,1,0,1,0,0]) e (inB 0 (setN (kont Pg R Try.f4) (fun e => F4_j5 R (e 8) (e 15) (e 19) (e 20)))) (fun n e => F4_l1 R n (e 7) (e 8) (e 15) (e 19) (e 20) (e 107) (e 108) (e 109)) _ (by kernel_rfl) (F4_l1_ok R) (by kernel_rfl)))
def F4_j7 (R : ER) (x2 x7 x8 x15 x19 x20 : Value) : WP :=
  pv (lenS x2) fun v63 =>
  F4_j8 R x7 x8 x15 x19 x20 x2 v63 (.int .i64 0)
theorem F4_j7_ok (R : ER) (e : Env) : den Pg R (cd Try.f4 [1,1,1,1,1,1,1,1,1,1,1,1,0]) e (setN (kont Pg R Try.f4) (fun e => F4_j5 R (e 8) (e 15) (e 19) (e 20))) = (F4_j7 R (e 2) (e 7) (e 8) (e 15) (e 19) (e 20)) := (den_join Pg R 0 (cd Try.f4 [1,1,1,1,1,1,1,1,1,1,1,1,0]) (cd Try.f4 [1,1,1,1,1,1,1,1,1,1,1,1,0,1]) e (setN (kont Pg R Try.f4) (fun e => F4_j5 R (e 8) (e 15) (e 19) (e 20))) (fun e => F4_j8 R (e 7) (e 8) (e 15) (e 19) (e 20) (e 107) (e 108) (e 109)) _ (by kernel_rfl) (fun e => F4_j8_ok R e) (by kernel_rfl))
def F4_j4 (R : ER) (x2 x7 x8 x15 : Value) : WP :=
  valV Pg R (Instr.makeSlice 22 x7 x7) fun v64 =>
  F4_j7 R x2 x7 x8 x15 v64 (.int .i64 0)
theorem F4_j4_ok (R : ER) (e : Env) : den Pg R (cd Try.f4 [1,1,1,1,1,1,1,1,1,1,1]) e (kont Pg R Try.f4) = (F4_j4 R (e 2) (e 7) (e 8) (e 15)) := (den_join Pg R 1 (cd Try.f4 [1,1,1,1,1,1,1,1,1,1,1]) (cd Try.f4 [1,1,1,1,1,1,1,1,1,1,1,1,1]) e (kont Pg R Try.f4) (fun e => F4_j5 R (e 8) (e 15) (e 19) (e 20)) _ (by kernel_rfl) (fun e => F4_j5_ok R e) (den_join Pg R 0 (pre 1 (cd Try.f4 [1,1,1,1,1,1,1,1,1,1,1])) (cd Try.f4 [1,1,1,1,1,1,1,1,1,1,1,1,0]) e (setN (kont Pg R Try.f4) (fun e => F4_j5 R (e 8) (e 15) (e 19) (e 20))) (fun e => F4_j7 R (e 2) (e 7) (e 8) (e 15) (e 19) (e 20)) _ (by kernel_rfl) (fun e => F4_j7_ok R e) (by kernel_rfl)))
def F4_j3 (R : ER) (x0 x2 x7 x8 x15 : Value) : WP :=
  pv (faO 0 x15) fun v65 =>
  ld1 v65 fun v66 =>
  cal Pg R 13 ⟨[x8, (.int .i64 0), v66, (.int .i64 0), (.int .i64 4096)]⟩ fun v67 =>
  pv (extO 0 v67) fun v68 =>
  pv (extO 1 v67) fun v69 =>
  pv (bin .neq v69 (.int .i64 0)) fun v70 =>
  gd v70 false (pv (some v68)) fun v71 =>
  gd v70 false (pv (some x0)) fun v72 =>
  gd v70 false (cal Pg R 12 ⟨[v71, v72]⟩) fun v73 =>
  gd v70 false (pv (unO .not v73)) fun v74 =>
  pv (pickO v70 (.bool true) v74) fun v75 =>
  cnd v75 (
   R (.returned (.bool false))) (
   F4_j4 R x2 x7 x8 x15)
theorem F4_j3_ok (R : ER) (e : Env) : den Pg R (cd Try.f4 [1,1,1,1,1,1,1,1,1]) e (kont Pg R Try.f4) = (F4_j3 R (e 0) (e 2) (e 7) (e 8) (e 15)) := (den_join Pg R 1 (cd Try.f4 [1,1,1,1,1,1,1,1,1]) (cd Try.f4 [1,1,1,1,1,1,1,1,1,1,1]) e (kont Pg R Try.f4) (fun e => F4_j4 R (e 2) (e 7) (e 8) (e 15)) _ (by kernel_rfl) (fun e => F4_j4_ok R e) (by kernel_rfl))
def F4_j17 (R : ER) (x0 x2 x7 x8 x15 x17 : Value) : WP :=
  drewV (
  pv (bin .neq x17 (.int .i64 0)) fun v76 =>
  gd v76 false (pv (faO 7 x15)) fun v77 =>
  gd v76 false (ld1 v77) fun v78 =>
  gd v76 false (pv (some x0)) fun v79 =>
  gd v76 false (pv (some x0)) fun v80 =>
  gd v76 false (pv (lenS v80)) fun v81 =>
  gd v76 false (pv (min2I (.int .i64 7) v81)) fun v82 =>
  gd v76 false (pv (slS 1 v79 none (some v82))) fun v83 =>
  mem fun w85 => gd v76 false (cal Pg noR 12 ⟨[v78, v83]⟩) fun v84 =>
  gd v76 false (pv (unO .not v84)) fun v86 =>
  pv (pickO v76 (.bool true) v86) fun v87 =>
  gd v87 false (pv (faO 8 x15)) fun v88 =>
  gd v87 false (ld1 v88) fun v89 =>
  gd v87 false (pv (some x0)) fun v90 =>
  gd v87 false (pv (lenS v90)) fun v91 =>
  gd v87 false (pv (bin .neq v89 v91)) fun v92 =>
  pv (pickO v87 (.bool true) v92) fun v93 =>
  cnd v93 (
   R (.returned (.bool false))) (
   F4_j3 R x0 x2 x7 x8 x15))
theorem F4_j17_ok (R : ER) (e : Env) : den Pg R (cd Try.f4 [1,1,1,1,1,1,1,1,0]) e (setN (kont Pg R Try.f4) (fun e => F4_j3 R (e 0) (e 2) (e 7) (e 8) (e 15))) = (F4_j17 R (e 0) (e 2) (e 7) (e 8) (e 15) (e 17)) := (by kernel_rfl)
def F4_j2 (R : ER) (x0 x2 x7 x8 x9 : Value) : WP :=
  cal Pg R 11 ⟨[x8, (.int .i64 2), (.int .i64 0), x9, (.int .i64 5), (.int .i64 7)]⟩ fun v94 =>
  pv (extO 0 v94) fun v95 =>
  pv (extO 1 v94) fun v96 =>
  pv (extO 2 v94) fun v97 =>
  al Pg 34 fun v98 =>
  stN 10 v98 v95 fun _ =>
  F4_j17 R x0 x2 x7 x8 v98 v97
theorem F4_j2_ok (R : ER) (e : Env) : den Pg R (cd Try.f4 [1,1,1,1,1,1,1]) e (kont Pg R Try.f4) = (F4_j2 R (e 0) (e 2) (e 7) (e 8) (e 9)) := (den_join Pg R 1 (cd Try.f4 [1,1,1,1,1,1,1]) (cd Try.f4 [1,1,1,1,1,1,1,1,1]) e (kont Pg R Try.f4) (fun e => F4_j3 R (e 0) (e 2) (e 7) (e 8) (e 15)) _ (by kernel_rfl) (fun e => F4_j3_ok R e) (den_join Pg R 0 (pre 1 (cd Try.f4 [1,1,1,1,1,1,1])) (cd Try.f4 [1,1,1,1,1,1,1,1,0]) e (setN (kont Pg R Try.f4) (fun e => F4_j3 R (e 0) (e 2) (e 7) (e 8) (e 15))) (fun e => F4_j17 R (e 0) (e 2) (e 7) (e 8) (e 15) (e 17)) _ (by kernel_rfl) (fun e => F4_j17_ok R e) (by kernel_rfl)))
def F4_j18 (R : ER) (x0 x2 x7 x8 x9 x11 : Value) : WP :=
  cal Pg R 10 ⟨[x8, (.int .i64 1), (.int .i64 1), x11, (.int .i64 5), x0, x7]⟩ fun v99 =>
  pv (extO 0 v99) fun v100 =>
  pv (extO 1 v99) fun v101 =>
  pv (bin .neq v101 (.int .i64 0)) fun v102 =>
  cnd v102 (
   R (.returned (.bool false))) (
   F4_j2 R x0 x2 x7 x8 x9)
theorem F4_j18_ok (R : ER) (e : Env) : den Pg R (cd Try.f4 [1,1,1,1,1,1,0]) e (setN (kont Pg R Try.f4) (fun e => F4_j2 R (e 0) (e 2) (e 7) (e 8) (e 9))) = (F4_j18 R (e 0) (e 2) (e 7) (e 8) (e 9) (e 11)) := (by kernel_rfl)
def F4_j1 (R : ER) (x0 x1 x2 : Value) : WP :=
  pv (cvI .i64 x1) fun v103 =>
  pv (bin .rem v103 (.int .i64 4097)) fun v104 =>
  cal Pg R 7 ⟨[]⟩ fun v105 =>
  cal Pg R 8 ⟨[v105, (.int .i64 0), (.bool false)]⟩ fun v106 =>
  pv (extO 0 v106) fun v107 =>
  pv (extO 1 v106) fun v108 =>
  cal Pg R 9 ⟨[v105, (.int .i64 1), v107]⟩ fun v109 =>
  pv (extO 0 v109) fun v110 =>
  pv (extO 1 v109) fun v111 =>
  F4_j18 R x0 x2 v104 v105 v107 v110
theorem F4_j1_ok (R : ER) (e : Env) : den Pg R (cd Try.f4 [1,1]) e (kont Pg R Try.f4) = (F4_j1 R (e 0) (e 1) (e 2)) := (den_join Pg R 4 (cd Try.f4 [1,1]) (cd Try.f4 [1,1,1,1,1,1,1]) e (kont Pg R Try.f4) (fun e => F4_j2 R (e 0) (e 2) (e 7) (e 8) (e 9)) _ (by kernel_rfl) (fun e => F4_j2_ok R e) (den_join Pg R 3 (pre 4 (cd Try.f4 [1,1])) (cd Try.f4 [1,1,1,1,1,1,0]) e (setN (kont Pg R Try.f4) (fun e => F4_j2 R (e 0) (e 2) (e 7) (e 8) (e 9))) (fun e => F4_j18 R (e 0) (e 2) (e 7) (e 8) (e 9) (e 11)) _ (by kernel_rfl) (fun e => F4_j18_ok R e) (by kernel_rfl)))
def F4 (R : ER) (x0 x1 x2 : Value) : WP :=
  pv (lenS x0) fun v112 =>
  pv (bin .gtr v112 (.int .i64 4096)) fun v113 =>
  gd v113 false (pv (some x2)) fun v114 =>
  gd v113 false (pv (lenS v114)) fun v115 =>
  gd v113 false (pv (bin .gtr v115 (.int .i64 10))) fun v116 =>
  pv (pickO v113 (.bool true) v116) fun v117 =>
  cnd v117 (
   cal Pg R 6 ⟨[]⟩ fun v118 =>
   R (.returned v118)) (
   F4_j1 R x0 x1 x2)
theorem F4_den (R : ER) (x0 x1 x2 : Value) : den Pg R (cd Try.f4 []) (argsEnv [x0, x1, x2]) (kont Pg R Try.f4) = F4 R x0 x1 x2 :=
  have h : ∀ e, den Pg R (cd Try.f4 []) e (kont Pg R Try.f4) = F4 R (e 0) (e 1) (e 2) := fun e => (den_join Pg R 1 (cd Try.f4 []) (cd Try.f4 [1,1]) e (kont Pg R Try.f4) (fun e => F4_j1 R (e 0) (e 1) (e 2)) _ (by kernel_rfl) (fun e => F4_j1_ok R e) (by kernel_rfl))
  h _
theorem F4_calls {R : ER} {x0 x1 x2 : Value} {w : World} (h : F4 R x0 x1 x2 w) : Calls Pg 4 ⟨[x0, x1, x2]⟩ w R :=
  calls_of_den Try.func4 (by kernel_rfl) (by kernel_rfl) (F4_den R x0 x1 x2) h
/-! ### 5: orpimentlaw11_ChannelsPulses -/
def F5_j3 (R : ER) (x3 x4 : Value) : WP :=
  cal Pg R 11 ⟨[x3, (.int .i64 100), (.int .i64 0), x4, (.int .i64 0), (.int .i64 10)]⟩ fun v1 =>
  pv (extO 0 v1) fun v2 =>
  pv (extO 1 v1) fun v3 =>
  pv (extO 2 v1) fun v4 =>
  al Pg 34 fun v5 =>
  stN 10 v5 v2 fun _ =>
  pv (bin .eql v4 (.int .i64 0)) fun v6 =>
  gd v6 true (pv (some v3)) fun v7 =>
  pv (pickO v6 v7 (.bool false)) fun v8 =>
  gd v8 true (cal Pg R 6 ⟨[]⟩) fun v9 =>
  pv (pickO v8 v9 (.bool false)) fun v10 =>
  R (.returned v10)
theorem F5_j3_ok (R : ER) (e : Env) : den Pg R (cd Try.f5 [1,1,1,1,1,1,1,1,1]) e (kont Pg R Try.f5) = (F5_j3 R (e 3) (e 4)) := by kernel_rfl
def F5_j5 (R : ER) (k1 : V4) (x3 x4 x8 x13 : Value) : WP :=
  cal Pg R 11 ⟨[x3, (.int .i64 100), (.int .i64 0), x4, (.int .i64 0), (.int .i64 10)]⟩ fun v11 =>
  pv (extO 0 v11) fun v12 =>
  pv (extO 1 v11) fun v13 =>
  pv (extO 2 v11) fun v14 =>
  al Pg 34 fun v15 =>
  stN 10 v15 v12 fun _ =>
  pv (faO 4 v15) fun v16 =>
  ld1 v16 fun v17 =>
  pv (cvI .u8 v17) fun v18 =>
  pv (faO 5 v15) fun v19 =>
  ld1 v19 fun v20 =>
  pv (cvI .u8 v20) fun v21 =>
  pv (faO 6 v15) fun v22 =>
  ld1 v22 fun v23 =>
  pv (cvI .u8 v23) fun v24 =>
  pv (bldO [.int .u8 0, .int .u8 0, .int .u8 0] [(0,1, v18), (1,1, v21), (2,1, v24)]) fun v25 =>
  al Pg 54 fun v26 =>
  stN 3 v26 v25 fun _ =>
  drewV (
  pv (bin .neq v14 (.int .i64 0)) fun v27 =>
  gd v27 false (pv (some v13)) fun v28 =>
  pv (pickO v27 (.bool true) v28) fun v29 =>
  gd v29 false (pv (faO 0 v15)) fun v30 =>
  gd v29 false (ld1 v30) fun v31 =>
  gd v29 false (pv (bin .neq v31 (.int .i64 0))) fun v32 =>
  pv (pickO v29 (.bool true) v32) fun v33 =>
  gd v33 false (pv (some x8)) fun v34 =>
  gd v33 false (ldN 3 v26) fun v35 =>
  mem fun w37 => gd v33 false (valV Pg noR (Instr.lookup 52 v34 v35 false)) fun v36 =>
  gd v33 false (pv (faO 9 v15)) fun v38 =>
  gd v33 false (ld1S [w37] v38) fun v39 =>
  gd v33 false (pv (bin .neq v36 v39)) fun v40 =>
  pv (pickO v33 (.bool true) v40) fun v41 =>
  gd v41 false (pv (faO 9 v15)) fun v42 =>
  gd v41 false (ld1 v42) fun v43 =>
  gd v41 false (pv (bin .eql v43 (.int .i64 0))) fun v44 =>
  pv (pickO v41 (.bool true) v44) fun v45 =>
  gd v45 false (pv (faO 4 v15)) fun v46 =>
  gd v45 false (ld1 v46) fun v47 =>
  gd v45 false (pv (some x13)) fun v48 =>
  gd v45 false (pv (bin .gtr v47 v48)) fun v49 =>
  pv (pickO v45 (.bool true) v49) fun v50 =>
  cnd v50 (
   R (.returned (.bool false))) (
   pv (faO 4 v15) fun v51 =>
  ld1 v51 fun v52 =>
  ldN 3 v26 fun v53 =>
  blt Pg R .delete ⟨[52,54]⟩ 0 ⟨[false, false]⟩ ⟨[x8, v53]⟩ fun _ =>
  k1 x3 x4 x8 v52))
theorem F5_j5_ok (R : ER) (k1 : V4) (e : Env) : den Pg R (cd Try.f5 [1,1,1,1,1,1,1,1,0,0,0,1]) e (setN (inB 2 (setN (kont Pg R Try.f5) (fun e => F5_j3 R (e 3) (e 4)))) (fun e => k1 (e 3) (e 4) (e 8) (e 13))) = (F5_j5 R k1 (e 3) (e 4) (e 8) (e 13)) := (den_block Pg R (cd Try.f5 [1,1,1,1,1,1,1,1,0,0,0,1]) 3 (cd Try.f5 [1,1,1,1,1,1,1,1,0,0,0,1,0]) e (setN (inB 2 (setN (kont Pg R Try.f5) (fun e => F5_j3 R (e 3) (e 4)))) (fun e => k1 (e 3) (e 4) (e 8) (e 13))) _ (by kernel_rfl) (by kernel_rfl))
def F5_b1 (R : ER) (k1 : V4) (x3 x4 x8 x13 : Value) : WP :=
  blt Pg R .len ⟨[52]⟩ 3 ⟨[false]⟩ ⟨[x8]⟩ fun v54 =>
  pv (bin .gtr v54 (.int .i64 0)) fun v55 =>
  cnd v55 (
   F5_j5 R k1 x3 x4 x8 x13) (
   F5_j3 R x3 x4)
theorem F5_b1_ok (R : ER) (k1 : V4) (e : Env) : den Pg R (cd Try.f5 [1,1,1,1,1,1,1,1,0,0,0]) e (setN (inB 2 (setN (kont Pg R Try.f5) (fun e => F5_j3 R (e 3) (e 4)))) (fun e => k1 (e 3) (e 4) (e 8) (e 13))) = (F5_b1 R k1 (e 3) (e 4) (e 8) (e 13)) := (den_join Pg R 0 (cd Try.f5 [1,1,1,1,1,1,1,1,0,0,0]) (cd Try.f5 [1,1,1,1,1,1,1,1,0,0,0,1]) e (setN (inB 2 (setN (kont Pg R Try.f5) (fun e => F5_j3 R (e 3) (e 4)))) (fun e => k1 (e 3) (e 4) (e 8) (e 13))) (fun e => F5_j5 R k1 (e 3) (e 4) (e 8) (e 13)) _ (by kernel_rfl) (fun e => F5_j5_ok R k1 e) (by kernel_rfl))
noncomputable def F5_l1 (R : ER) (n : Nat) : V4 := Nat.rec (motive := fun _ => V4) (fun _ _ _ _ => fun _ => False) (fun _ ih => fun x3 x4 x8 x13 => F5_b1 R ih x3 x4 x8 x13) n
theorem F5_l1_succ (R : ER) (n : Nat) (x3 x4 x8 x13 : Value) : F5_l1 R (n + 1) x3 x4 x8 x13 = F5_b1 R (F5_l1 R n) x3 x4 x8 x13 := rfl
theorem F5_l1_ok (R : ER) : ∀ (n : Nat) (e : Env), iterL (den Pg R (cd Try.f5 [1,1,1,1,1,1,1,1,0,0,0])) n e (inB 2 (setN (kont Pg R Try.f5) (fun e => F5_j3 R (e 3) (e 4)))) = F5_l1 R n (e 3) (e 4) (e 8) (e 13) :=
  iterL_join (den Pg R (cd Try.f5 [1,1,1,1,1,1,1,1,0,0,0])) (inB 2 (setN (kont Pg R Try.f5) (fun e => F5_j3 R (e 3) (e 4)))) (fun n e => F5_l1 R n (e 3) (e 4) (e 8) (e 13)) (fun _ => rfl) (fun n e => (F5_b1_ok R (F5_l1 R n) e).trans (F5_l1_succ R n (e 3) (e 4) (e 8) (e 13)).symm)
def F5_j4 (R : ER) (x3 x4 x8 x13 : Value) : WP :=
  exN fun n => F5_l1 R n x3 x4 x8 x13
theorem F5_j4_ok (R : ER) (e : Env) : den Pg R (cd Try.f5 [1,1,1,1,1,1,1,1,0]) e (setN (kont Pg R Try.f5) (fun e => F5_j3 R (e 3) (e 4))) = (F5_j4 R (e 3) (e 4) (e 8) (e 13)) := (den_block Pg R (cd Try.f5 [1,1,1,1,1,1,1,1,0]) 2 (cd Try.f5 [1,1,1,1,1,1,1,1,0,0]) e (setN (kont Pg R Try.f5) (fun e => F5_j3 R (e 3) (e 4))) _ (by kernel_rfl) (den_loop Pg R (cd Try.f5 [1,1,1,1,1,1,1,1,0,0]) (cd Try.f5 [1,1,1,1,1,1,1,1,0,0,0]) e (inB 2 (setN (kont Pg R Try.f5) (fun e => F5_j3 R (e 3) (e 4)))) (fun n e => F5_l1 R n (e 3) (e 4) (e 8) (e 13)) _ (by kernel_rfl) (F5_l1_ok R) (by kernel_rfl)))
def F5_j2 (R : ER) (x3 x4 x8 : Value) : WP :=
  F5_j4 R x3 x4 x8 (.int .i64 256)
theorem F5_j2_ok (R : ER) (e : Env) : den Pg R (cd Try.f5 [1,1,1,1,1,1,1]) e (kont Pg R Try.f5) = (F5_j2 R (e 3) (e 4) (e 8)) := (den_join Pg R 1 (cd Try.f5 [1,1,1,1,1,1,1]) (cd Try.f5 [1,1,1,1,1,1,1,1,1]) e (kont Pg R Try.f5) (fun e => F5_j3 R (e 3) (e 4)) _ (by kernel_rfl) (fun e => F5_j3_ok R e) (den_join Pg R 0 (pre 1 (cd Try.f5 [1,1,1,1,1,1,1])) (cd Try.f5 [1,1,1,1,1,1,1,1,0]) e (setN (kont Pg R Try.f5) (fun e => F5_j3 R (e 3) (e 4))) (fun e => F5_j4 R (e 3) (e 4) (e 8) (e 13)) _ (by kernel_rfl) (fun e => F5_j4_ok R e) (by kernel_rfl)))
def F5_j9 (R : ER) (k1 : V7) (x3 x4 x6 x8 x38 x39 x40 : Value) : WP :=
  pv (bin .add x40 (.int .i64 1)) fun v56 =>
  k1 x3 x4 x6 x8 x38 x39 v56
theorem F5_j9_ok (R : ER) (k1 : V7) (e : Env) : den Pg R (cd Try.f5 [1,1,1,1,1,1,0,1,0,0,1,1,1]) e (setN (inB 0 (setN (kont Pg R Try.f5) (fun e => F5_j2 R (e 3) (e 4) (e 8)))) (fun e => k1 (e 3) (e 4) (e 6) (e 8) (e 38) (e 39) (e 40))) = (F5_j9 R k1 (e 3) (e 4) (e 6) (e 8) (e 38) (e 39) (e 40)) := by kernel_rfl
def F5_j10 (R : ER) (k1 : V7) (x3 x4 x6 x8 x38 x39 x40 : Value) : WP :=
  pv (ixS 3 x38 x40) fun v57 =>
  ldN 3 v57 fun v58 =>
  al Pg 54 fun v59 =>
  stN 3 v59 v58 fun _ =>
  pv (faO 1 v59) fun v60 =>
  ld1 v60 fun v61 =>
  pv (bin .rem v61 (.int .u8 128)) fun v62 =>
  pv (faO 1 v59) fun v63 =>
  st1 v63 v62 fun _ =>
  pv (faO 0 v59) fun v64 =>
  ld1 v64 fun v65 =>
  pv (cvI .i64 v65) fun v66 =>
  pv (faO 1 v59) fun v67 =>
  ld1 v67 fun v68 =>
  pv (cvI .i64 v68) fun v69 =>
  pv (faO 2 v59) fun v70 =>
  ld1 v70 fun v71 =>
  pv (cvI .i64 v71) fun v72 =>
  cal Pg R 18 ⟨[x3, (.int .i64 1), x6, v66, v69, v72]⟩ fun v73 =>
  pv (extO 0 v73) fun v74 =>
  pv (extO 1 v73) fun v75 =>
  pv (bin .neq v75 (.int .i64 0)) fun v76 =>
  cnd v76 (
   R (.returned (.bool false))) (
   drewV (
  ldN 3 v59 fun v77 =>
  allW [
  (mem fun w79 => valV Pg noR (Instr.lookup 52 x8 v77 false) fun v78 =>
   pv (bin .add v78 (.int .i64 1)) fun v80 =>
   mem fun w82 => valV Pg noR (Instr.mapEntry 52 x8 v77) fun v81 =>
   pv (extO 1 v81) fun v83 =>
   mem fun w85 => unitV Pg noR (Instr.entryStore 52 x8 v83 v80) fun v84 =>
   F5_j9 R k1 x3 x4 x6 x8 x38 x39 x40),
  (mem fun w87 => valV Pg noR (Instr.mapEntry 52 x8 v77) fun v86 =>
   mem fun w89 => valV Pg noR (Instr.lookup 52 x8 v77 false) fun v88 =>
   pv (bin .add v88 (.int .i64 1)) fun v90 =>
   pv (extO 1 v86) fun v91 =>
   mem fun w93 => unitV Pg noR (Instr.entryStore 52 x8 v91 v90) fun v92 =>
   F5_j9 R k1 x3 x4 x6 x8 x38 x39 x40)]))
theorem F5_j10_ok (R : ER) (k1 : V7) (e : Env) : den Pg R (cd Try.f5 [1,1,1,1,1,1,0,1,0,0,1,1,0]) e (setN (setN (inB 0 (setN (kont Pg R Try.f5) (fun e => F5_j2 R (e 3) (e 4) (e 8)))) (fun e => k1 (e 3) (e 4) (e 6) (e 8) (e 38) (e 39) (e 40))) (fun e => F5_j9 R k1 (e 3) (e 4) (e 6) (e 8) (e 38) (e 39) (e 40))) = (F5_j10 R k1 (e 3) (e 4) (e 6) (e 8) (e 38) (e 39) (e 40)) := (den_block Pg R (cd Try.f5 [1,1,1,1,1,1,0,1,0,0,1,1,0]) 1 (cd Try.f5 [1,1,1,1,1,1,0,1,0,0,1,1,0,0]) e (setN (setN (inB 0 (setN (kont Pg R Try.f5) (fun e => F5_j2 R (e 3) (e 4) (e 8)))) (fun e => k1 (e 3) (e 4) (e 6) (e 8) (e 38) (e 39) (e 40))) (fun e => F5_j9 R k1 (e 3) (e 4) (e 6) (e 8) (e 38) (e 39) (e 40))) _ (by kernel_rfl) (by kernel_rfl))
def F5_j8 (R : ER) (k1 : V7) (x3 x4 x6 x8 x38 x39 x40 : Value) : WP :=
  F5_j10 R k1 x3 x4 x6 x8 x38 x39 x40
theorem F5_j8_ok (R : ER) (k1 : V7) (e : Env) : den Pg R (cd Try.f5 [1,1,1,1,1,1,0,1,0,0,1,1]) e (setN (inB 0 (setN (kont Pg R Try.f5) (fun e => F5_j2 R (e 3) (e 4) (e 8)))) (fun e => k1 (e 3) (e 4) (e 6) (e 8) (e 38) (e 39) (e 40))) = (F5_j8 R k1 (e 3) (e 4) (e 6) (e 8) (e 38) (e 39) (e 40)) := (den_join Pg R 0 (cd Try.f5 [1,1,1,1,1,1,0,1,0,0,1,1]) (cd Try.f5 [1,1,1,1,1,1,0,1,0,0,1,1,1]) e (setN (inB 0 (setN (kont Pg R Try.f5) (fun e => F5_j2 R (e 3) (e 4) (e 8)))) (fun e => k1 (e 3) (e 4) (e 6) (e 8) (e 38) (e 39) (e 40))) (fun e => F5_j9 R k1 (e 3) (e 4) (e 6) (e 8) (e 38) (e 39) (e 40)) _ (by kernel_rfl) (fun e => F5_j9_ok R k1 e) (den_conv Pg R (pre 0 (cd Try.f5 [1,1,1,1,1,1,0,1,0,0,1,1])) (cd Try.f5 [1,1,1,1,1,1,0,1,0,0,1,1,0]) e (setN (setN (inB 0 (setN (kont Pg R Try.f5) (fun e => F5_j2 R (e 3) (e 4) (e 8)))) (fun e => k1 (e 3) (e 4) (e 6) (e 8) (e 38) (e 39) (e 40))) (fun e => F5_j9 R k1 (e 3) (e 4) (e 6) (e 8) (e 38) (e 39) (e 40))) _ (by kernel_rfl) (F5_j10_ok R k1 e)))
def F5_b2 (R : ER) (k1 : V7) (x3 x4 x6 x8 x38 x39 x40 : Value) : WP :=
  pv (bin .lss x40 x39) fun v94 =>
  cnd v94 (
   F5_j8 R k1 x3 x4 x6 x8 x38 x39 x40) (
   F5_j2 R x3 x4 x8)
theorem F5_b2_ok (R : ER) (k1 : V7) (e : Env) : den Pg R (cd Try.f5 [1,1,1,1,1,1,0,1,0,0]) e (setN (inB 0 (setN (kont Pg R Try.f5) (fun e => F5_j2 R (e 3) (e 4) (e 8)))) (fun e => k1 (e 3) (e 4) (e 6) (e 8) (e 38) (e 39) (e 40))) = (F5_b2 R k1 (e 3) (e 4) (e 6) (e 8) (e 38) (e 39) (e 40)) := (den_join Pg R 1 (cd Try.f5 [1,1,1,1,1,1,0,1,0,0]) (cd Try.f5 [1,1,1,1,1,1,0,1,0,0,1,1]) e (setN (inB 0 (setN (kont Pg R Try.f5) (fun e => F5_j2 R (e 3) (e 4) (e 8)))) (fun e => k1 (e 3) (e 4) (e 6) (e 8) (e 38) (e 39) (e 40))) (fun e => F5_j8 R k1 (e 3) (e 4) (e 6) (e 8) (e 38) (e 39) (e 40)) _ (by kernel_rfl) (fun e => F5_j8_ok R k1 e) (by kernel_rfl))
noncomputable def F5_l2 (R : ER) (n : Nat) : V7 := Nat.rec (motive := fun _ => V7) (fun _ _ _ _ _ _ _ => fun _ => False) (fun _ ih => fun x3 x4 x6 x8 x38 x39 x40 => F5_b2 R ih x3 x4 x6 x8 x38 x39 x40) n
theorem F5_l2_succ (R : ER) (n : Nat) (x3 x4 x6 x8 x38 x39 x40 : Value) : F5_l2 R (n + 1) x3 x4 x6 x8 x38 x39 x40 = F5_b2 R (F5_l2 R n) x3 x4 x6 x8 x38 x39 x40 := rfl
theorem F5_l2_ok (R : ER) : ∀ (n : Nat) (e : Env), iterL (den Pg R (cd Try.f5 [1,1,1,1,1,1,0,1,0,0])) n e (inB 0 (setN (kont Pg R Try.f5) (fun e => F5_j2 R (e 3) (e 4) (e 8)))) = F5_l2 R n (e 3) (e 4) (e 6) (e 8) (e 38) (e 39) (e 40) :=
  iterL_join (den Pg R (cd Try.f5 [1,1,1,1,1,1,0,1,0,0])) (inB 0 (setN (kont Pg R Try.f5) (fun e => F5_j2 R (e 3) (e 4) (e 8)))) (fun n e => F5_l2 R n (e 3) (e 4) (e 6) (e 8) (e 38) (e 39) (e 40)) (fun _ => rfl) (fun n e => (F5_b2_ok R (F5_l2 R n) e).trans (F5_l2_succ R n (e 3) (e 4) (e 6) (e 8) (e 38) (e 39) (e 40)).symm)
def F5_j7 (R : ER) (x3 x4 x6 x8 x38 x39 x40 : Value) : WP :=
  exN fun n => F5_l2 R n x3 x4 x6 x8 x38 x39 x40
theorem F5_j7_ok (R : ER) (e : Env) : den Pg R (cd Try.f5 [1,1,1,1,1,1,0,1]) e (setN (kont Pg R Try.f5) (fun e => F5_j2 R (e 3) (e 4) (e 8))) = (F5_j7 R (e 3) (e 4) (e 6) (e 8) (e 38) (e 39) (e 40)) := (den_block Pg R (cd Try.f5 [1,1,1,1,1,1,0,1]) 0 (cd Try.f5 [1,1,1,1,1,1,0,1,0]) e (setN (kont Pg R Try.f5) (fun e => F5_j2 R (e 3) (e 4) (e 8))) _ (by kernel_rfl) (den_loop Pg R (cd Try.f5 [1,1,1,1,1,1,0,1,0]) (cd Try.f5 [1,1,1,1,1,1,0,1,0,0]) e (inB 0 (setN (kont Pg R Try.f5) (fun e => F5_j2 R (e 3) (e 4) (e 8)))) (fun n e => F5_l2 R n (e 3) (e 4) (e 6) (e 8) (e 38) (e 39) (e 40)) _ (by kernel_rfl) (F5_l2_ok R) (by kernel_rfl)))
def F5_j6 (R : ER) (x0 x3 x4 x6 x8 : Value) : WP :=
  pv (lenS x0) fun v95 =>
  F5_j7 R x3 x4 x6 x8 x0 v95 (.int .i64 0)
theorem F5_j6_ok (R : ER) (e : Env) : den Pg R (cd Try.f5 [1,1,1,1,1,1,0]) e (setN (kont Pg R Try.f5) (fun e => F5_j2 R (e 3) (e 4) (e 8))) = (F5_j6 R (e 0) (e 3) (e 4) (e 6) (e 8)) := (den_join Pg R 0 (cd Try.f5 [1,1,1,1,1,1,0]) (cd Try.f5 [1,1,1,1,1,1,0,1]) e (setN (kont Pg R Try.f5) (fun e => F5_j2 R (e 3) (e 4) (e 8))) (fun e => F5_j7 R (e 3) (e 4) (e 6) (e 8) (e 38) (e 39) (e 40)) _ (by kernel_rfl) (fun e => F5_j7_ok R e) (by kernel_rfl))
def F5_j1 (R : ER) (x0 : Value) : WP :=
  cal Pg R 7 ⟨[]⟩ fun v96 =>
  cal Pg R 8 ⟨[v96, (.int .i64 0), (.bool false)]⟩ fun v97 =>
  pv (extO 0 v97) fun v98 =>
  pv (extO 1 v97) fun v99 =>
  cal Pg R 9 ⟨[v96, (.int .i64 1), v98]⟩ fun v100 =>
  pv (extO 0 v100) fun v101 =>
  pv (extO 1 v100) fun v102 =>
  valV Pg R (Instr.makeMap 52 none) fun v103 =>
  F5_j6 R x0 v96 v98 v101 v103
theorem F5_j1_ok (R : ER) (e : Env) : den Pg R (cd Try.f5 [1,1]) e (kont Pg R Try.f5) = (F5_j1 R (e 0)) := (den_join Pg R 4 (cd Try.f5 [1,1]) (cd Try.f5 [1,1,1,1,1,1,1]) e (kont Pg R Try.f5) (fun e => F5_j2 R (e 3) (e 4) (e 8)) _ (by kernel_rfl) (fun e => F5_j2_ok R e) (den_join Pg R 3 (pre 4 (cd Try.f5 [1,1])) (cd Try.f5 [1,1,1,1,1,1,0]) e (setN (kont Pg R Try.f5) (fun e => F5_j2 R (e 3) (e 4) (e 8))) (fun e => F5_j6 R (e 0) (e 3) (e 4) (e 6) (e 8)) _ (by kernel_rfl) (fun e => F5_j6_ok R e) (by kernel_rfl)))
def F5 (R : ER) (x0 : Value) : WP :=
  pv (lenS x0) fun v104 =>
  pv (bin .gtr v104 (.int .i64 60)) fun v105 =>
  cnd v105 (
   cal Pg R 6 ⟨[]⟩ fun v106 =>
   R (.returned v106)) (
   F5_j1 R x0)
theorem F5_den (R : ER) (x0 : Value) : den Pg R (cd Try.f5 []) (argsEnv [x0]) (kont Pg R Try.f5) = F5 R x0 :=
  have h : ∀ e, den Pg R (cd Try.f5 []) e (kont Pg R Try.f5) = F5 R (e 0) := fun e => (den_join Pg R 1 (cd Try.f5 []) (cd Try.f5 [1,1]) e (kont Pg R Try.f5) (fun e => F5_j1 R (e 0)) _ (by kernel_rfl) (fun e => F5_j1_ok R e) (by kernel_rfl))
  h _
theorem F5_calls {R : ER} {x0 : Value} {w : World} (h : F5 R x0 w) : Calls Pg 5 ⟨[x0]⟩ w R :=
  calls_of_den Try.func5 (by kernel_rfl) (by kernel_rfl) (F5_den R x0) h
/-! ### 6: orpimentlaw11_awake -/
def F6_j1 (R : ER) (x1 : Value) : WP :=
  cal Pg R 13 ⟨[x1, (.int .i64 1), (.int .i64 1), (.int .i64 3), (.int .i64 9)]⟩ fun v1 =>
  pv (extO 0 v1) fun v2 =>
  pv (extO 1 v1) fun v3 =>
  valV Pg R (Instr.buildSlice 22 2 ⟨[(0, (.int .u8 111)), (1, (.int .u8 107))]⟩) fun v4 =>
  valV Pg R (convert 22 22 v4) fun v5 =>
  cal Pg R 16 ⟨[x1, (.int .i64 1), (.int .i64 1), (.int .i64 7), v5]⟩ fun v6 =>
  pv (extO 0 v6) fun v7 =>
  pv (extO 1 v6) fun v8 =>
  cal Pg R 17 ⟨[x1, (.int .i64 5)]⟩ fun v9 =>
  pv (extO 0 v9) fun v10 =>
  pv (extO 1 v9) fun v11 =>
  pv (bin .eql v3 (.int .i64 0)) fun v12 =>
  gd v12 true (pv (some v8)) fun v13 =>
  gd v12 true (pv (bin .eql v13 (.int .i64 0))) fun v14 =>
  pv (pickO v12 v14 (.bool false)) fun v15 =>
  gd v15 true (pv (some v2)) fun v16 =>
  gd v15 true (valV Pg R (convert 22 9 v16)) fun v17 =>
  gd v15 true (pv (binS .eql v17 (.string ⟨⟨[108,111]⟩⟩))) fun v18 =>
  pv (pickO v15 v18 (.bool false)) fun v19 =>
  gd v19 true (pv (some v7)) fun v20 =>
  gd v19 true (pv (lenS v20)) fun v21 =>
  gd v19 true (pv (bin .eql v21 (.int .i64 1))) fun v22 =>
  pv (pickO v19 v22 (.bool false)) fun v23 =>
  gd v23 true (pv (some v7)) fun v24 =>
  gd v23 true (pv (ixS 3 v24 (.int .i64 0))) fun v25 =>
  gd v23 true (ldN 3 v25) fun v26 =>
  gd v23 true (pv (bldO [.int .i64 0, .int .i64 0, .int .i64 0] [(0,1, (.int .i64 5)), (2,1, (.int .i64 7))])) fun v27 =>
  gd v23 true (pv (eqAgg [0,0,0] v26 v27)) fun v28 =>
  pv (pickO v23 v28 (.bool false)) fun v29 =>
  gd v29 true (pv (some v11)) fun v30 =>
  pv (pickO v29 v30 (.bool false)) fun v31 =>
  gd v31 true (pv (some v10)) fun v32 =>
  gd v31 true (valV Pg R (convert 22 9 v32)) fun v33 =>
  gd v31 true (pv (binS .eql v33 (.string ⟨⟨[111,107]⟩⟩))) fun v34 =>
  pv (pickO v31 v34 (.bool false)) fun v35 =>
  R (.returned v35)
theorem F6_j1_ok (R : ER) (e : Env) : den Pg R (cd Try.f6 [1,1,1,1,1,1,1]) e (kont Pg R Try.f6) = (F6_j1 R (e 1)) := by kernel_rfl
def F6_j2 (R : ER) (x1 x3 x5 x7 x8 x9 x10 : Value) : WP :=
  pv (bin .neq x3 (.int .i64 0)) fun v36 =>
  gd v36 false (pv (some x5)) fun v37 =>
  gd v36 false (pv (bin .neq v37 (.int .i64 0))) fun v38 =>
  pv (pickO v36 (.bool true) v38) fun v39 =>
  gd v39 false (pv (some x7)) fun v40 =>
  gd v39 false (pv (bin .neq v40 (.int .i64 0))) fun v41 =>
  pv (pickO v39 (.bool true) v41) fun v42 =>
  gd v42 false (pv (some x10)) fun v43 =>
  gd v42 false (pv (bin .neq v43 (.int .i64 0))) fun v44 =>
  pv (pickO v42 (.bool true) v44) fun v45 =>
  gd v45 false (pv (some x9)) fun v46 =>
  pv (pickO v45 (.bool true) v46) fun v47 =>
  gd v47 false (pv (faO 7 x8)) fun v48 =>
  gd v47 false (ld1 v48) fun v49 =>
  gd v47 false (valV Pg R (convert 22 9 v49)) fun v50 =>
  gd v47 false (pv (binS .neq v50 (.string ⟨⟨[104,101,108]⟩⟩))) fun v51 =>
  pv (pickO v47 (.bool true) v51) fun v52 =>
  gd v52 false (pv (faO 8 x8)) fun v53 =>
  gd v52 false (ld1 v53) fun v54 =>
  gd v52 false (pv (bin .neq v54 (.int .i64 5))) fun v55 =>
  pv (pickO v52 (.bool true) v55) fun v56 =>
  gd v56 false (pv (faO 0 x8)) fun v57 =>
  gd v56 false (ld1 v57) fun v58 =>
  gd v56 false (pv (bin .neq v58 (.int .i64 1))) fun v59 =>
  pv (pickO v56 (.bool true) v59) fun v60 =>
  gd v60 false (pv (faO 1 x8)) fun v61 =>
  gd v60 false (ld1 v61) fun v62 =>
  gd v60 false (pv (bin .neq v62 (.int .i64 5))) fun v63 =>
  pv (pickO v60 (.bool true) v63) fun v64 =>
  cnd v64 (
   R (.returned (.bool false))) (
   F6_j1 R x1)
theorem F6_j2_ok (R : ER) (e : Env) : den Pg R (cd Try.f6 [1,1,1,1,1,1,0]) e (setN (kont Pg R Try.f6) (fun e => F6_j1 R (e 1))) = (F6_j2 R (e 1) (e 3) (e 5) (e 7) (e 8) (e 9) (e 10)) := (by kernel_rfl)
def F6 (R : ER) : WP :=
  cal Pg R 7 ⟨[]⟩ fun v65 =>
  cal Pg R 8 ⟨[v65, (.int .i64 1), (.bool false)]⟩ fun v66 =>
  pv (extO 0 v66) fun v67 =>
  pv (extO 1 v66) fun v68 =>
  cal Pg R 9 ⟨[v65, (.int .i64 2), v67]⟩ fun v69 =>
  pv (extO 0 v69) fun v70 =>
  pv (extO 1 v69) fun v71 =>
  valV Pg R (Instr.buildSlice 22 5 ⟨[(0, (.int .u8 104)), (1, (.int .u8 101)), (2, (.int .u8 108)), (3, (.int .u8 108)), (4, (.int .u8 111))]⟩) fun v72 =>
  valV Pg R (convert 22 22 v72) fun v73 =>
  cal Pg R 10 ⟨[v65, (.int .i64 5), (.int .i64 2), v70, (.int .i64 10), v73, (.int .i64 4)]⟩ fun v74 =>
  pv (extO 0 v74) fun v75 =>
  pv (extO 1 v74) fun v76 =>
  cal Pg R 11 ⟨[v65, (.int .i64 3), (.int .i64 1), v67, (.int .i64 20), (.int .i64 3)]⟩ fun v77 =>
  pv (extO 0 v77) fun v78 =>
  pv (extO 1 v77) fun v79 =>
  pv (extO 2 v77) fun v80 =>
  al Pg 34 fun v81 =>
  stN 10 v81 v78 fun _ =>
  F6_j2 R v65 v68 v71 v76 v81 v79 v80
theorem F6_den (R : ER) : den Pg R (cd Try.f6 []) (argsEnv []) (kont Pg R Try.f6) = F6 R :=
  have h : ∀ e, den Pg R (cd Try.f6 []) e (kont Pg R Try.f6) = F6 R := fun e => (den_join Pg R 6 (cd Try.f6 []) (cd Try.f6 [1,1,1,1,1,1,1]) e (kont Pg R Try.f6) (fun e => F6_j1 R (e 1)) _ (by kernel_rfl) (fun e => F6_j1_ok R e) (den_join Pg R 5 (pre 6 (cd Try.f6 [])) (cd Try.f6 [1,1,1,1,1,1,0]) e (setN (kont Pg R Try.f6) (fun e => F6_j1 R (e 1))) (fun e => F6_j2 R (e 1) (e 3) (e 5) (e 7) (e 8) (e 9) (e 10)) _ (by kernel_rfl) (fun e => F6_j2_ok R e) (by kernel_rfl)))
  h _
theorem F6_calls {R : ER} {w : World} (h : F6 R w) : Calls Pg 6 ⟨[]⟩ w R :=
  calls_of_den Try.func6 (by kernel_rfl) (by kernel_rfl) (F6_den R) h
/-! ### 7: channels_New -/
def F7 (R : ER) : WP :=
  valV Pg R (Instr.makeMap 59 none) fun v1 =>
  valV Pg R (Instr.makeMap 60 none) fun v2 =>
  valV Pg R (Instr.makeMap 61 none) fun v3 =>
  valV Pg R (Instr.makeMap 62 none) fun v4 =>
  valV Pg R (Instr.makeMap 63 none) fun v5 =>
  pv (bldO [.map none, .map none, .map none, .slice none 0 0, .map none, .map none, .int .i64 0, .int .i64 0] [(0,1, v1), (1,1, v2), (2,1, v3), (4,1, v4), (5,1, v5)]) fun v6 =>
  bx 66 v6 fun v7 =>
  R (.returned v7)
theorem F7_den (R : ER) : den Pg R (cd Try.f7 []) (argsEnv []) (kont Pg R Try.f7) = F7 R :=
  have h : ∀ e, den Pg R (cd Try.f7 []) e (kont Pg R Try.f7) = F7 R := fun e => by kernel_rfl
  h _
theorem F7_calls {R : ER} {w : World} (h : F7 R w) : Calls Pg 7 ⟨[]⟩ w R :=
  calls_of_den Try.func7 (by kernel_rfl) (by kernel_rfl) (F7_den R) h
/-! ### 8: channels_Table_Create -/
def F8_j1 (R : ER) (x0 x1 x2 : Value) : WP :=
  pv (nilO x0) fun v1 =>
  pv (faO 0 v1) fun v2 =>
  ld1 v2 fun v3 =>
  cal Pg R 20 ⟨[v3]⟩ fun v4 =>
  pv (nilO x0) fun v5 =>
  pv (faO 0 v5) fun v6 =>
  ld1 v6 fun v7 =>
  valV Pg R (Instr.makeMap 70 none) fun v8 =>
  pv (bldO [.int .i64 0, .int .i64 0, .bool false, .slice none 0 0, .slice none 0 0, .map none] [(0,1, v4), (1,1, x1), (2,1, x2), (5,1, v8)]) fun v9 =>
  bx 74 v9 fun v10 =>
  unitV Pg R (Instr.mapUpdate 59 v7 v4 v10) fun _ =>
  R (.returned (.tuple ⟨[v4, (.int .i64 0)]⟩))
theorem F8_j1_ok (R : ER) (e : Env) : den Pg R (cd Try.f8 [1,1]) e (kont Pg R Try.f8) = (F8_j1 R (e 0) (e 1) (e 2)) := by kernel_rfl
def F8_j4 (R : ER) (x0 x1 x2 : Value) : WP :=
  cal Pg R 19 ⟨[x1]⟩ fun v11 =>
  pv (unO .not v11) fun v12 =>
  cnd v12 (
   R (.returned (.tuple ⟨[(.int .i64 0), (.int .i64 34)]⟩))) (
   pv (nilO x0) fun v13 =>
   pv (faO 0 v13) fun v14 =>
   ld1 v14 fun v15 =>
   blt Pg R .len ⟨[59]⟩ 3 ⟨[false]⟩ ⟨[v15]⟩ fun v16 =>
   pv (bin .geq v16 (.int .i64 200)) fun v17 =>
   cnd v17 (
    R (.returned (.tuple ⟨[(.int .i64 0), (.int .i64 18)]⟩))) (
    F8_j1 R x0 x1 x2))
theorem F8_j4_ok (R : ER) (e : Env) : den Pg R (cd Try.f8 [1,0,0,1,1]) e (inB 0 (setN (kont Pg R Try.f8) (fun e => F8_j1 R (e 0) (e 1) (e 2)))) = (F8_j4 R (e 0) (e 1) (e 2)) := (by kernel_rfl)
def F8_j3 (R : ER) (x0 x1 x2 x9 : Value) : WP :=
  cnd x9 (R (.returned (.tuple ⟨[(.int .i64 0), (.int .i64 35)]⟩))) (F8_j4 R x0 x1 x2)
theorem F8_j3_ok (R : ER) (e : Env) : den Pg R (cd Try.f8 [1,0,0,1]) e (inB 0 (setN (kont Pg R Try.f8) (fun e => F8_j1 R (e 0) (e 1) (e 2)))) = (F8_j3 R (e 0) (e 1) (e 2) (e 9)) := (den_if Pg R (cd Try.f8 [1,0,0,1]) (cd Try.f8 [1,0,0,1,0]) (cd Try.f8 [1,0,0,1,1]) e (inB 0 (setN (kont Pg R Try.f8) (fun e => F8_j1 R (e 0) (e 1) (e 2)))) _ (F8_j4 R (e 0) (e 1) (e 2)) _ (by kernel_rfl) rfl (F8_j4_ok R e) (by kernel_rfl))
def F8_j2 (R : ER) (x0 x1 x2 : Value) : WP :=
  pv (eqNilP x0) fun v18 =>
  F8_j3 R x0 x1 x2 v18
theorem F8_j2_ok (R : ER) (e : Env) : den Pg R (cd Try.f8 [1,0]) e (setN (kont Pg R Try.f8) (fun e => F8_j1 R (e 0) (e 1) (e 2))) = (F8_j2 R (e 0) (e 1) (e 2)) := (den_block Pg R (cd Try.f8 [1,0]) 0 (cd Try.f8 [1,0,0]) e (setN (kont Pg R Try.f8) (fun e => F8_j1 R (e 0) (e 1) (e 2))) _ (by kernel_rfl) (den_join Pg R 0 (cd Try.f8 [1,0,0]) (cd Try.f8 [1,0,0,1]) e (inB 0 (setN (kont Pg R Try.f8) (fun e => F8_j1 R (e 0) (e 1) (e 2)))) (fun e => F8_j3 R (e 0) (e 1) (e 2) (e 9)) _ (by kernel_rfl) (fun e => F8_j3_ok R e) (by kernel_rfl)))
def F8 (R : ER) (x0 x1 x2 : Value) : WP :=
  F8_j2 R x0 x1 x2
theorem F8_den (R : ER) (x0 x1 x2 : Value) : den Pg R (cd Try.f8 []) (argsEnv [x0, x1, x2]) (kont Pg R Try.f8) = F8 R x0 x1 x2 :=
  have h : ∀ e, den Pg R (cd Try.f8 []) e (kont Pg R Try.f8) = F8 R (e 0) (e 1) (e 2) := fun e => (den_join Pg R 1 (cd Try.f8 []) (cd Try.f8 [1,1]) e (kont Pg R Try.f8) (fun e => F8_j1 R (e 0) (e 1) (e 2)) _ (by kernel_rfl) (fun e => F8_j1_ok R e) (den_join Pg R 0 (pre 1 (cd Try.f8 [])) (cd Try.f8 [1,0]) e (setN (kont Pg R Try.f8) (fun e => F8_j1 R (e 0) (e 1) (e 2))) (fun e => F8_j2 R (e 0) (e 1) (e 2)) _ (by kernel_rfl) (fun e => F8_j2_ok R e) (by kernel_rfl)))
  h _
theorem F8_calls {R : ER} {x0 x1 x2 : Value} {w : World} (h : F8 R x0 x1 x2 w) : Calls Pg 8 ⟨[x0, x1, x2]⟩ w R :=
  calls_of_den Try.func8 (by kernel_rfl) (by kernel_rfl) (F8_den R x0 x1 x2) h
/-! ### 9: channels_Table_Attach -/
def F9_j5 (R : ER) (x0 x1 x8 x10 : Value) : WP :=
  pv (nilO x8) fun v1 =>
  pv (faO 5 v1) fun v2 =>
  ld1 v2 fun v3 =>
  cal Pg R 21 ⟨[v3]⟩ fun v4 =>
  pv (bldO [.pointer none, .int .i64 0] [(0,1, x8), (1,1, v4)]) fun v5 =>
  bx 81 v5 fun v6 =>
  drewV (
  pv (nilO x8) fun v7 =>
  pv (faO 5 v7) fun v8 =>
  ld1 v8 fun v9 =>
  pv (nilO v6) fun v10 =>
  pv (faO 1 v10) fun v11 =>
  ld1 v11 fun v12 =>
  mem fun w14 => unitV Pg noR (Instr.mapUpdate 70 v9 v12 v6) fun v13 =>
  pv (nilO x0) fun v15 =>
  pv (faO 1 v15) fun v16 =>
  ld1 v16 fun v17 =>
  pv (bldO [.int .i64 0, .int .i64 0] [(0,1, x1), (1,1, x10)]) fun v18 =>
  unitV Pg R (Instr.mapUpdate 60 v17 v18 v6) fun _ =>
  R (.returned (.tuple ⟨[x10, (.int .i64 0)]⟩)))
theorem F9_j5_ok (R : ER) (e : Env) : den Pg R (cd Try.f9 [1,1,1,1,1,1,1,1]) e (kont Pg R Try.f9) = (F9_j5 R (e 0) (e 1) (e 8) (e 10)) := by kernel_rfl
def F9_j4 (R : ER) (x0 x1 x8 x10 : Value) : WP :=
  pv (bin .geq x10 (.int .i64 256)) fun v19 =>
  cnd v19 (
   R (.returned (.tuple ⟨[(.int .i64 0), (.int .i64 18)]⟩))) (
   F9_j5 R x0 x1 x8 x10)
theorem F9_j4_ok (R : ER) (e : Env) : den Pg R (cd Try.f9 [1,1,1,1,1,1,1]) e (kont Pg R Try.f9) = (F9_j4 R (e 0) (e 1) (e 8) (e 10)) := (den_join Pg R 0 (cd Try.f9 [1,1,1,1,1,1,1]) (cd Try.f9 [1,1,1,1,1,1,1,1]) e (kont Pg R Try.f9) (fun e => F9_j5 R (e 0) (e 1) (e 8) (e 10)) _ (by kernel_rfl) (fun e => F9_j5_ok R e) (by kernel_rfl))
def F9_b1 (R : ER) (k1 : V4) (x0 x1 x8 x10 : Value) : WP :=
  pv (nilO x0) fun v20 =>
  pv (faO 1 v20) fun v21 =>
  ld1 v21 fun v22 =>
  pv (bldO [.int .i64 0, .int .i64 0] [(0,1, x1), (1,1, x10)]) fun v23 =>
  valV Pg R (Instr.lookup 60 v22 v23 false) fun v24 =>
  pv (neNilP v24) fun v25 =>
  cnd v25 (
   pv (bin .add x10 (.int .i64 1)) fun v26 =>
  k1 x0 x1 x8 v26) (
   F9_j4 R x0 x1 x8 x10)
theorem F9_b1_ok (R : ER) (k1 : V4) (e : Env) : den Pg R (cd Try.f9 [1,1,1,1,1,1,0,0,0]) e (setN (inB 0 (setN (kont Pg R Try.f9) (fun e => F9_j4 R (e 0) (e 1) (e 8) (e 10)))) (fun e => k1 (e 0) (e 1) (e 8) (e 10))) = (F9_b1 R k1 (e 0) (e 1) (e 8) (e 10)) := by kernel_rfl
noncomputable def F9_l1 (R : ER) (n : Nat) : V4 := Nat.rec (motive := fun _ => V4) (fun _ _ _ _ => fun _ => False) (fun _ ih => fun x0 x1 x8 x10 => F9_b1 R ih x0 x1 x8 x10) n
theorem F9_l1_succ (R : ER) (n : Nat) (x0 x1 x8 x10 : Value) : F9_l1 R (n + 1) x0 x1 x8 x10 = F9_b1 R (F9_l1 R n) x0 x1 x8 x10 := rfl
theorem F9_l1_ok (R : ER) : ∀ (n : Nat) (e : Env), iterL (den Pg R (cd Try.f9 [1,1,1,1,1,1,0,0,0])) n e (inB 0 (setN (kont Pg R Try.f9) (fun e => F9_j4 R (e 0) (e 1) (e 8) (e 10)))) = F9_l1 R n (e 0) (e 1) (e 8) (e 10) :=
  iterL_join (den Pg R (cd Try.f9 [1,1,1,1,1,1,0,0,0])) (inB 0 (setN (kont Pg R Try.f9) (fun e => F9_j4 R (e 0) (e 1) (e 8) (e 10)))) (fun n e => F9_l1 R n (e 0) (e 1) (e 8) (e 10)) (fun _ => rfl) (fun n e => (F9_b1_ok R (F9_l1 R n) e).trans (F9_l1_succ R n (e 0) (e 1) (e 8) (e 10)).symm)
def F9_j6 (R : ER) (x0 x1 x8 x10 : Value) : WP :=
  exN fun n => F9_l1 R n x0 x1 x8 x10
theorem F9_j6_ok (R : ER) (e : Env) : den Pg R (cd Try.f9 [1,1,1,1,1,1,0]) e (setN (kont Pg R Try.f9) (fun e => F9_j4 R (e 0) (e 1) (e 8) (e 10))) = (F9_j6 R (e 0) (e 1) (e 8) (e 10)) := (den_block Pg R (cd Try.f9 [1,1,1,1,1,1,0]) 0 (cd Try.f9 [1,1,1,1,1,1,0,0]) e (setN (kont Pg R Try.f9) (fun e => F9_j4 R (e 0) (e 1) (e 8) (e 10))) _ (by kernel_rfl) (den_loop Pg R (cd Try.f9 [1,1,1,1,1,1,0,0]) (cd Try.f9 [1,1,1,1,1,1,0,0,0]) e (inB 0 (setN (kont Pg R Try.f9) (fun e => F9_j4 R (e 0) (e 1) (e 8) (e 10)))) (fun n e => F9_l1 R n (e 0) (e 1) (e 8) (e 10)) _ (by kernel_rfl) (F9_l1_ok R) (by kernel_rfl)))
def F9_j3 (R : ER) (x0 x1 x8 : Value) : WP :=
  F9_j6 R x0 x1 x8 (.int .i64 0)
theorem F9_j3_ok (R : ER) (e : Env) : den Pg R (cd Try.f9 [1,1,1,1,1]) e (kont Pg R Try.f9) = (F9_j3 R (e 0) (e 1) (e 8)) := (den_join Pg R 1 (cd Try.f9 [1,1,1,1,1]) (cd Try.f9 [1,1,1,1,1,1,1]) e (kont Pg R Try.f9) (fun e => F9_j4 R (e 0) (e 1) (e 8) (e 10)) _ (by kernel_rfl) (fun e => F9_j4_ok R e) (den_join Pg R 0 (pre 1 (cd Try.f9 [1,1,1,1,1])) (cd Try.f9 [1,1,1,1,1,1,0]) e (setN (kont Pg R Try.f9) (fun e => F9_j4 R (e 0) (e 1) (e 8) (e 10))) (fun e => F9_j6 R (e 0) (e 1) (e 8) (e 10)) _ (by kernel_rfl) (fun e => F9_j6_ok R e) (by kernel_rfl)))
def F9_j2 (R : ER) (x0 x1 x2 : Value) : WP :=
  pv (nilO x0) fun v27 =>
  pv (faO 0 v27) fun v28 =>
  ld1 v28 fun v29 =>
  valV Pg R (Instr.lookup 59 v29 x2 true) fun v30 =>
  pv (extO 0 v30) fun v31 =>
  pv (extO 1 v30) fun v32 =>
  pv (unO .not v32) fun v33 =>
  cnd v33 (
   R (.returned (.tuple ⟨[(.int .i64 0), (.int .i64 3)]⟩))) (
   F9_j3 R x0 x1 v31)
theorem F9_j2_ok (R : ER) (e : Env) : den Pg R (cd Try.f9 [1,1,1]) e (kont Pg R Try.f9) = (F9_j2 R (e 0) (e 1) (e 2)) := (den_join Pg R 1 (cd Try.f9 [1,1,1]) (cd Try.f9 [1,1,1,1,1]) e (kont Pg R Try.f9) (fun e => F9_j3 R (e 0) (e 1) (e 8)) _ (by kernel_rfl) (fun e => F9_j3_ok R e) (by kernel_rfl))
def F9_j1 (R : ER) (x0 x1 x2 : Value) : WP :=
  cal Pg R 19 ⟨[x1]⟩ fun v34 =>
  pv (unO .not v34) fun v35 =>
  cnd v35 (
   R (.returned (.tuple ⟨[(.int .i64 0), (.int .i64 34)]⟩))) (
   F9_j2 R x0 x1 x2)
theorem F9_j1_ok (R : ER) (e : Env) : den Pg R (cd Try.f9 [1,1]) e (kont Pg R Try.f9) = (F9_j1 R (e 0) (e 1) (e 2)) := (den_join Pg R 0 (cd Try.f9 [1,1]) (cd Try.f9 [1,1,1]) e (kont Pg R Try.f9) (fun e => F9_j2 R (e 0) (e 1) (e 2)) _ (by kernel_rfl) (fun e => F9_j2_ok R e) (by kernel_rfl))
def F9 (R : ER) (x0 x1 x2 : Value) : WP :=
  pv (eqNilP x0) fun v36 =>
  cnd v36 (
   R (.returned (.tuple ⟨[(.int .i64 0), (.int .i64 35)]⟩))) (
   F9_j1 R x0 x1 x2)
theorem F9_den (R : ER) (x0 x1 x2 : Value) : den Pg R (cd Try.f9 []) (argsEnv [x0, x1, x2]) (kont Pg R Try.f9) = F9 R x0 x1 x2 :=
  have h : ∀ e, den Pg R (cd Try.f9 []) e (kont Pg R Try.f9) = F9 R (e 0) (e 1) (e 2) := fun e => (den_join Pg R 1 (cd Try.f9 []) (cd Try.f9 [1,1]) e (kont Pg R Try.f9) (fun e => F9_j1 R (e 0) (e 1) (e 2)) _ (by kernel_rfl) (fun e => F9_j1_ok R e) (by kernel_rfl))
  h _
theorem F9_calls {R : ER} {x0 x1 x2 : Value} {w : World} (h : F9 R x0 x1 x2 w) : Calls Pg 9 ⟨[x0, x1, x2]⟩ w R :=
  calls_of_den Try.func9 (by kernel_rfl) (by kernel_rfl) (F9_den R x0 x1 x2) h
/-! ### 10: channels_Table_Send -/
def F10_j8 (R : ER) (x0 x1 x18 x19 : Value) : WP :=
  ldN 11 x19 fun v1 =>
  cal Pg R 27 ⟨[x18, v1]⟩ fun v2 =>
  pv (nilO x0) fun v3 =>
  pv (faO 2 v3) fun v4 =>
  ld1 v4 fun v5 =>
  pv (bldO [.int .i64 0, .pointer none, .pointer none] [(0,1, (.int .i64 2)), (1,1, x18)]) fun v6 =>
  unitV Pg R (Instr.mapUpdate 61 v5 x1 v6) fun _ =>
  R (.returned (.tuple ⟨[(.slice none 0 0), (.int .i64 0)]⟩))
theorem F10_j8_ok (R : ER) (e : Env) : den Pg R (cd Try.f10 [1,1,1,1,1,1,1,1,1,1,1,1]) e (kont Pg R Try.f10) = (F10_j8 R (e 0) (e 1) (e 18) (e 19)) := by kernel_rfl
def F10_j7 (R : ER) (x0 x1 x18 x19 : Value) : WP :=
  pv (nilO x18) fun v7 =>
  pv (faO 4 v7) fun v8 =>
  ld1 v8 fun v9 =>
  pv (lenS v9) fun v10 =>
  pv (bin .gtr v10 (.int .i64 0)) fun v11 =>
  cnd v11 (
   ldN 11 x19 fun v12 =>
   cal Pg R 26 ⟨[x0, x18, v12]⟩ fun v13 =>
   R (.returned (.tuple ⟨[v13, (.int .i64 0)]⟩))) (
   F10_j8 R x0 x1 x18 x19)
theorem F10_j7_ok (R : ER) (e : Env) : den Pg R (cd Try.f10 [1,1,1,1,1,1,1,1,1,1,1]) e (kont Pg R Try.f10) = (F10_j7 R (e 0) (e 1) (e 18) (e 19)) := (den_join Pg R 0 (cd Try.f10 [1,1,1,1,1,1,1,1,1,1,1]) (cd Try.f10 [1,1,1,1,1,1,1,1,1,1,1,1]) e (kont Pg R Try.f10) (fun e => F10_j8 R (e 0) (e 1) (e 18) (e 19)) _ (by kernel_rfl) (fun e => F10_j8_ok R e) (by kernel_rfl))
def F10_j6 (R : ER) (x0 x1 x2 x4 x5 x6 x16 : Value) : WP :=
  pv (nilO x0) fun v14 =>
  pv (faO 5 v14) fun v15 =>
  ld1 v15 fun v16 =>
  blt Pg R .delete ⟨[63,3]⟩ 0 ⟨[false, false]⟩ ⟨[v16, x1]⟩ fun _ =>
  pv (nilO x16) fun v17 =>
  pv (faO 0 v17) fun v18 =>
  ld1 v18 fun v19 =>
  drewV (
  pv (nilO x16) fun v20 =>
  pv (faO 1 v20) fun v21 =>
  ld1 v21 fun v22 =>
  allW [
  (mem fun w24 => cal Pg noR 25 ⟨[x0, x4]⟩ fun v23 =>
   rd1 v21 v22 <|
   allW [
   (mem fun w26 => cal Pg noR 15 ⟨[x5]⟩ fun v25 =>
    rd1 v21 v22 <|
    pv (bldO [.int .i64 0, .int .i64 0, .int .i64 0, .int .i64 0, .int .i64 0, .pointer none, .slice none 0 0, .int .i64 0, .int .i64 0, .int .i64 0, .int .i64 0] [(0,2, v23), (2,1, x1), (3,1, x2), (4,1, v22), (5,1, x16), (6,1, v25), (7,1, x6)]) fun v27 =>
    mem fun w29 => al Pg 89 fun v28 =>
    rd1 v21 v22 <|
    mem fun w31 => stN 11 v28 v27 fun v30 =>
    F10_j7 R x0 x1 v19 v28),
   (mem fun w33 => al Pg 89 fun v32 =>
    rd1 v21 v22 <|
    mem fun w35 => cal Pg noR 15 ⟨[x5]⟩ fun v34 =>
    rd1 v21 v22 <|
    pv (bldO [.int .i64 0, .int .i64 0, .int .i64 0, .int .i64 0, .int .i64 0, .pointer none, .slice none 0 0, .int .i64 0, .int .i64 0, .int .i64 0, .int .i64 0] [(0,2, v23), (2,1, x1), (3,1, x2), (4,1, v22), (5,1, x16), (6,1, v34), (7,1, x6)]) fun v36 =>
    mem fun w38 => stN 11 v32 v36 fun v37 =>
    F10_j7 R x0 x1 v19 v32)]),
  (mem fun w40 => al Pg 89 fun v39 =>
   rd1 v21 v22 <|
   mem fun w42 => cal Pg noR 25 ⟨[x0, x4]⟩ fun v41 =>
   rd1 v21 v22 <|
   mem fun w44 => cal Pg noR 15 ⟨[x5]⟩ fun v43 =>
   rd1 v21 v22 <|
   pv (bldO [.int .i64 0, .int .i64 0, .int .i64 0, .int .i64 0, .int .i64 0, .pointer none, .slice none 0 0, .int .i64 0, .int .i64 0, .int .i64 0, .int .i64 0] [(0,2, v41), (2,1, x1), (3,1, x2), (4,1, v22), (5,1, x16), (6,1, v43), (7,1, x6)]) fun v45 =>
   mem fun w47 => stN 11 v39 v45 fun v46 =>
   F10_j7 R x0 x1 v19 v39)])
theorem F10_j6_ok (R : ER) (e : Env) : den Pg R (cd Try.f10 [1,1,1,1,1,1,1,1]) e (kont Pg R Try.f10) = (F10_j6 R (e 0) (e 1) (e 2) (e 4) (e 5) (e 6) (e 16)) := (den_join Pg R 2 (cd Try.f10 [1,1,1,1,1,1,1,1]) (cd Try.f10 [1,1,1,1,1,1,1,1,1,1,1]) e (kont Pg R Try.f10) (fun e => F10_j7 R (e 0) (e 1) (e 18) (e 19)) _ (by kernel_rfl) (fun e => F10_j7_ok R e) (by kernel_rfl))
def F10_j5 (R : ER) (x0 x1 x2 x4 x5 x6 x16 : Value) : WP :=
  pv (nilO x16) fun v48 =>
  pv (faO 0 v48) fun v49 =>
  ld1 v49 fun v50 =>
  pv (eqNilP v50) fun v51 =>
  cnd v51 (
   R (.returned (.tuple ⟨[(.slice none 0 0), (.int .i64 4)]⟩))) (
   F10_j6 R x0 x1 x2 x4 x5 x6 x16)
theorem F10_j5_ok (R : ER) (e : Env) : den Pg R (cd Try.f10 [1,1,1,1,1,1,1]) e (kont Pg R Try.f10) = (F10_j5 R (e 0) (e 1) (e 2) (e 4) (e 5) (e 6) (e 16)) := (den_join Pg R 0 (cd Try.f10 [1,1,1,1,1,1,1]) (cd Try.f10 [1,1,1,1,1,1,1,1]) e (kont Pg R Try.f10) (fun e => F10_j6 R (e 0) (e 1) (e 2) (e 4) (e 5) (e 6) (e 16)) _ (by kernel_rfl) (fun e => F10_j6_ok R e) (by kernel_rfl))
def F10_j4 (R : ER) (x0 x1 x2 x3 x4 x5 x6 : Value) : WP :=
  pv (nilO x0) fun v52 =>
  pv (faO 1 v52) fun v53 =>
  ld1 v53 fun v54 =>
  pv (bldO [.int .i64 0, .int .i64 0] [(0,1, x2), (1,1, x3)]) fun v55 =>
  valV Pg R (Instr.lookup 60 v54 v55 true) fun v56 =>
  pv (extO 0 v56) fun v57 =>
  pv (extO 1 v56) fun v58 =>
  pv (unO .not v58) fun v59 =>
  cnd v59 (
   R (.returned (.tuple ⟨[(.slice none 0 0), (.int .i64 3)]⟩))) (
   F10_j5 R x0 x1 x2 x4 x5 x6 v57)
theorem F10_j4_ok (R : ER) (e : Env) : den Pg R (cd Try.f10 [1,1,1,1,1]) e (kont Pg R Try.f10) = (F10_j4 R (e 0) (e 1) (e 2) (e 3) (e 4) (e 5) (e 6)) := (den_join Pg R 1 (cd Try.f10 [1,1,1,1,1]) (cd Try.f10 [1,1,1,1,1,1,1]) e (kont Pg R Try.f10) (fun e => F10_j5 R (e 0) (e 1) (e 2) (e 4) (e 5) (e 6) (e 16)) _ (by kernel_rfl) (fun e => F10_j5_ok R e) (by kernel_rfl))
def F10_j3 (R : ER) (x0 x1 x2 x3 x4 x5 x6 : Value) : WP :=
  cal Pg R 24 ⟨[x0, x1]⟩ fun v60 =>
  pv (bin .neq v60 (.int .i64 1)) fun v61 =>
  cnd v61 (
   R (.returned (.tuple ⟨[(.slice none 0 0), (.int .i64 35)]⟩))) (
   F10_j4 R x0 x1 x2 x3 x4 x5 x6)
theorem F10_j3_ok (R : ER) (e : Env) : den Pg R (cd Try.f10 [1,1,1,1]) e (kont Pg R Try.f10) = (F10_j3 R (e 0) (e 1) (e 2) (e 3) (e 4) (e 5) (e 6)) := (den_join Pg R 0 (cd Try.f10 [1,1,1,1]) (cd Try.f10 [1,1,1,1,1]) e (kont Pg R Try.f10) (fun e => F10_j4 R (e 0) (e 1) (e 2) (e 3) (e 4) (e 5) (e 6)) _ (by kernel_rfl) (fun e => F10_j4_ok R e) (by kernel_rfl))
def F10_j2 (R : ER) (x0 x1 x2 x3 x4 x5 x6 : Value) : WP :=
  pv (lenS x5) fun v62 =>
  pv (bin .gtr v62 (.int .i64 4096)) fun v63 =>
  cnd v63 (
   R (.returned (.tuple ⟨[(.slice none 0 0), (.int .i64 20)]⟩))) (
   F10_j3 R x0 x1 x2 x3 x4 x5 x6)
theorem F10_j2_ok (R : ER) (e : Env) : den Pg R (cd Try.f10 [1,1,1]) e (kont Pg R Try.f10) = (F10_j2 R (e 0) (e 1) (e 2) (e 3) (e 4) (e 5) (e 6)) := (den_join Pg R 0 (cd Try.f10 [1,1,1]) (cd Try.f10 [1,1,1,1]) e (kont Pg R Try.f10) (fun e => F10_j3 R (e 0) (e 1) (e 2) (e 3) (e 4) (e 5) (e 6)) _ (by kernel_rfl) (fun e => F10_j3_ok R e) (by kernel_rfl))
def F10_j9 (R : ER) (x0 x1 x2 x3 x4 x5 x6 : Value) : WP :=
  cal Pg R 22 ⟨[x1]⟩ fun v64 =>
  pv (unO .not v64) fun v65 =>
  gd v65 false (pv (some x2)) fun v66 =>
  gd v65 false (cal Pg R 19 ⟨[v66]⟩) fun v67 =>
  gd v65 false (pv (unO .not v67)) fun v68 =>
  pv (pickO v65 (.bool true) v68) fun v69 =>
  gd v69 false (pv (some x4)) fun v70 =>
  gd v69 false (cal Pg R 23 ⟨[v70, (.int .i64 255)]⟩) fun v71 =>
  gd v69 false (pv (unO .not v71)) fun v72 =>
  pv (pickO v69 (.bool true) v72) fun v73 =>
  gd v73 false (pv (some x6)) fun v74 =>
  gd v73 false (cal Pg R 23 ⟨[v74, (.int .i64 4096)]⟩) fun v75 =>
  gd v73 false (pv (unO .not v75)) fun v76 =>
  pv (pickO v73 (.bool true) v76) fun v77 =>
  cnd v77 (
   R (.returned (.tuple ⟨[(.slice none 0 0), (.int .i64 34)]⟩))) (
   F10_j2 R x0 x1 x2 x3 x4 x5 x6)
theorem F10_j9_ok (R : ER) (e : Env) : den Pg R (cd Try.f10 [1,1,0]) e (setN (kont Pg R Try.f10) (fun e => F10_j2 R (e 0) (e 1) (e 2) (e 3) (e 4) (e 5) (e 6))) = (F10_j9 R (e 0) (e 1) (e 2) (e 3) (e 4) (e 5) (e 6)) := (by kernel_rfl)
def F10_j1 (R : ER) (x0 x1 x2 x3 x4 x5 x6 : Value) : WP :=
  F10_j9 R x0 x1 x2 x3 x4 x5 x6
theorem F10_j1_ok (R : ER) (e : Env) : den Pg R (cd Try.f10 [1,1]) e (kont Pg R Try.f10) = (F10_j1 R (e 0) (e 1) (e 2) (e 3) (e 4) (e 5) (e 6)) := (den_join Pg R 0 (cd Try.f10 [1,1]) (cd Try.f10 [1,1,1]) e (kont Pg R Try.f10) (fun e => F10_j2 R (e 0) (e 1) (e 2) (e 3) (e 4) (e 5) (e 6)) _ (by kernel_rfl) (fun e => F10_j2_ok R e) (den_conv Pg R (pre 0 (cd Try.f10 [1,1])) (cd Try.f10 [1,1,0]) e (setN (kont Pg R Try.f10) (fun e => F10_j2 R (e 0) (e 1) (e 2) (e 3) (e 4) (e 5) (e 6))) _ (by kernel_rfl) (F10_j9_ok R e)))
def F10 (R : ER) (x0 x1 x2 x3 x4 x5 x6 : Value) : WP :=
  pv (eqNilP x0) fun v78 =>
  cnd v78 (
   R (.returned (.tuple ⟨[(.slice none 0 0), (.int .i64 35)]⟩))) (
   F10_j1 R x0 x1 x2 x3 x4 x5 x6)
theorem F10_den (R : ER) (x0 x1 x2 x3 x4 x5 x6 : Value) : den Pg R (cd Try.f10 []) (argsEnv [x0, x1, x2, x3, x4, x5, x6]) (kont Pg R Try.f10) = F10 R x0 x1 x2 x3 x4 x5 x6 :=
  have h : ∀ e, den Pg R (cd Try.f10 []) e (kont Pg R Try.f10) = F10 R (e 0) (e 1) (e 2) (e 3) (e 4) (e 5) (e 6) := fun e => (den_join Pg R 1 (cd Try.f10 []) (cd Try.f10 [1,1]) e (kont Pg R Try.f10) (fun e => F10_j1 R (e 0) (e 1) (e 2) (e 3) (e 4) (e 5) (e 6)) _ (by kernel_rfl) (fun e => F10_j1_ok R e) (by kernel_rfl))
  h _
theorem F10_calls {R : ER} {x0 x1 x2 x3 x4 x5 x6 : Value} {w : World} (h : F10 R x0 x1 x2 x3 x4 x5 x6 w) : Calls Pg 10 ⟨[x0, x1, x2, x3, x4, x5, x6]⟩ w R :=
  calls_of_den Try.func10 (by kernel_rfl) (by kernel_rfl) (F10_den R x0 x1 x2 x3 x4 x5 x6) h
/-! ### 11: channels_Table_Receive -/
def F11_j5 (R : ER) (x0 x1 x4 x5 x12 x15 : Value) : WP :=
  pv (nilO x0) fun v1 =>
  pv (faO 4 v1) fun v2 =>
  ld1 v2 fun v3 =>
  blt Pg R .delete ⟨[62,3]⟩ 0 ⟨[false, false]⟩ ⟨[v3, x1]⟩ fun _ =>
  drewV (
  pv (nilO x15) fun v4 =>
  pv (faO 4 v4) fun v5 =>
  ld1 v5 fun v6 =>
  mem fun w8 => cal Pg noR 25 ⟨[x0, x4]⟩ fun v7 =>
  rd1 v5 v6 <|
  pv (bldO [.int .i64 0, .int .i64 0, .int .i64 0, .int .i64 0] [(0,2, v7), (2,1, x1), (3,1, x5)]) fun v9 =>
  mem fun w11 => cal Pg noR 31 ⟨[v6, v9, (.func (.func 32) ⟨[]⟩ ⟨[]⟩)]⟩ fun v10 =>
  pv (nilO x15) fun v12 =>
  pv (faO 4 v12) fun v13 =>
  mem fun w15 => st1 v13 v10 fun v14 =>
  pv (nilO x0) fun v16 =>
  pv (faO 2 v16) fun v17 =>
  ld1 v17 fun v18 =>
  pv (bldO [.int .i64 0, .pointer none, .pointer none] [(0,1, (.int .i64 3)), (1,1, x15)]) fun v19 =>
  unitV Pg R (Instr.mapUpdate 61 v18 x1 v19) fun _ =>
  pv (bldO [.int .i64 0, .int .i64 0, .int .i64 0, .int .i64 0, .int .i64 0, .int .i64 0, .int .i64 0, .slice none 0 0, .int .i64 0, .int .i64 0] []) fun v20 =>
  stN 10 x12 v20 fun _ =>
  ldN 10 x12 fun v21 => R (.returned (.tuple ⟨[v21, (.bool true), (.int .i64 0)]⟩)))
theorem F11_j5_ok (R : ER) (e : Env) : den Pg R (cd Try.f11 [1,1,1,1,1,1,1]) e (kont Pg R Try.f11) = (F11_j5 R (e 0) (e 1) (e 4) (e 5) (e 12) (e 15)) := by kernel_rfl
def F11_j8 (R : ER) (x0 x1 x5 x12 x15 : Value) : WP :=
  pv (nilO x15) fun v22 =>
  pv (faO 3 v22) fun v23 =>
  ld1 v23 fun v24 =>
  pv (ixS 11 v24 (.int .i64 0)) fun v25 =>
  ldN 11 v25 fun v26 =>
  al Pg 89 fun v27 =>
  stN 11 v27 v26 fun _ =>
  pv (nilO x15) fun v28 =>
  pv (faO 3 v28) fun v29 =>
  ld1 v29 fun v30 =>
  cal Pg R 29 ⟨[v30, (.int .i64 0), (.int .i64 1)]⟩ fun v31 =>
  pv (nilO x15) fun v32 =>
  pv (faO 3 v32) fun v33 =>
  st1 v33 v31 fun _ =>
  ldN 11 v27 fun v34 =>
  cal Pg R 30 ⟨[x0, x15, v34, x1, x5]⟩ fun v35 =>
  stN 10 x12 v35 fun _ =>
  ldN 10 x12 fun v36 => R (.returned (.tuple ⟨[v36, (.bool false), (.int .i64 0)]⟩))
theorem F11_j8_ok (R : ER) (e : Env) : den Pg R (cd Try.f11 [1,1,1,1,1,1,0,1,0]) e (setN (kont Pg R Try.f11) (fun e => F11_j5 R (e 0) (e 1) (e 4) (e 5) (e 12) (e 15))) = (F11_j8 R (e 0) (e 1) (e 5) (e 12) (e 15)) := by kernel_rfl
def F11_j7 (R : ER) (x0 x1 x4 x5 x12 x15 x61 : Value) : WP :=
  cnd x61 (F11_j8 R x0 x1 x5 x12 x15) (F11_j5 R x0 x1 x4 x5 x12 x15)
theorem F11_j7_ok (R : ER) (e : Env) : den Pg R (cd Try.f11 [1,1,1,1,1,1,0,1]) e (setN (kont Pg R Try.f11) (fun e => F11_j5 R (e 0) (e 1) (e 4) (e 5) (e 12) (e 15))) = (F11_j7 R (e 0) (e 1) (e 4) (e 5) (e 12) (e 15) (e 61)) := (den_if Pg R (cd Try.f11 [1,1,1,1,1,1,0,1]) (cd Try.f11 [1,1,1,1,1,1,0,1,0]) (cd Try.f11 [1,1,1,1,1,1,0,1,1]) e (setN (kont Pg R Try.f11) (fun e => F11_j5 R (e 0) (e 1) (e 4) (e 5) (e 12) (e 15))) (F11_j8 R (e 0) (e 1) (e 5) (e 12) (e 15)) _ _ (by kernel_rfl) (F11_j8_ok R e) rfl (by kernel_rfl))
def F11_j6 (R : ER) (x0 x1 x4 x5 x12 x15 : Value) : WP :=
  pv (nilO x15) fun v37 =>
  pv (faO 3 v37) fun v38 =>
  ld1 v38 fun v39 =>
  pv (lenS v39) fun v40 =>
  pv (bin .gtr v40 (.int .i64 0)) fun v41 =>
  F11_j7 R x0 x1 x4 x5 x12 x15 v41
theorem F11_j6_ok (R : ER) (e : Env) : den Pg R (cd Try.f11 [1,1,1,1,1,1,0]) e (setN (kont Pg R Try.f11) (fun e => F11_j5 R (e 0) (e 1) (e 4) (e 5) (e 12) (e 15))) = (F11_j6 R (e 0) (e 1) (e 4) (e 5) (e 12) (e 15)) := (den_join Pg R 0 (cd Try.f11 [1,1,1,1,1,1,0]) (cd Try.f11 [1,1,1,1,1,1,0,1]) e (setN (kont Pg R Try.f11) (fun e => F11_j5 R (e 0) (e 1) (e 4) (e 5) (e 12) (e 15))) (fun e => F11_j7 R (e 0) (e 1) (e 4) (e 5) (e 12) (e 15) (e 61)) _ (by kernel_rfl) (fun e => F11_j7_ok R e) (by kernel_rfl))
def F11_j4 (R : ER) (x0 x1 x4 x5 x12 x15 : Value) : WP :=
  F11_j6 R x0 x1 x4 x5 x12 x15
theorem F11_j4_ok (R : ER) (e : Env) : den Pg R (cd Try.f11 [1,1,1,1,1,1]) e (kont Pg R Try.f11) = (F11_j4 R (e 0) (e 1) (e 4) (e 5) (e 12) (e 15)) := (den_join Pg R 0 (cd Try.f11 [1,1,1,1,1,1]) (cd Try.f11 [1,1,1,1,1,1,1]) e (kont Pg R Try.f11) (fun e => F11_j5 R (e 0) (e 1) (e 4) (e 5) (e 12) (e 15)) _ (by kernel_rfl) (fun e => F11_j5_ok R e) (den_conv Pg R (pre 0 (cd Try.f11 [1,1,1,1,1,1])) (cd Try.f11 [1,1,1,1,1,1,0]) e (setN (kont Pg R Try.f11) (fun e => F11_j5 R (e 0) (e 1) (e 4) (e 5) (e 12) (e 15))) _ (by kernel_rfl) (F11_j6_ok R e)))
def F11_j3 (R : ER) (x0 x1 x2 x3 x4 x5 x12 : Value) : WP :=
  cal Pg R 28 ⟨[x0, x2, x3]⟩ fun v42 =>
  pv (extO 0 v42) fun v43 =>
  pv (extO 1 v42) fun v44 =>
  pv (bin .neq v44 (.int .i64 0)) fun v45 =>
  cnd v45 (
   pv (bldO [.int .i64 0, .int .i64 0, .int .i64 0, .int .i64 0, .int .i64 0, .int .i64 0, .int .i64 0, .slice none 0 0, .int .i64 0, .int .i64 0] []) fun v46 =>
   stN 10 x12 v46 fun _ =>
   ldN 10 x12 fun v47 => R (.returned (.tuple ⟨[v47, (.bool false), v44]⟩))) (
   F11_j4 R x0 x1 x4 x5 x12 v43)
theorem F11_j3_ok (R : ER) (e : Env) : den Pg R (cd Try.f11 [1,1,1,1]) e (kont Pg R Try.f11) = (F11_j3 R (e 0) (e 1) (e 2) (e 3) (e 4) (e 5) (e 12)) := (den_join Pg R 1 (cd Try.f11 [1,1,1,1]) (cd Try.f11 [1,1,1,1,1,1]) e (kont Pg R Try.f11) (fun e => F11_j4 R (e 0) (e 1) (e 4) (e 5) (e 12) (e 15)) _ (by kernel_rfl) (fun e => F11_j4_ok R e) (by kernel_rfl))
def F11_j2 (R : ER) (x0 x1 x2 x3 x4 x5 x12 : Value) : WP :=
  cal Pg R 24 ⟨[x0, x1]⟩ fun v48 =>
  pv (bin .neq v48 (.int .i64 1)) fun v49 =>
  cnd v49 (
   pv (bldO [.int .i64 0, .int .i64 0, .int .i64 0, .int .i64 0, .int .i64 0, .int .i64 0, .int .i64 0, .slice none 0 0, .int .i64 0, .int .i64 0] []) fun v50 =>
   stN 10 x12 v50 fun _ =>
   ldN 10 x12 fun v51 => R (.returned (.tuple ⟨[v51, (.bool false), (.int .i64 35)]⟩))) (
   F11_j3 R x0 x1 x2 x3 x4 x5 x12)
theorem F11_j2_ok (R : ER) (e : Env) : den Pg R (cd Try.f11 [1,1,1]) e (kont Pg R Try.f11) = (F11_j2 R (e 0) (e 1) (e 2) (e 3) (e 4) (e 5) (e 12)) := (den_join Pg R 0 (cd Try.f11 [1,1,1]) (cd Try.f11 [1,1,1,1]) e (kont Pg R Try.f11) (fun e => F11_j3 R (e 0) (e 1) (e 2) (e 3) (e 4) (e 5) (e 12)) _ (by kernel_rfl) (fun e => F11_j3_ok R e) (by kernel_rfl))
def F11_j9 (R : ER) (x0 x1 x2 x3 x4 x5 x12 : Value) : WP :=
  cal Pg R 22 ⟨[x1]⟩ fun v52 =>
  pv (unO .not v52) fun v53 =>
  gd v53 false (pv (some x2)) fun v54 =>
  gd v53 false (cal Pg R 19 ⟨[v54]⟩) fun v55 =>
  gd v53 false (pv (unO .not v55)) fun v56 =>
  pv (pickO v53 (.bool true) v56) fun v57 =>
  gd v57 false (pv (some x4)) fun v58 =>
  gd v57 false (cal Pg R 23 ⟨[v58, (.int .i64 255)]⟩) fun v59 =>
  gd v57 false (pv (unO .not v59)) fun v60 =>
  pv (pickO v57 (.bool true) v60) fun v61 =>
  gd v61 false (pv (some x5)) fun v62 =>
  gd v61 false (cal Pg R 23 ⟨[v62, (.int .i64 4096)]⟩) fun v63 =>
  gd v61 false (pv (unO .not v63)) fun v64 =>
  pv (pickO v61 (.bool true) v64) fun v65 =>
  cnd v65 (
   pv (bldO [.int .i64 0, .int .i64 0, .int .i64 0, .int .i64 0, .int .i64 0, .int .i64 0, .int .i64 0, .slice none 0 0, .int .i64 0, .int .i64 0] []) fun v66 =>
   stN 10 x12 v66 fun _ =>
   ldN 10 x12 fun v67 => R (.returned (.tuple ⟨[v67, (.bool false), (.int .i64 34)]⟩))) (
   F11_j2 R x0 x1 x2 x3 x4 x5 x12)
theorem F11_j9_ok (R : ER) (e : Env) : den Pg R (cd Try.f11 [1,1,0]) e (setN (kont Pg R Try.f11) (fun e => F11_j2 R (e 0) (e 1) (e 2) (e 3) (e 4) (e 5) (e 12))) = (F11_j9 R (e 0) (e 1) (e 2) (e 3) (e 4) (e 5) (e 12)) := (by kernel_rfl)
def F11_j1 (R : ER) (x0 x1 x2 x3 x4 x5 x12 : Value) : WP :=
  F11_j9 R x0 x1 x2 x3 x4 x5 x12
theorem F11_j1_ok (R : ER) (e : Env) : den Pg R (cd Try.f11 [1,1]) e (kont Pg R Try.f11) = (F11_j1 R (e 0) (e 1) (e 2) (e 3) (e 4) (e 5) (e 12)) := (den_join Pg R 0 (cd Try.f11 [1,1]) (cd Try.f11 [1,1,1]) e (kont Pg R Try.f11) (fun e => F11_j2 R (e 0) (e 1) (e 2) (e 3) (e 4) (e 5) (e 12)) _ (by kernel_rfl) (fun e => F11_j2_ok R e) (den_conv Pg R (pre 0 (cd Try.f11 [1,1])) (cd Try.f11 [1,1,0]) e (setN (kont Pg R Try.f11) (fun e => F11_j2 R (e 0) (e 1) (e 2) (e 3) (e 4) (e 5) (e 12))) _ (by kernel_rfl) (F11_j9_ok R e)))
def F11 (R : ER) (x0 x1 x2 x3 x4 x5 : Value) : WP :=
  al Pg 34 fun v68 =>
  pv (eqNilP x0) fun v69 =>
  cnd v69 (
   pv (bldO [.int .i64 0, .int .i64 0, .int .i64 0, .int .i64 0, .int .i64 0, .int .i64 0, .int .i64 0, .slice none 0 0, .int .i64 0, .int .i64 0] []) fun v70 =>
   stN 10 v68 v70 fun _ =>
   ldN 10 v68 fun v71 => R (.returned (.tuple ⟨[v71, (.bool false), (.int .i64 35)]⟩))) (
   F11_j1 R x0 x1 x2 x3 x4 x5 v68)
theorem F11_den (R : ER) (x0 x1 x2 x3 x4 x5 : Value) : den Pg R (cd Try.f11 []) (argsEnv [x0, x1, x2, x3, x4, x5]) (kont Pg R Try.f11) = F11 R x0 x1 x2 x3 x4 x5 :=
  have h : ∀ e, den Pg R (cd Try.f11 []) e (kont Pg R Try.f11) = F11 R (e 0) (e 1) (e 2) (e 3) (e 4) (e 5) := fun e => (den_join Pg R 1 (cd Try.f11 []) (cd Try.f11 [1,1]) e (kont Pg R Try.f11) (fun e => F11_j1 R (e 0) (e 1) (e 2) (e 3) (e 4) (e 5) (e 12)) _ (by kernel_rfl) (fun e => F11_j1_ok R e) (by kernel_rfl))
  h _
theorem F11_calls {R : ER} {x0 x1 x2 x3 x4 x5 : Value} {w : World} (h : F11 R x0 x1 x2 x3 x4 x5 w) : Calls Pg 11 ⟨[x0, x1, x2, x3, x4, x5]⟩ w R :=
  calls_of_den Try.func11 (by kernel_rfl) (by kernel_rfl) (F11_den R x0 x1 x2 x3 x4 x5) h
/-! ### 12: slices_Equal -/
def F12_j2 (R : ER) : WP :=
  R (.returned (.bool true))
theorem F12_j2_ok (R : ER) (e : Env) : den Pg R (cd Try.f12 [1,1,1]) e (kont Pg R Try.f12) = (F12_j2 R) := by kernel_rfl
def F12_j5 (R : ER) (k1 : V4) (x0 x1 x12 x13 : Value) : WP :=
  drewV (
  pv (ixS 1 x0 x13) fun v1 =>
  ld1 v1 fun v2 =>
  pv (ixS 1 x1 x13) fun v3 =>
  ld1 v3 fun v4 =>
  pv (bin .neq v2 v4) fun v5 =>
  cnd v5 (
   R (.returned (.bool false))) (
   pv (bin .add x13 (.int .i64 1)) fun v6 =>
  k1 x0 x1 x12 v6))
theorem F12_j5_ok (R : ER) (k1 : V4) (e : Env) : den Pg R (cd Try.f12 [1,1,0,1,0,0,1,1]) e (setN (inB 0 (setN (kont Pg R Try.f12) (fun e => F12_j2 R))) (fun e => k1 (e 0) (e 1) (e 12) (e 13))) = (F12_j5 R k1 (e 0) (e 1) (e 12) (e 13)) := (by kernel_rfl)
def F12_b1 (R : ER) (k1 : V4) (x0 x1 x12 x13 : Value) : WP :=
  pv (bin .lss x13 x12) fun v7 =>
  cnd v7 (
   F12_j5 R k1 x0 x1 x12 x13) (
   F12_j2 R)
theorem F12_b1_ok (R : ER) (k1 : V4) (e : Env) : den Pg R (cd Try.f12 [1,1,0,1,0,0]) e (setN (inB 0 (setN (kont Pg R Try.f12) (fun e => F12_j2 R))) (fun e => k1 (e 0) (e 1) (e 12) (e 13))) = (F12_b1 R k1 (e 0) (e 1) (e 12) (e 13)) := (den_join Pg R 1 (cd Try.f12 [1,1,0,1,0,0]) (cd Try.f12 [1,1,0,1,0,0,1,1]) e (setN (inB 0 (setN (kont Pg R Try.f12) (fun e => F12_j2 R))) (fun e => k1 (e 0) (e 1) (e 12) (e 13))) (fun e => F12_j5 R k1 (e 0) (e 1) (e 12) (e 13)) _ (by kernel_rfl) (fun e => F12_j5_ok R k1 e) (by kernel_rfl))
noncomputable def F12_l1 (R : ER) (n : Nat) : V4 := Nat.rec (motive := fun _ => V4) (fun _ _ _ _ => fun _ => False) (fun _ ih => fun x0 x1 x12 x13 => F12_b1 R ih x0 x1 x12 x13) n
theorem F12_l1_succ (R : ER) (n : Nat) (x0 x1 x12 x13 : Value) : F12_l1 R (n + 1) x0 x1 x12 x13 = F12_b1 R (F12_l1 R n) x0 x1 x12 x13 := rfl
theorem F12_l1_ok (R : ER) : ∀ (n : Nat) (e : Env), iterL (den Pg R (cd Try.f12 [1,1,0,1,0,0])) n e (inB 0 (setN (kont Pg R Try.f12) (fun e => F12_j2 R))) = F12_l1 R n (e 0) (e 1) (e 12) (e 13) :=
  iterL_join (den Pg R (cd Try.f12 [1,1,0,1,0,0])) (inB 0 (setN (kont Pg R Try.f12) (fun e => F12_j2 R))) (fun n e => F12_l1 R n (e 0) (e 1) (e 12) (e 13)) (fun _ => rfl) (fun n e => (F12_b1_ok R (F12_l1 R n) e).trans (F12_l1_succ R n (e 0) (e 1) (e 12) (e 13)).symm)
def F12_j4 (R : ER) (x0 x1 x12 x13 : Value) : WP :=
  exN fun n => F12_l1 R n x0 x1 x12 x13
theorem F12_j4_ok (R : ER) (e : Env) : den Pg R (cd Try.f12 [1,1,0,1]) e (setN (kont Pg R Try.f12) (fun e => F12_j2 R)) = (F12_j4 R (e 0) (e 1) (e 12) (e 13)) := (den_block Pg R (cd Try.f12 [1,1,0,1]) 0 (cd Try.f12 [1,1,0,1,0]) e (setN (kont Pg R Try.f12) (fun e => F12_j2 R)) _ (by kernel_rfl) (den_loop Pg R (cd Try.f12 [1,1,0,1,0]) (cd Try.f12 [1,1,0,1,0,0]) e (inB 0 (setN (kont Pg R Try.f12) (fun e => F12_j2 R))) (fun n e => F12_l1 R n (e 0) (e 1) (e 12) (e 13)) _ (by kernel_rfl) (F12_l1_ok R) (by kernel_rfl)))
def F12_j3 (R : ER) (x0 x1 : Value) : WP :=
  pv (lenS x0) fun v8 =>
  F12_j4 R x0 x1 v8 (.int .i64 0)
theorem F12_j3_ok (R : ER) (e : Env) : den Pg R (cd Try.f12 [1,1,0]) e (setN (kont Pg R Try.f12) (fun e => F12_j2 R)) = (F12_j3 R (e 0) (e 1)) := (den_join Pg R 0 (cd Try.f12 [1,1,0]) (cd Try.f12 [1,1,0,1]) e (setN (kont Pg R Try.f12) (fun e => F12_j2 R)) (fun e => F12_j4 R (e 0) (e 1) (e 12) (e 13)) _ (by kernel_rfl) (fun e => F12_j4_ok R e) (by kernel_rfl))
def F12_j1 (R : ER) (x0 x1 : Value) : WP :=
  F12_j3 R x0 x1
theorem F12_j1_ok (R : ER) (e : Env) : den Pg R (cd Try.f12 [1,1]) e (kont Pg R Try.f12) = (F12_j1 R (e 0) (e 1)) := (den_join Pg R 0 (cd Try.f12 [1,1]) (cd Try.f12 [1,1,1]) e (kont Pg R Try.f12) (fun e => F12_j2 R) _ (by kernel_rfl) (fun e => F12_j2_ok R e) (den_conv Pg R (pre 0 (cd Try.f12 [1,1])) (cd Try.f12 [1,1,0]) e (setN (kont Pg R Try.f12) (fun e => F12_j2 R)) _ (by kernel_rfl) (F12_j3_ok R e)))
def F12 (R : ER) (x0 x1 : Value) : WP :=
  pv (lenS x0) fun v9 =>
  pv (lenS x1) fun v10 =>
  pv (bin .neq v9 v10) fun v11 =>
  cnd v11 (
   R (.returned (.bool false))) (
   F12_j1 R x0 x1)
theorem F12_den (R : ER) (x0 x1 : Value) : den Pg R (cd Try.f12 []) (argsEnv [x0, x1]) (kont Pg R Try.f12) = F12 R x0 x1 :=
  have h : ∀ e, den Pg R (cd Try.f12 []) e (kont Pg R Try.f12) = F12 R (e 0) (e 1) := fun e => (den_join Pg R 1 (cd Try.f12 []) (cd Try.f12 [1,1]) e (kont Pg R Try.f12) (fun e => F12_j1 R (e 0) (e 1)) _ (by kernel_rfl) (fun e => F12_j1_ok R e) (by kernel_rfl))
  h _
theorem F12_calls {R : ER} {x0 x1 : Value} {w : World} (h : F12 R x0 x1 w) : Calls Pg 12 ⟨[x0, x1]⟩ w R :=
  calls_of_den Try.func12 (by kernel_rfl) (by kernel_rfl) (F12_den R x0 x1) h
/-! ### 13: channels_Table_Read -/
def F13_j2 (R : ER) (x3 x4 x12 : Value) : WP :=
  drewV (
  pv (nilO x12) fun v1 =>
  pv (faO 5 v1) fun v2 =>
  ld1 v2 fun v3 =>
  pv (nilO x12) fun v4 =>
  pv (faO 5 v4) fun v5 =>
  ld1 v5 fun v6 =>
  pv (lenS v6) fun v7 =>
  pv (bin .sub v7 x3) fun v8 =>
  pv (min2I x4 v8) fun v9 =>
  pv (bin .add x3 v9) fun v10 =>
  pv (slS 1 v3 (some x3) (some v10)) fun v11 =>
  mem fun w13 => cal Pg noR 15 ⟨[v11]⟩ fun v12 =>
  R (.returned (.tuple ⟨[v12, (.int .i64 0)]⟩)))
theorem F13_j2_ok (R : ER) (e : Env) : den Pg R (cd Try.f13 [1,1,1,1]) e (kont Pg R Try.f13) = (F13_j2 R (e 3) (e 4) (e 12)) := by kernel_rfl
def F13_j3 (R : ER) (x3 x4 x12 : Value) : WP :=
  pv (bin .lss x3 (.int .i64 0)) fun v14 =>
  gd v14 false (pv (some x4)) fun v15 =>
  gd v14 false (pv (bin .lss v15 (.int .i64 0))) fun v16 =>
  pv (pickO v14 (.bool true) v16) fun v17 =>
  gd v17 false (pv (some x3)) fun v18 =>
  gd v17 false (pv (some x12)) fun v19 =>
  gd v17 false (pv (nilO v19)) fun v20 =>
  gd v17 false (pv (faO 5 v20)) fun v21 =>
  gd v17 false (ld1 v21) fun v22 =>
  gd v17 false (pv (lenS v22)) fun v23 =>
  gd v17 false (pv (bin .gtr v18 v23)) fun v24 =>
  pv (pickO v17 (.bool true) v24) fun v25 =>
  cnd v25 (
   R (.returned (.tuple ⟨[(.slice none 0 0), (.int .i64 34)]⟩))) (
   F13_j2 R x3 x4 x12)
theorem F13_j3_ok (R : ER) (e : Env) : den Pg R (cd Try.f13 [1,1,1,0]) e (setN (kont Pg R Try.f13) (fun e => F13_j2 R (e 3) (e 4) (e 12))) = (F13_j3 R (e 3) (e 4) (e 12)) := (by kernel_rfl)
def F13_j1 (R : ER) (x3 x4 x12 : Value) : WP :=
  F13_j3 R x3 x4 x12
theorem F13_j1_ok (R : ER) (e : Env) : den Pg R (cd Try.f13 [1,1,1]) e (kont Pg R Try.f13) = (F13_j1 R (e 3) (e 4) (e 12)) := (den_join Pg R 0 (cd Try.f13 [1,1,1]) (cd Try.f13 [1,1,1,1]) e (kont Pg R Try.f13) (fun e => F13_j2 R (e 3) (e 4) (e 12)) _ (by kernel_rfl) (fun e => F13_j2_ok R e) (den_conv Pg R (pre 0 (cd Try.f13 [1,1,1])) (cd Try.f13 [1,1,1,0]) e (setN (kont Pg R Try.f13) (fun e => F13_j2 R (e 3) (e 4) (e 12))) _ (by kernel_rfl) (F13_j3_ok R e)))
def F13 (R : ER) (x0 x1 x2 x3 x4 : Value) : WP :=
  cal Pg R 33 ⟨[x0, x1, x2, (.slice none 0 0)]⟩ fun v26 =>
  pv (extO 0 v26) fun v27 =>
  pv (extO 1 v26) fun v28 =>
  pv (bin .neq v28 (.int .i64 0)) fun v29 =>
  cnd v29 (
   R (.returned (.tuple ⟨[(.slice none 0 0), v28]⟩))) (
   F13_j1 R x3 x4 v27)
theorem F13_den (R : ER) (x0 x1 x2 x3 x4 : Value) : den Pg R (cd Try.f13 []) (argsEnv [x0, x1, x2, x3, x4]) (kont Pg R Try.f13) = F13 R x0 x1 x2 x3 x4 :=
  have h : ∀ e, den Pg R (cd Try.f13 []) e (kont Pg R Try.f13) = F13 R (e 0) (e 1) (e 2) (e 3) (e 4) := fun e => (den_join Pg R 2 (cd Try.f13 []) (cd Try.f13 [1,1,1]) e (kont Pg R Try.f13) (fun e => F13_j1 R (e 3) (e 4) (e 12)) _ (by kernel_rfl) (fun e => F13_j1_ok R e) (by kernel_rfl))
  h _
theorem F13_calls {R : ER} {x0 x1 x2 x3 x4 : Value} {w : World} (h : F13 R x0 x1 x2 x3 x4 w) : Calls Pg 13 ⟨[x0, x1, x2, x3, x4]⟩ w R :=
  calls_of_den Try.func13 (by kernel_rfl) (by kernel_rfl) (F13_den R x0 x1 x2 x3 x4) h
/-! ### 14: channels_Table_Write -/
def F14_j1 (R : ER) (x3 x4 x12 : Value) : WP :=
  pv (bin .lss x3 (.int .i64 0)) fun v1 =>
  gd v1 false (pv (some x3)) fun v2 =>
  gd v1 false (pv (some x12)) fun v3 =>
  gd v1 false (pv (nilO v3)) fun v4 =>
  gd v1 false (pv (faO 6 v4)) fun v5 =>
  gd v1 false (ld1 v5) fun v6 =>
  gd v1 false (pv (lenS v6)) fun v7 =>
  gd v1 false (pv (bin .gtr v2 v7)) fun v8 =>
  pv (pickO v1 (.bool true) v8) fun v9 =>
  gd v9 false (pv (some x4)) fun v10 =>
  gd v9 false (pv (lenS v10)) fun v11 =>
  gd v9 false (pv (some x12)) fun v12 =>
  gd v9 false (pv (nilO v12)) fun v13 =>
  gd v9 false (pv (faO 6 v13)) fun v14 =>
  gd v9 false (ld1 v14) fun v15 =>
  gd v9 false (pv (lenS v15)) fun v16 =>
  gd v9 false (pv (some x3)) fun v17 =>
  gd v9 false (pv (bin .sub v16 v17)) fun v18 =>
  gd v9 false (pv (bin .gtr v11 v18)) fun v19 =>
  pv (pickO v9 (.bool true) v19) fun v20 =>
  cnd v20 (
   R (.returned (.tuple ⟨[(.int .i64 0), (.int .i64 34)]⟩))) (
   cal Pg R 34 ⟨[x12, x3, x4]⟩ fun v21 =>
  pv (lenS x4) fun v22 =>
  R (.returned (.tuple ⟨[v22, (.int .i64 0)]⟩)))
theorem F14_j1_ok (R : ER) (e : Env) : den Pg R (cd Try.f14 [1,1,1]) e (kont Pg R Try.f14) = (F14_j1 R (e 3) (e 4) (e 12)) := (by kernel_rfl)
def F14 (R : ER) (x0 x1 x2 x3 x4 : Value) : WP :=
  cal Pg R 33 ⟨[x0, x1, x2, x4]⟩ fun v23 =>
  pv (extO 0 v23) fun v24 =>
  pv (extO 1 v23) fun v25 =>
  pv (bin .neq v25 (.int .i64 0)) fun v26 =>
  cnd v26 (
   R (.returned (.tuple ⟨[(.int .i64 0), v25]⟩))) (
   F14_j1 R x3 x4 v24)
theorem F14_den (R : ER) (x0 x1 x2 x3 x4 : Value) : den Pg R (cd Try.f14 []) (argsEnv [x0, x1, x2, x3, x4]) (kont Pg R Try.f14) = F14 R x0 x1 x2 x3 x4 :=
  have h : ∀ e, den Pg R (cd Try.f14 []) e (kont Pg R Try.f14) = F14 R (e 0) (e 1) (e 2) (e 3) (e 4) := fun e => (den_join Pg R 2 (cd Try.f14 []) (cd Try.f14 [1,1,1]) e (kont Pg R Try.f14) (fun e => F14_j1 R (e 3) (e 4) (e 12)) _ (by kernel_rfl) (fun e => F14_j1_ok R e) (by kernel_rfl))
  h _
theorem F14_calls {R : ER} {x0 x1 x2 x3 x4 : Value} {w : World} (h : F14 R x0 x1 x2 x3 x4 w) : Calls Pg 14 ⟨[x0, x1, x2, x3, x4]⟩ w R :=
  calls_of_den Try.func14 (by kernel_rfl) (by kernel_rfl) (F14_den R x0 x1 x2 x3 x4) h
/-! ### 15: slices_Clone -/
def F15 (R : ER) (x0 : Value) : WP :=
  pv (eqNilS x0) fun v1 =>
  cnd v1 (
   R (.returned (.slice none 0 0))) (
   valV Pg R (Instr.buildSlice 22 0 ⟨[]⟩) fun v2 =>
  blt Pg R .append ⟨[22,22]⟩ 22 ⟨[false, false]⟩ ⟨[v2, x0]⟩ fun v3 =>
  R (.returned v3))
theorem F15_den (R : ER) (x0 : Value) : den Pg R (cd Try.f15 []) (argsEnv [x0]) (kont Pg R Try.f15) = F15 R x0 :=
  have h : ∀ e, den Pg R (cd Try.f15 []) e (kont Pg R Try.f15) = F15 R (e 0) := fun e => by kernel_rfl
  h _
theorem F15_calls {R : ER} {x0 : Value} {w : World} (h : F15 R x0 w) : Calls Pg 15 ⟨[x0]⟩ w R :=
  calls_of_den Try.func15 (by kernel_rfl) (by kernel_rfl) (F15_den R x0) h
/-! ### 16: channels_Table_Reply -/
def F16_j2 (R : ER) (x0 x3 x4 x12 : Value) : WP :=
  cal Pg R 34 ⟨[x12, (.int .i64 0), x4]⟩ fun v1 =>
  drewV (
  pv (nilO x0) fun v2 =>
  pv (faO 5 v2) fun v3 =>
  ld1 v3 fun v4 =>
  pv (nilO x12) fun v5 =>
  pv (faO 1 v5) fun v6 =>
  ld1 v6 fun v7 =>
  pv (nilO x12) fun v8 =>
  pv (faO 6 v8) fun v9 =>
  ld1 v9 fun v10 =>
  pv (nilO x12) fun v11 =>
  pv (faO 7 v11) fun v12 =>
  ld1 v12 fun v13 =>
  pv (slS 1 v10 none (some v13)) fun v14 =>
  mem fun w16 => unitV Pg noR (Instr.mapUpdate 63 v4 v7 v14) fun v15 =>
  cal Pg R 35 ⟨[x0, x12, (.int .i64 0), x3]⟩ fun v17 =>
  valV Pg R (Instr.buildSlice 30 1 ⟨[(0, v17)]⟩) fun v18 =>
  R (.returned (.tuple ⟨[v18, (.int .i64 0)]⟩)))
theorem F16_j2_ok (R : ER) (e : Env) : den Pg R (cd Try.f16 [1,1,1,1]) e (kont Pg R Try.f16) = (F16_j2 R (e 0) (e 3) (e 4) (e 12)) := by kernel_rfl
def F16_j1 (R : ER) (x0 x3 x4 x12 : Value) : WP :=
  pv (lenS x4) fun v19 =>
  pv (nilO x12) fun v20 =>
  pv (faO 6 v20) fun v21 =>
  ld1 v21 fun v22 =>
  pv (lenS v22) fun v23 =>
  pv (bin .gtr v19 v23) fun v24 =>
  cnd v24 (
   R (.returned (.tuple ⟨[(.slice none 0 0), (.int .i64 34)]⟩))) (
   F16_j2 R x0 x3 x4 x12)
theorem F16_j1_ok (R : ER) (e : Env) : den Pg R (cd Try.f16 [1,1,1]) e (kont Pg R Try.f16) = (F16_j1 R (e 0) (e 3) (e 4) (e 12)) := (den_join Pg R 0 (cd Try.f16 [1,1,1]) (cd Try.f16 [1,1,1,1]) e (kont Pg R Try.f16) (fun e => F16_j2 R (e 0) (e 3) (e 4) (e 12)) _ (by kernel_rfl) (fun e => F16_j2_ok R e) (by kernel_rfl))
def F16 (R : ER) (x0 x1 x2 x3 x4 : Value) : WP :=
  cal Pg R 33 ⟨[x0, x1, x2, x4]⟩ fun v25 =>
  pv (extO 0 v25) fun v26 =>
  pv (extO 1 v25) fun v27 =>
  pv (bin .neq v27 (.int .i64 0)) fun v28 =>
  cnd v28 (
   R (.returned (.tuple ⟨[(.slice none 0 0), v27]⟩))) (
   F16_j1 R x0 x3 x4 v26)
theorem F16_den (R : ER) (x0 x1 x2 x3 x4 : Value) : den Pg R (cd Try.f16 []) (argsEnv [x0, x1, x2, x3, x4]) (kont Pg R Try.f16) = F16 R x0 x1 x2 x3 x4 :=
  have h : ∀ e, den Pg R (cd Try.f16 []) e (kont Pg R Try.f16) = F16 R (e 0) (e 1) (e 2) (e 3) (e 4) := fun e => (den_join Pg R 2 (cd Try.f16 []) (cd Try.f16 [1,1,1]) e (kont Pg R Try.f16) (fun e => F16_j1 R (e 0) (e 3) (e 4) (e 12)) _ (by kernel_rfl) (fun e => F16_j1_ok R e) (by kernel_rfl))
  h _
theorem F16_calls {R : ER} {x0 x1 x2 x3 x4 : Value} {w : World} (h : F16 R x0 x1 x2 x3 x4 w) : Calls Pg 16 ⟨[x0, x1, x2, x3, x4]⟩ w R :=
  calls_of_den Try.func16 (by kernel_rfl) (by kernel_rfl) (F16_den R x0 x1 x2 x3 x4) h
/-! ### 17: channels_Table_Answer -/
def F17_j1 (R : ER) (x0 x1 : Value) : WP :=
  pv (nilO x0) fun v1 =>
  pv (faO 5 v1) fun v2 =>
  ld1 v2 fun v3 =>
  valV Pg R (Instr.lookup 63 v3 x1 true) fun v4 =>
  pv (extO 0 v4) fun v5 =>
  pv (extO 1 v4) fun v6 =>
  cal Pg R 15 ⟨[v5]⟩ fun v7 =>
  R (.returned (.tuple ⟨[v7, v6]⟩))
theorem F17_j1_ok (R : ER) (e : Env) : den Pg R (cd Try.f17 [1,1]) e (kont Pg R Try.f17) = (F17_j1 R (e 0) (e 1)) := by kernel_rfl
def F17 (R : ER) (x0 x1 : Value) : WP :=
  pv (eqNilP x0) fun v8 =>
  cnd v8 (
   R (.returned (.tuple ⟨[(.slice none 0 0), (.bool false)]⟩))) (
   F17_j1 R x0 x1)
theorem F17_den (R : ER) (x0 x1 : Value) : den Pg R (cd Try.f17 []) (argsEnv [x0, x1]) (kont Pg R Try.f17) = F17 R x0 x1 :=
  have h : ∀ e, den Pg R (cd Try.f17 []) e (kont Pg R Try.f17) = F17 R (e 0) (e 1) := fun e => (den_join Pg R 1 (cd Try.f17 []) (cd Try.f17 [1,1]) e (kont Pg R Try.f17) (fun e => F17_j1 R (e 0) (e 1)) _ (by kernel_rfl) (fun e => F17_j1_ok R e) (by kernel_rfl))
  h _
theorem F17_calls {R : ER} {x0 x1 : Value} {w : World} (h : F17 R x0 x1 w) : Calls Pg 17 ⟨[x0, x1]⟩ w R :=
  calls_of_den Try.func17 (by kernel_rfl) (by kernel_rfl) (F17_den R x0 x1) h
/-! ### 18: channels_Table_Pulse -/
def F18_j4 (R : ER) (x0 x1 x3 x4 x5 x14 : Value) : WP :=
  drewV (
  pv (nilO x14) fun v1 =>
  pv (faO 0 v1) fun v2 =>
  ld1 v2 fun v3 =>
  mem fun w5 => cal Pg noR 25 ⟨[x0, x3]⟩ fun v4 =>
  rd1 v2 v3 <|
  pv (nilO x14) fun v6 =>
  pv (faO 1 v6) fun v7 =>
  ld1S [w5] v7 fun v8 =>
  pv (bldO [.int .i64 0, .int .i64 0, .int .i64 0, .int .i64 0, .int .i64 0, .pointer none, .slice none 0 0, .int .i64 0, .int .i64 0, .int .i64 0, .int .i64 0] [(0,2, v4), (3,1, x1), (4,1, v8), (8,1, x4), (9,1, x5)]) fun v9 =>
  mem fun w11 => cal Pg noR 36 ⟨[x0, v3, v9, (.int .i64 2)]⟩ fun v10 =>
  pv (extO 0 v10) fun v12 =>
  pv (extO 1 v10) fun v13 =>
  R (.returned (.tuple ⟨[v12, v13]⟩)))
theorem F18_j4_ok (R : ER) (e : Env) : den Pg R (cd Try.f18 [1,1,1,1,1,1]) e (kont Pg R Try.f18) = (F18_j4 R (e 0) (e 1) (e 3) (e 4) (e 5) (e 14)) := by kernel_rfl
def F18_j3 (R : ER) (x0 x1 x3 x4 x5 x14 : Value) : WP :=
  pv (nilO x14) fun v14 =>
  pv (faO 0 v14) fun v15 =>
  ld1 v15 fun v16 =>
  pv (eqNilP v16) fun v17 =>
  cnd v17 (
   R (.returned (.tuple ⟨[(.slice none 0 0), (.int .i64 4)]⟩))) (
   F18_j4 R x0 x1 x3 x4 x5 x14)
theorem F18_j3_ok (R : ER) (e : Env) : den Pg R (cd Try.f18 [1,1,1,1,1]) e (kont Pg R Try.f18) = (F18_j3 R (e 0) (e 1) (e 3) (e 4) (e 5) (e 14)) := (den_join Pg R 0 (cd Try.f18 [1,1,1,1,1]) (cd Try.f18 [1,1,1,1,1,1]) e (kont Pg R Try.f18) (fun e => F18_j4 R (e 0) (e 1) (e 3) (e 4) (e 5) (e 14)) _ (by kernel_rfl) (fun e => F18_j4_ok R e) (by kernel_rfl))
def F18_j2 (R : ER) (x0 x1 x2 x3 x4 x5 : Value) : WP :=
  pv (nilO x0) fun v18 =>
  pv (faO 1 v18) fun v19 =>
  ld1 v19 fun v20 =>
  pv (bldO [.int .i64 0, .int .i64 0] [(0,1, x1), (1,1, x2)]) fun v21 =>
  valV Pg R (Instr.lookup 60 v20 v21 true) fun v22 =>
  pv (extO 0 v22) fun v23 =>
  pv (extO 1 v22) fun v24 =>
  pv (unO .not v24) fun v25 =>
  cnd v25 (
   R (.returned (.tuple ⟨[(.slice none 0 0), (.int .i64 3)]⟩))) (
   F18_j3 R x0 x1 x3 x4 x5 v23)
theorem F18_j2_ok (R : ER) (e : Env) : den Pg R (cd Try.f18 [1,1,1]) e (kont Pg R Try.f18) = (F18_j2 R (e 0) (e 1) (e 2) (e 3) (e 4) (e 5)) := (den_join Pg R 1 (cd Try.f18 [1,1,1]) (cd Try.f18 [1,1,1,1,1]) e (kont Pg R Try.f18) (fun e => F18_j3 R (e 0) (e 1) (e 3) (e 4) (e 5) (e 14)) _ (by kernel_rfl) (fun e => F18_j3_ok R e) (by kernel_rfl))
def F18_j5 (R : ER) (x0 x1 x2 x3 x4 x5 : Value) : WP :=
  cal Pg R 19 ⟨[x1]⟩ fun v26 =>
  pv (unO .not v26) fun v27 =>
  gd v27 false (pv (some x3)) fun v28 =>
  gd v27 false (cal Pg R 23 ⟨[v28, (.int .i64 255)]⟩) fun v29 =>
  gd v27 false (pv (unO .not v29)) fun v30 =>
  pv (pickO v27 (.bool true) v30) fun v31 =>
  gd v31 false (pv (some x4)) fun v32 =>
  gd v31 false (cal Pg R 23 ⟨[v32, (.int .i64 127)]⟩) fun v33 =>
  gd v31 false (pv (unO .not v33)) fun v34 =>
  pv (pickO v31 (.bool true) v34) fun v35 =>
  cnd v35 (
   R (.returned (.tuple ⟨[(.slice none 0 0), (.int .i64 34)]⟩))) (
   F18_j2 R x0 x1 x2 x3 x4 x5)
theorem F18_j5_ok (R : ER) (e : Env) : den Pg R (cd Try.f18 [1,1,0]) e (setN (kont Pg R Try.f18) (fun e => F18_j2 R (e 0) (e 1) (e 2) (e 3) (e 4) (e 5))) = (F18_j5 R (e 0) (e 1) (e 2) (e 3) (e 4) (e 5)) := (by kernel_rfl)
def F18_j1 (R : ER) (x0 x1 x2 x3 x4 x5 : Value) : WP :=
  F18_j5 R x0 x1 x2 x3 x4 x5
theorem F18_j1_ok (R : ER) (e : Env) : den Pg R (cd Try.f18 [1,1]) e (kont Pg R Try.f18) = (F18_j1 R (e 0) (e 1) (e 2) (e 3) (e 4) (e 5)) := (den_join Pg R 0 (cd Try.f18 [1,1]) (cd Try.f18 [1,1,1]) e (kont Pg R Try.f18) (fun e => F18_j2 R (e 0) (e 1) (e 2) (e 3) (e 4) (e 5)) _ (by kernel_rfl) (fun e => F18_j2_ok R e) (den_conv Pg R (pre 0 (cd Try.f18 [1,1])) (cd Try.f18 [1,1,0]) e (setN (kont Pg R Try.f18) (fun e => F18_j2 R (e 0) (e 1) (e 2) (e 3) (e 4) (e 5))) _ (by kernel_rfl) (F18_j5_ok R e)))
def F18 (R : ER) (x0 x1 x2 x3 x4 x5 : Value) : WP :=
  pv (eqNilP x0) fun v36 =>
  cnd v36 (
   R (.returned (.tuple ⟨[(.slice none 0 0), (.int .i64 35)]⟩))) (
   F18_j1 R x0 x1 x2 x3 x4 x5)
theorem F18_den (R : ER) (x0 x1 x2 x3 x4 x5 : Value) : den Pg R (cd Try.f18 []) (argsEnv [x0, x1, x2, x3, x4, x5]) (kont Pg R Try.f18) = F18 R x0 x1 x2 x3 x4 x5 :=
  have h : ∀ e, den Pg R (cd Try.f18 []) e (kont Pg R Try.f18) = F18 R (e 0) (e 1) (e 2) (e 3) (e 4) (e 5) := fun e => (den_join Pg R 1 (cd Try.f18 []) (cd Try.f18 [1,1]) e (kont Pg R Try.f18) (fun e => F18_j1 R (e 0) (e 1) (e 2) (e 3) (e 4) (e 5)) _ (by kernel_rfl) (fun e => F18_j1_ok R e) (by kernel_rfl))
  h _
theorem F18_calls {R : ER} {x0 x1 x2 x3 x4 x5 : Value} {w : World} (h : F18 R x0 x1 x2 x3 x4 x5 w) : Calls Pg 18 ⟨[x0, x1, x2, x3, x4, x5]⟩ w R :=
  calls_of_den Try.func18 (by kernel_rfl) (by kernel_rfl) (F18_den R x0 x1 x2 x3 x4 x5) h
/-! ### 19: channels_process -/
def F19 (R : ER) (x0 : Value) : WP :=
  cal Pg R 23 ⟨[x0, (.int .i64 63)]⟩ fun v1 =>
  R (.returned v1)
theorem F19_den (R : ER) (x0 : Value) : den Pg R (cd Try.f19 []) (argsEnv [x0]) (kont Pg R Try.f19) = F19 R x0 :=
  have h : ∀ e, den Pg R (cd Try.f19 []) e (kont Pg R Try.f19) = F19 R (e 0) := fun e => by kernel_rfl
  h _
theorem F19_calls {R : ER} {x0 : Value} {w : World} (h : F19 R x0 w) : Calls Pg 19 ⟨[x0]⟩ w R :=
  calls_of_den Try.func19 (by kernel_rfl) (by kernel_rfl) (F19_den R x0) h
/-! ### 20: channels_free -/
def F20_b1 (R : ER) (k1 : V2) (x0 x3 : Value) : WP :=
  valV Pg R (Instr.lookup 59 x0 x3 true) fun v1 =>
  pv (extO 0 v1) fun v2 =>
  pv (extO 1 v1) fun v3 =>
  pv (unO .not v3) fun v4 =>
  cnd v4 (
   R (.returned x3)) (
   pv (bin .add x3 (.int .i64 1)) fun v5 =>
  k1 x0 v5)
theorem F20_b1_ok (R : ER) (k1 : V2) (e : Env) : den Pg R (cd Try.f20 [1,1,0,0]) e (setN (inB 0 (kont Pg R Try.f20)) (fun e => k1 (e 0) (e 3))) = (F20_b1 R k1 (e 0) (e 3)) := (den_block Pg R (cd Try.f20 [1,1,0,0]) 1 (cd Try.f20 [1,1,0,0,0]) e (setN (inB 0 (kont Pg R Try.f20)) (fun e => k1 (e 0) (e 3))) _ (by kernel_rfl) (by kernel_rfl))
noncomputable def F20_l1 (R : ER) (n : Nat) : V2 := Nat.rec (motive := fun _ => V2) (fun _ _ => fun _ => False) (fun _ ih => fun x0 x3 => F20_b1 R ih x0 x3) n
theorem F20_l1_succ (R : ER) (n : Nat) (x0 x3 : Value) : F20_l1 R (n + 1) x0 x3 = F20_b1 R (F20_l1 R n) x0 x3 := rfl
theorem F20_l1_ok (R : ER) : ∀ (n : Nat) (e : Env), iterL (den Pg R (cd Try.f20 [1,1,0,0])) n e (inB 0 (kont Pg R Try.f20)) = F20_l1 R n (e 0) (e 3) :=
  iterL_join (den Pg R (cd Try.f20 [1,1,0,0])) (inB 0 (kont Pg R Try.f20)) (fun n e => F20_l1 R n (e 0) (e 3)) (fun _ => rfl) (fun n e => (F20_b1_ok R (F20_l1 R n) e).trans (F20_l1_succ R n (e 0) (e 3)).symm)
def F20_j1 (R : ER) (x0 x3 : Value) : WP :=
  exN fun n => F20_l1 R n x0 x3
theorem F20_j1_ok (R : ER) (e : Env) : den Pg R (cd Try.f20 [1,1]) e (kont Pg R Try.f20) = (F20_j1 R (e 0) (e 3)) := (den_block Pg R (cd Try.f20 [1,1]) 0 (cd Try.f20 [1,1,0]) e (kont Pg R Try.f20) _ (by kernel_rfl) (den_loop Pg R (cd Try.f20 [1,1,0]) (cd Try.f20 [1,1,0,0]) e (inB 0 (kont Pg R Try.f20)) (fun n e => F20_l1 R n (e 0) (e 3)) _ (by kernel_rfl) (F20_l1_ok R) (by kernel_rfl)))
def F20 (R : ER) (x0 : Value) : WP :=
  F20_j1 R x0 (.int .i64 0)
theorem F20_den (R : ER) (x0 : Value) : den Pg R (cd Try.f20 []) (argsEnv [x0]) (kont Pg R Try.f20) = F20 R x0 :=
  have h : ∀ e, den Pg R (cd Try.f20 []) e (kont Pg R Try.f20) = F20 R (e 0) := fun e => (den_join Pg R 1 (cd Try.f20 []) (cd Try.f20 [1,1]) e (kont Pg R Try.f20) (fun e => F20_j1 R (e 0) (e 3)) _ (by kernel_rfl) (fun e => F20_j1_ok R e) (by kernel_rfl))
  h _
theorem F20_calls {R : ER} {x0 : Value} {w : World} (h : F20 R x0 w) : Calls Pg 20 ⟨[x0]⟩ w R :=
  calls_of_den Try.func20 (by kernel_rfl) (by kernel_rfl) (F20_den R x0) h
/-! ### 21: channels_free_21 -/
def F21_b1 (R : ER) (k1 : V2) (x0 x3 : Value) : WP :=
  valV Pg R (Instr.lookup 70 x0 x3 true) fun v1 =>
  pv (extO 0 v1) fun v2 =>
  pv (extO 1 v1) fun v3 =>
  pv (unO .not v3) fun v4 =>
  cnd v4 (
   R (.returned x3)) (
   pv (bin .add x3 (.int .i64 1)) fun v5 =>
  k1 x0 v5)
theorem F21_b1_ok (R : ER) (k1 : V2) (e : Env) : den Pg R (cd Try.f21 [1,1,0,0]) e (setN (inB 0 (kont Pg R Try.f21)) (fun e => k1 (e 0) (e 3))) = (F21_b1 R k1 (e 0) (e 3)) := (den_block Pg R (cd Try.f21 [1,1,0,0]) 1 (cd Try.f21 [1,1,0,0,0]) e (setN (inB 0 (kont Pg R Try.f21)) (fun e => k1 (e 0) (e 3))) _ (by kernel_rfl) (by kernel_rfl))
noncomputable def F21_l1 (R : ER) (n : Nat) : V2 := Nat.rec (motive := fun _ => V2) (fun _ _ => fun _ => False) (fun _ ih => fun x0 x3 => F21_b1 R ih x0 x3) n
theorem F21_l1_succ (R : ER) (n : Nat) (x0 x3 : Value) : F21_l1 R (n + 1) x0 x3 = F21_b1 R (F21_l1 R n) x0 x3 := rfl
theorem F21_l1_ok (R : ER) : ∀ (n : Nat) (e : Env), iterL (den Pg R (cd Try.f21 [1,1,0,0])) n e (inB 0 (kont Pg R Try.f21)) = F21_l1 R n (e 0) (e 3) :=
  iterL_join (den Pg R (cd Try.f21 [1,1,0,0])) (inB 0 (kont Pg R Try.f21)) (fun n e => F21_l1 R n (e 0) (e 3)) (fun _ => rfl) (fun n e => (F21_b1_ok R (F21_l1 R n) e).trans (F21_l1_succ R n (e 0) (e 3)).symm)
def F21_j1 (R : ER) (x0 x3 : Value) : WP :=
  exN fun n => F21_l1 R n x0 x3
theorem F21_j1_ok (R : ER) (e : Env) : den Pg R (cd Try.f21 [1,1]) e (kont Pg R Try.f21) = (F21_j1 R (e 0) (e 3)) := (den_block Pg R (cd Try.f21 [1,1]) 0 (cd Try.f21 [1,1,0]) e (kont Pg R Try.f21) _ (by kernel_rfl) (den_loop Pg R (cd Try.f21 [1,1,0]) (cd Try.f21 [1,1,0,0]) e (inB 0 (kont Pg R Try.f21)) (fun n e => F21_l1 R n (e 0) (e 3)) _ (by kernel_rfl) (F21_l1_ok R) (by kernel_rfl)))
def F21 (R : ER) (x0 : Value) : WP :=
  F21_j1 R x0 (.int .i64 0)
theorem F21_den (R : ER) (x0 : Value) : den Pg R (cd Try.f21 []) (argsEnv [x0]) (kont Pg R Try.f21) = F21 R x0 :=
  have h : ∀ e, den Pg R (cd Try.f21 []) e (kont Pg R Try.f21) = F21 R (e 0) := fun e => (den_join Pg R 1 (cd Try.f21 []) (cd Try.f21 [1,1]) e (kont Pg R Try.f21) (fun e => F21_j1 R (e 0) (e 3)) _ (by kernel_rfl) (fun e => F21_j1_ok R e) (by kernel_rfl))
  h _
theorem F21_calls {R : ER} {x0 : Value} {w : World} (h : F21 R x0 w) : Calls Pg 21 ⟨[x0]⟩ w R :=
  calls_of_den Try.func21 (by kernel_rfl) (by kernel_rfl) (F21_den R x0) h
/-! ### 22: channels_thread -/
def F22 (R : ER) (x0 : Value) : WP :=
  cal Pg R 23 ⟨[x0, (.int .i64 255)]⟩ fun v1 =>
  R (.returned v1)
theorem F22_den (R : ER) (x0 : Value) : den Pg R (cd Try.f22 []) (argsEnv [x0]) (kont Pg R Try.f22) = F22 R x0 :=
  have h : ∀ e, den Pg R (cd Try.f22 []) e (kont Pg R Try.f22) = F22 R (e 0) := fun e => by kernel_rfl
  h _
theorem F22_calls {R : ER} {x0 : Value} {w : World} (h : F22 R x0 w) : Calls Pg 22 ⟨[x0]⟩ w R :=
  calls_of_den Try.func22 (by kernel_rfl) (by kernel_rfl) (F22_den R x0) h
/-! ### 23: channels_within -/
def F23 (R : ER) (x0 x1 : Value) : WP :=
  pv (bin .geq x0 (.int .i64 0)) fun v1 =>
  gd v1 true (pv (some x0)) fun v2 =>
  gd v1 true (pv (some x1)) fun v3 =>
  gd v1 true (pv (bin .leq v2 v3)) fun v4 =>
  pv (pickO v1 v4 (.bool false)) fun v5 =>
  R (.returned v5)
theorem F23_den (R : ER) (x0 x1 : Value) : den Pg R (cd Try.f23 []) (argsEnv [x0, x1]) (kont Pg R Try.f23) = F23 R x0 x1 :=
  have h : ∀ e, den Pg R (cd Try.f23 []) e (kont Pg R Try.f23) = F23 R (e 0) (e 1) := fun e => by kernel_rfl
  h _
theorem F23_calls {R : ER} {x0 x1 : Value} {w : World} (h : F23 R x0 x1 w) : Calls Pg 23 ⟨[x0, x1]⟩ w R :=
  calls_of_den Try.func23 (by kernel_rfl) (by kernel_rfl) (F23_den R x0 x1) h
/-! ### 24: channels_Table_State -/
def F24_j1 (R : ER) (x0 x1 : Value) : WP :=
  pv (nilO x0) fun v1 =>
  pv (faO 2 v1) fun v2 =>
  ld1 v2 fun v3 =>
  valV Pg R (Instr.lookup 61 v3 x1 true) fun v4 =>
  pv (extO 0 v4) fun v5 =>
  pv (extO 1 v4) fun v6 =>
  al Pg 94 fun v7 =>
  stN 3 v7 v5 fun _ =>
  cnd v6 (
   pv (faO 0 v7) fun v8 =>
   ld1 v8 fun v9 =>
   R (.returned v9)) (
   R (.returned (.int .i64 1)))
theorem F24_j1_ok (R : ER) (e : Env) : den Pg R (cd Try.f24 [1,1]) e (kont Pg R Try.f24) = (F24_j1 R (e 0) (e 1)) := (by kernel_rfl)
def F24 (R : ER) (x0 x1 : Value) : WP :=
  pv (eqNilP x0) fun v10 =>
  cnd v10 (
   R (.returned (.int .i64 0))) (
   F24_j1 R x0 x1)
theorem F24_den (R : ER) (x0 x1 : Value) : den Pg R (cd Try.f24 []) (argsEnv [x0, x1]) (kont Pg R Try.f24) = F24 R x0 x1 :=
  have h : ∀ e, den Pg R (cd Try.f24 []) e (kont Pg R Try.f24) = F24 R (e 0) (e 1) := fun e => (den_join Pg R 1 (cd Try.f24 []) (cd Try.f24 [1,1]) e (kont Pg R Try.f24) (fun e => F24_j1 R (e 0) (e 1)) _ (by kernel_rfl) (fun e => F24_j1_ok R e) (by kernel_rfl))
  h _
theorem F24_calls {R : ER} {x0 x1 : Value} {w : World} (h : F24 R x0 x1 w) : Calls Pg 24 ⟨[x0, x1]⟩ w R :=
  calls_of_den Try.func24 (by kernel_rfl) (by kernel_rfl) (F24_den R x0 x1) h
/-! ### 25: channels_Table_come -/
def F25 (R : ER) (x0 x1 : Value) : WP :=
  al Pg 86 fun v1 =>
  pv (nilO x0) fun v2 =>
  pv (faO 7 v2) fun v3 =>
  ld1 v3 fun v4 =>
  pv (bin .add v4 (.int .i64 1)) fun v5 =>
  pv (nilO x0) fun v6 =>
  pv (faO 7 v6) fun v7 =>
  st1 v7 v5 fun _ =>
  pv (nilO x0) fun v8 =>
  pv (faO 7 v8) fun v9 =>
  ld1 v9 fun v10 =>
  pv (bldO [.int .i64 0, .int .i64 0] [(0,1, x1), (1,1, v10)]) fun v11 =>
  stN 2 v1 v11 fun _ =>
  ldN 2 v1 fun v12 => R (.returned v12)
theorem F25_den (R : ER) (x0 x1 : Value) : den Pg R (cd Try.f25 []) (argsEnv [x0, x1]) (kont Pg R Try.f25) = F25 R x0 x1 :=
  have h : ∀ e, den Pg R (cd Try.f25 []) e (kont Pg R Try.f25) = F25 R (e 0) (e 1) := fun e => by kernel_rfl
  h _
theorem F25_calls {R : ER} {x0 x1 : Value} {w : World} (h : F25 R x0 x1 w) : Calls Pg 25 ⟨[x0, x1]⟩ w R :=
  calls_of_den Try.func25 (by kernel_rfl) (by kernel_rfl) (F25_den R x0 x1) h
/-! ### 26: channels_Table_hand -/
def F26 (R : ER) (x0 x1 x2 : Value) : WP :=
  bx 89 x2 fun v1 =>
  pv (nilO x1) fun v2 =>
  pv (faO 4 v2) fun v3 =>
  ld1 v3 fun v4 =>
  pv (ixS 4 v4 (.int .i64 0)) fun v5 =>
  ldN 4 v5 fun v6 =>
  al Pg 101 fun v7 =>
  stN 4 v7 v6 fun _ =>
  pv (nilO x1) fun v8 =>
  pv (faO 4 v8) fun v9 =>
  ld1 v9 fun v10 =>
  cal Pg R 37 ⟨[v10, (.int .i64 0), (.int .i64 1)]⟩ fun v11 =>
  pv (nilO x1) fun v12 =>
  pv (faO 4 v12) fun v13 =>
  st1 v13 v11 fun _ =>
  ldN 11 v1 fun v14 =>
  pv (faO 2 v7) fun v15 =>
  ld1 v15 fun v16 =>
  pv (faO 3 v7) fun v17 =>
  ld1 v17 fun v18 =>
  cal Pg R 30 ⟨[x0, x1, v14, v16, v18]⟩ fun v19 =>
  al Pg 34 fun v20 =>
  stN 10 v20 v19 fun _ =>
  drewV (
  pv (nilO x0) fun v21 =>
  pv (faO 4 v21) fun v22 =>
  ld1 v22 fun v23 =>
  pv (faO 2 v7) fun v24 =>
  ld1 v24 fun v25 =>
  mem fun w27 => unitV Pg noR (Instr.mapUpdate 62 v23 v25 v20) fun v26 =>
  pv (faO 2 v7) fun v28 =>
  ld1 v28 fun v29 =>
  pv (faO 0 v20) fun v30 =>
  ld1 v30 fun v31 =>
  cal Pg R 38 ⟨[x0, v29, (.int .i64 0), v31]⟩ fun v32 =>
  valV Pg R (Instr.buildSlice 30 1 ⟨[(0, v32)]⟩) fun v33 =>
  R (.returned v33))
theorem F26_den (R : ER) (x0 x1 x2 : Value) : den Pg R (cd Try.f26 []) (argsEnv [x0, x1, x2]) (kont Pg R Try.f26) = F26 R x0 x1 x2 :=
  have h : ∀ e, den Pg R (cd Try.f26 []) e (kont Pg R Try.f26) = F26 R (e 0) (e 1) (e 2) := fun e => by kernel_rfl
  h _
theorem F26_calls {R : ER} {x0 x1 x2 : Value} {w : World} (h : F26 R x0 x1 x2 w) : Calls Pg 26 ⟨[x0, x1, x2]⟩ w R :=
  calls_of_den Try.func26 (by kernel_rfl) (by kernel_rfl) (F26_den R x0 x1 x2) h
/-! ### 27: channels_channel_queue -/
def F27 (R : ER) (x0 x1 : Value) : WP :=
  bx 89 x1 fun v1 =>
  drewV (
  pv (nilO x0) fun v2 =>
  pv (faO 3 v2) fun v3 =>
  ld1 v3 fun v4 =>
  ldN 11 v1 fun v5 =>
  mem fun w7 => cal Pg noR 39 ⟨[v4, v5, (.func (.func 40) ⟨[]⟩ ⟨[]⟩)]⟩ fun v6 =>
  pv (nilO x0) fun v8 =>
  pv (faO 3 v8) fun v9 =>
  mem fun w11 => st1 v9 v6 fun v10 =>
  R (.returned (.tuple ⟨[]⟩)))
theorem F27_den (R : ER) (x0 x1 : Value) : den Pg R (cd Try.f27 []) (argsEnv [x0, x1]) (kont Pg R Try.f27) = F27 R x0 x1 :=
  have h : ∀ e, den Pg R (cd Try.f27 []) e (kont Pg R Try.f27) = F27 R (e 0) (e 1) := fun e => by kernel_rfl
  h _
theorem F27_calls {R : ER} {x0 x1 : Value} {w : World} (h : F27 R x0 x1 w) : Calls Pg 27 ⟨[x0, x1]⟩ w R :=
  calls_of_den Try.func27 (by kernel_rfl) (by kernel_rfl) (F27_den R x0 x1) h
/-! ### 28: channels_Table_owned -/
def F28_j1 (R : ER) (x1 x8 : Value) : WP :=
  pv (nilO x8) fun v1 =>
  pv (faO 1 v1) fun v2 =>
  ld1 v2 fun v3 =>
  pv (bin .neq v3 x1) fun v4 =>
  cnd v4 (
   R (.returned (.tuple ⟨[(.pointer none), (.int .i64 32)]⟩))) (
   R (.returned (.tuple ⟨[x8, (.int .i64 0)]⟩)))
theorem F28_j1_ok (R : ER) (e : Env) : den Pg R (cd Try.f28 [1,1,1]) e (kont Pg R Try.f28) = (F28_j1 R (e 1) (e 8)) := by kernel_rfl
def F28 (R : ER) (x0 x1 x2 : Value) : WP :=
  pv (nilO x0) fun v5 =>
  pv (faO 0 v5) fun v6 =>
  ld1 v6 fun v7 =>
  valV Pg R (Instr.lookup 59 v7 x2 true) fun v8 =>
  pv (extO 0 v8) fun v9 =>
  pv (extO 1 v8) fun v10 =>
  pv (unO .not v10) fun v11 =>
  cnd v11 (
   R (.returned (.tuple ⟨[(.pointer none), (.int .i64 3)]⟩))) (
   F28_j1 R x1 v9)
theorem F28_den (R : ER) (x0 x1 x2 : Value) : den Pg R (cd Try.f28 []) (argsEnv [x0, x1, x2]) (kont Pg R Try.f28) = F28 R x0 x1 x2 :=
  have h : ∀ e, den Pg R (cd Try.f28 []) e (kont Pg R Try.f28) = F28 R (e 0) (e 1) (e 2) := fun e => (den_join Pg R 2 (cd Try.f28 []) (cd Try.f28 [1,1,1]) e (kont Pg R Try.f28) (fun e => F28_j1 R (e 1) (e 8)) _ (by kernel_rfl) (fun e => F28_j1_ok R e) (by kernel_rfl))
  h _
theorem F28_calls {R : ER} {x0 x1 x2 : Value} {w : World} (h : F28 R x0 x1 x2 w) : Calls Pg 28 ⟨[x0, x1, x2]⟩ w R :=
  calls_of_den Try.func28 (by kernel_rfl) (by kernel_rfl) (F28_den R x0 x1 x2) h
/-! ### 29: slices_Delete -/
def F29_j1 (R : ER) (x0 x1 x2 : Value) : WP :=
  pv (lenS x0) fun v1 =>
  drewV (
  pv (slS 11 x0 none (some x1)) fun v2 =>
  pv (slS 11 x0 (some x2) none) fun v3 =>
  mem fun w5 => blt Pg noR .append ⟨[71,71]⟩ 71 ⟨[false, false]⟩ ⟨[v2, v3]⟩ fun v4 =>
  pv (lenS v4) fun v6 =>
  pv (slS 11 v4 (some v6) (some v1)) fun v7 =>
  blt Pg R .clear ⟨[71]⟩ 0 ⟨[false]⟩ ⟨[v7]⟩ fun _ =>
  R (.returned v4))
theorem F29_j1_ok (R : ER) (e : Env) : den Pg R (cd Try.f29 [1,1,1]) e (kont Pg R Try.f29) = (F29_j1 R (e 0) (e 1) (e 2)) := by kernel_rfl
def F29 (R : ER) (x0 x1 x2 : Value) : WP :=
  pv (lenS x0) fun v8 =>
  valV Pg R (Instr.sliceAt 71 x0 (some x1) (some x2) (some v8)) fun v9 =>
  pv (bin .eql x1 x2) fun v10 =>
  cnd v10 (
   R (.returned x0)) (
   F29_j1 R x0 x1 x2)
theorem F29_den (R : ER) (x0 x1 x2 : Value) : den Pg R (cd Try.f29 []) (argsEnv [x0, x1, x2]) (kont Pg R Try.f29) = F29 R x0 x1 x2 :=
  have h : ∀ e, den Pg R (cd Try.f29 []) e (kont Pg R Try.f29) = F29 R (e 0) (e 1) (e 2) := fun e => (den_join Pg R 2 (cd Try.f29 []) (cd Try.f29 [1,1,1]) e (kont Pg R Try.f29) (fun e => F29_j1 R (e 0) (e 1) (e 2)) _ (by kernel_rfl) (fun e => F29_j1_ok R e) (by kernel_rfl))
  h _
theorem F29_calls {R : ER} {x0 x1 x2 : Value} {w : World} (h : F29 R x0 x1 x2 w) : Calls Pg 29 ⟨[x0, x1, x2]⟩ w R :=
  calls_of_den Try.func29 (by kernel_rfl) (by kernel_rfl) (F29_den R x0 x1 x2) h
/-! ### 30: channels_Table_take -/
def F30_j1 (R : ER) (x0 x1 x3 x4 x7 x10 : Value) : WP :=
  pv (nilO x0) fun v1 =>
  pv (faO 6 v1) fun v2 =>
  ld1 v2 fun v3 =>
  pv (bin .add v3 (.int .i64 1)) fun v4 =>
  pv (nilO x0) fun v5 =>
  pv (faO 6 v5) fun v6 =>
  st1 v6 v4 fun _ =>
  drewV (
  pv (nilO x0) fun v7 =>
  pv (faO 6 v7) fun v8 =>
  ld1 v8 fun v9 =>
  pv (faO 2 x7) fun v10 =>
  ld1 v10 fun v11 =>
  pv (faO 0 x7) fun v12 =>
  pv (faO 0 v12) fun v13 =>
  ld1 v13 fun v14 =>
  pv (faO 6 x7) fun v15 =>
  ld1 v15 fun v16 =>
  pv (faO 7 x7) fun v17 =>
  ld1 v17 fun v18 =>
  mem fun w20 => valV Pg noR (Instr.makeSlice 22 v18 v18) fun v19 =>
  rd1 v15 v16 <|
  rd1 v13 v14 <|
  rd1 v10 v11 <|
  rd1 v8 v9 <|
  pv (bldO [.int .i64 0, .int .i64 0, .int .i64 0, .int .i64 0, .pointer none, .slice none 0 0, .slice none 0 0, .int .i64 0, .bool false] [(0,1, v9), (1,1, v11), (2,1, x3), (3,1, v14), (4,1, x1), (5,1, v16), (6,1, v19)]) fun v21 =>
  mem fun w23 => bx 106 v21 fun v22 =>
  pv (nilO x0) fun v24 =>
  pv (faO 3 v24) fun v25 =>
  ld1 v25 fun v26 =>
  valV Pg R (Instr.buildSlice 64 1 ⟨[(0, v22)]⟩) fun v27 =>
  blt Pg R .append ⟨[64,64]⟩ 64 ⟨[false, false]⟩ ⟨[v26, v27]⟩ fun v28 =>
  pv (nilO x0) fun v29 =>
  pv (faO 3 v29) fun v30 =>
  st1 v30 v28 fun _ =>
  drewV (
  pv (nilO x0) fun v31 =>
  pv (faO 2 v31) fun v32 =>
  ld1 v32 fun v33 =>
  pv (faO 2 x7) fun v34 =>
  ld1 v34 fun v35 =>
  pv (bldO [.int .i64 0, .pointer none, .pointer none] [(0,1, (.int .i64 4)), (1,1, x1), (2,1, v22)]) fun v36 =>
  mem fun w38 => unitV Pg noR (Instr.mapUpdate 61 v33 v35 v36) fun v37 =>
  drewV (
  pv (nilO v22) fun v39 =>
  pv (faO 0 v39) fun v40 =>
  ld1 v40 fun v41 =>
  pv (faO 2 x7) fun v42 =>
  ld1 v42 fun v43 =>
  pv (faO 3 x7) fun v44 =>
  ld1 v44 fun v45 =>
  pv (faO 4 x7) fun v46 =>
  ld1 v46 fun v47 =>
  pv (faO 0 x7) fun v48 =>
  pv (faO 0 v48) fun v49 =>
  ld1 v49 fun v50 =>
  pv (faO 6 x7) fun v51 =>
  ld1 v51 fun v52 =>
  pv (faO 6 x7) fun v53 =>
  ld1 v53 fun v54 =>
  pv (lenS v54) fun v55 =>
  pv (min2I x4 v55) fun v56 =>
  pv (slS 1 v52 none (some v56)) fun v57 =>
  mem fun w59 => cal Pg noR 15 ⟨[v57]⟩ fun v58 =>
  rd1 v49 v50 <|
  rd1 v46 v47 <|
  rd1 v44 v45 <|
  rd1 v42 v43 <|
  rd1 v40 v41 <|
  pv (faO 6 x7) fun v60 =>
  ld1S [w59] v60 fun v61 =>
  pv (lenS v61) fun v62 =>
  pv (bldO [.int .i64 0, .int .i64 0, .int .i64 0, .int .i64 0, .int .i64 0, .int .i64 0, .int .i64 0, .slice none 0 0, .int .i64 0, .int .i64 0] [(0,1, v41), (1,1, v43), (2,1, v45), (3,1, v47), (4,1, v50), (7,1, v58), (8,1, v62), (9,1, (.int .i64 1))]) fun v63 =>
  mem fun w65 => stN 10 x10 v63 fun v64 =>
  ldN 10 x10 fun v66 => R (.returned v66))))
theorem F30_j1_ok (R : ER) (e : Env) : den Pg R (cd Try.f30 [1,1]) e (kont Pg R Try.f30) = (F30_j1 R (e 0) (e 1) (e 3) (e 4) (e 7) (e 10)) := by kernel_rfl
def F30_j4 (R : ER) (x7 x10 : Value) : WP :=
  pv (faO 3 x7) fun v67 =>
  ld1 v67 fun v68 =>
  pv (faO 4 x7) fun v69 =>
  ld1 v69 fun v70 =>
  pv (faO 0 x7) fun v71 =>
  pv (faO 0 v71) fun v72 =>
  ld1 v72 fun v73 =>
  pv (faO 8 x7) fun v74 =>
  ld1 v74 fun v75 =>
  pv (faO 9 x7) fun v76 =>
  ld1 v76 fun v77 =>
  pv (faO 10 x7) fun v78 =>
  ld1 v78 fun v79 =>
  pv (bldO [.int .i64 0, .int .i64 0, .int .i64 0, .int .i64 0, .int .i64 0, .int .i64 0, .int .i64 0, .slice none 0 0, .int .i64 0, .int .i64 0] [(1,1, (.int .i64 (-1))), (2,1, v68), (3,1, v70), (4,1, v73), (5,1, v75), (6,1, v77), (9,1, v79)]) fun v80 =>
  stN 10 x10 v80 fun _ =>
  ldN 10 x10 fun v81 => R (.returned v81)
theorem F30_j4_ok (R : ER) (e : Env) : den Pg R (cd Try.f30 [1,0,1,0]) e (setN (kont Pg R Try.f30) (fun e => F30_j1 R (e 0) (e 1) (e 3) (e 4) (e 7) (e 10))) = (F30_j4 R (e 7) (e 10)) := by kernel_rfl
def F30_j3 (R : ER) (x0 x1 x3 x4 x7 x10 x14 : Value) : WP :=
  cnd x14 (F30_j4 R x7 x10) (F30_j1 R x0 x1 x3 x4 x7 x10)
theorem F30_j3_ok (R : ER) (e : Env) : den Pg R (cd Try.f30 [1,0,1]) e (setN (kont Pg R Try.f30) (fun e => F30_j1 R (e 0) (e 1) (e 3) (e 4) (e 7) (e 10))) = (F30_j3 R (e 0) (e 1) (e 3) (e 4) (e 7) (e 10) (e 14)) := (den_if Pg R (cd Try.f30 [1,0,1]) (cd Try.f30 [1,0,1,0]) (cd Try.f30 [1,0,1,1]) e (setN (kont Pg R Try.f30) (fun e => F30_j1 R (e 0) (e 1) (e 3) (e 4) (e 7) (e 10))) (F30_j4 R (e 7) (e 10)) _ _ (by kernel_rfl) (F30_j4_ok R e) rfl (by kernel_rfl))
def F30_j2 (R : ER) (x0 x1 x3 x4 x7 x10 : Value) : WP :=
  pv (faO 2 x7) fun v82 =>
  ld1 v82 fun v83 =>
  pv (bin .eql v83 (.int .i64 (-1))) fun v84 =>
  F30_j3 R x0 x1 x3 x4 x7 x10 v84
theorem F30_j2_ok (R : ER) (e : Env) : den Pg R (cd Try.f30 [1,0]) e (setN (kont Pg R Try.f30) (fun e => F30_j1 R (e 0) (e 1) (e 3) (e 4) (e 7) (e 10))) = (F30_j2 R (e 0) (e 1) (e 3) (e 4) (e 7) (e 10)) := (den_join Pg R 0 (cd Try.f30 [1,0]) (cd Try.f30 [1,0,1]) e (setN (kont Pg R Try.f30) (fun e => F30_j1 R (e 0) (e 1) (e 3) (e 4) (e 7) (e 10))) (fun e => F30_j3 R (e 0) (e 1) (e 3) (e 4) (e 7) (e 10) (e 14)) _ (by kernel_rfl) (fun e => F30_j3_ok R e) (by kernel_rfl))
def F30 (R : ER) (x0 x1 x2 x3 x4 : Value) : WP :=
  bx 89 x2 fun v85 =>
  al Pg 34 fun v86 =>
  F30_j2 R x0 x1 x3 x4 v85 v86
theorem F30_den (R : ER) (x0 x1 x2 x3 x4 : Value) : den Pg R (cd Try.f30 []) (argsEnv [x0, x1, x2, x3, x4]) (kont Pg R Try.f30) = F30 R x0 x1 x2 x3 x4 :=
  have h : ∀ e, den Pg R (cd Try.f30 []) e (kont Pg R Try.f30) = F30 R (e 0) (e 1) (e 2) (e 3) (e 4) := fun e => (den_join Pg R 1 (cd Try.f30 []) (cd Try.f30 [1,1]) e (kont Pg R Try.f30) (fun e => F30_j1 R (e 0) (e 1) (e 3) (e 4) (e 7) (e 10)) _ (by kernel_rfl) (fun e => F30_j1_ok R e) (den_join Pg R 0 (pre 1 (cd Try.f30 [])) (cd Try.f30 [1,0]) e (setN (kont Pg R Try.f30) (fun e => F30_j1 R (e 0) (e 1) (e 3) (e 4) (e 7) (e 10))) (fun e => F30_j2 R (e 0) (e 1) (e 3) (e 4) (e 7) (e 10)) _ (by kernel_rfl) (fun e => F30_j2_ok R e) (by kernel_rfl)))
  h _
theorem F30_calls {R : ER} {x0 x1 x2 x3 x4 : Value} {w : World} (h : F30 R x0 x1 x2 x3 x4 w) : Calls Pg 30 ⟨[x0, x1, x2, x3, x4]⟩ w R :=
  calls_of_den Try.func30 (by kernel_rfl) (by kernel_rfl) (F30_den R x0 x1 x2 x3 x4) h
/-! ### 31: channels_insert -/
def F31 (R : ER) (x0 x1 x2 : Value) : WP :=
  bx 101 x1 fun v1 =>
  bx 102 x2 fun v2 =>
  ld1 v2 fun v3 =>
  ldN 4 v1 fun v4 =>
  calD Pg R v3 ⟨[v4]⟩ fun v5 =>
  cal Pg R 41 ⟨[x0, v5, (.func (.func 42) ⟨[]⟩ ⟨[v2]⟩)]⟩ fun v6 =>
  pv (extO 0 v6) fun v7 =>
  pv (extO 1 v6) fun v8 =>
  ldN 4 v1 fun v9 =>
  valV Pg R (Instr.buildSlice 72 1 ⟨[(0, v9)]⟩) fun v10 =>
  cal Pg R 45 ⟨[x0, v7, v10]⟩ fun v11 =>
  R (.returned v11)
theorem F31_den (R : ER) (x0 x1 x2 : Value) : den Pg R (cd Try.f31 []) (argsEnv [x0, x1, x2]) (kont Pg R Try.f31) = F31 R x0 x1 x2 :=
  have h : ∀ e, den Pg R (cd Try.f31 []) e (kont Pg R Try.f31) = F31 R (e 0) (e 1) (e 2) := fun e => by kernel_rfl
  h _
theorem F31_calls {R : ER} {x0 x1 x2 : Value} {w : World} (h : F31 R x0 x1 x2 w) : Calls Pg 31 ⟨[x0, x1, x2]⟩ w R :=
  calls_of_den Try.func31 (by kernel_rfl) (by kernel_rfl) (F31_den R x0 x1 x2) h
/-! ### 32: channels_Table_Receive_1 -/
def F32 (R : ER) (x0 : Value) : WP :=
  bx 101 x0 fun v1 =>
  al Pg 86 fun v2 =>
  pv (faO 0 v1) fun v3 =>
  ldN 2 v3 fun v4 =>
  stN 2 v2 v4 fun _ =>
  ldN 2 v2 fun v5 => R (.returned v5)
theorem F32_den (R : ER) (x0 : Value) : den Pg R (cd Try.f32 []) (argsEnv [x0]) (kont Pg R Try.f32) = F32 R x0 :=
  have h : ∀ e, den Pg R (cd Try.f32 []) e (kont Pg R Try.f32) = F32 R (e 0) := fun e => by kernel_rfl
  h _
theorem F32_calls {R : ER} {x0 : Value} {w : World} (h : F32 R x0 w) : Calls Pg 32 ⟨[x0]⟩ w R :=
  calls_of_den Try.func32 (by kernel_rfl) (by kernel_rfl) (F32_den R x0) h
/-! ### 33: channels_Table_asked -/
def F33 (R : ER) (x0 x1 x2 x3 : Value) : WP :=
  pv (eqNilP x0) fun v1 =>
  cnd v1 (
   R (.returned (.tuple ⟨[(.pointer none), (.int .i64 35)]⟩))) (
   cal Pg R 19 ⟨[x1]⟩ fun v2 =>
   pv (unO .not v2) fun v3 =>
   cnd v3 (
    R (.returned (.tuple ⟨[(.pointer none), (.int .i64 34)]⟩))) (
    pv (lenS x3) fun v4 =>
    pv (bin .gtr v4 (.int .i64 4096)) fun v5 =>
    cnd v5 (
     R (.returned (.tuple ⟨[(.pointer none), (.int .i64 20)]⟩))) (
     cal Pg R 46 ⟨[x0, x1, x2]⟩ fun v6 =>
  pv (extO 0 v6) fun v7 =>
  pv (extO 1 v6) fun v8 =>
  R (.returned (.tuple ⟨[v7, v8]⟩)))))
theorem F33_den (R : ER) (x0 x1 x2 x3 : Value) : den Pg R (cd Try.f33 []) (argsEnv [x0, x1, x2, x3]) (kont Pg R Try.f33) = F33 R x0 x1 x2 x3 :=
  have h : ∀ e, den Pg R (cd Try.f33 []) e (kont Pg R Try.f33) = F33 R (e 0) (e 1) (e 2) (e 3) := fun e => (by kernel_rfl)
  h _
theorem F33_calls {R : ER} {x0 x1 x2 x3 : Value} {w : World} (h : F33 R x0 x1 x2 x3 w) : Calls Pg 33 ⟨[x0, x1, x2, x3]⟩ w R :=
  calls_of_den Try.func33 (by kernel_rfl) (by kernel_rfl) (F33_den R x0 x1 x2 x3) h
/-! ### 34: channels_message_write -/
def F34_j2 (R : ER) (x0 x1 x2 : Value) : WP :=
  pv (nilO x0) fun v1 =>
  pv (faO 6 v1) fun v2 =>
  ld1 v2 fun v3 =>
  pv (slS 1 v3 (some x1) none) fun v4 =>
  blt Pg R .copy ⟨[22,22]⟩ 3 ⟨[false, false]⟩ ⟨[v4, x2]⟩ fun v5 =>
  pv (nilO x0) fun v6 =>
  pv (faO 7 v6) fun v7 =>
  ld1 v7 fun v8 =>
  pv (lenS x2) fun v9 =>
  pv (bin .add x1 v9) fun v10 =>
  pv (max2I v8 v10) fun v11 =>
  pv (nilO x0) fun v12 =>
  pv (faO 7 v12) fun v13 =>
  st1 v13 v11 fun _ =>
  R (.returned (.tuple ⟨[]⟩))
theorem F34_j2_ok (R : ER) (e : Env) : den Pg R (cd Try.f34 [1,0]) e (kont Pg R Try.f34) = (F34_j2 R (e 0) (e 1) (e 2)) := by kernel_rfl
def F34_j1 (R : ER) (x0 x1 x2 x8 : Value) : WP :=
  cnd x8 (F34_j2 R x0 x1 x2) (R (.returned (.tuple ⟨[]⟩)))
theorem F34_j1_ok (R : ER) (e : Env) : den Pg R (cd Try.f34 [1]) e (kont Pg R Try.f34) = (F34_j1 R (e 0) (e 1) (e 2) (e 8)) := (den_if Pg R (cd Try.f34 [1]) (cd Try.f34 [1,0]) (cd Try.f34 [1,1]) e (kont Pg R Try.f34) (F34_j2 R (e 0) (e 1) (e 2)) _ _ (by kernel_rfl) (F34_j2_ok R e) rfl (by kernel_rfl))
def F34 (R : ER) (x0 x1 x2 : Value) : WP :=
  pv (lenS x2) fun v14 =>
  pv (bin .gtr v14 (.int .i64 0)) fun v15 =>
  F34_j1 R x0 x1 x2 v15
theorem F34_den (R : ER) (x0 x1 x2 : Value) : den Pg R (cd Try.f34 []) (argsEnv [x0, x1, x2]) (kont Pg R Try.f34) = F34 R x0 x1 x2 :=
  have h : ∀ e, den Pg R (cd Try.f34 []) e (kont Pg R Try.f34) = F34 R (e 0) (e 1) (e 2) := fun e => (den_join Pg R 0 (cd Try.f34 []) (cd Try.f34 [1]) e (kont Pg R Try.f34) (fun e => F34_j1 R (e 0) (e 1) (e 2) (e 8)) _ (by kernel_rfl) (fun e => F34_j1_ok R e) (by kernel_rfl))
  h _
theorem F34_calls {R : ER} {x0 x1 x2 : Value} {w : World} (h : F34 R x0 x1 x2 w) : Calls Pg 34 ⟨[x0, x1, x2]⟩ w R :=
  calls_of_den Try.func34 (by kernel_rfl) (by kernel_rfl) (F34_den R x0 x1 x2) h
/-! ### 35: channels_Table_drop -/
def F35 (R : ER) (x0 x1 x2 x3 : Value) : WP :=
  bx 92 x1 fun v1 =>
  al Pg 58 fun v2 =>
  pv (nilO x0) fun v3 =>
  pv (faO 3 v3) fun v4 =>
  ld1 v4 fun v5 =>
  cal Pg R 47 ⟨[v5, (.func (.func 48) ⟨[]⟩ ⟨[v1]⟩)]⟩ fun v6 =>
  pv (nilO x0) fun v7 =>
  pv (faO 3 v7) fun v8 =>
  st1 v8 v6 fun _ =>
  ld1 v1 fun v9 =>
  pv (nilO v9) fun v10 =>
  pv (faO 1 v10) fun v11 =>
  ld1 v11 fun v12 =>
  cal Pg R 38 ⟨[x0, v12, x2, x3]⟩ fun v13 =>
  stN 3 v2 v13 fun _ =>
  ldN 3 v2 fun v14 => R (.returned v14)
theorem F35_den (R : ER) (x0 x1 x2 x3 : Value) : den Pg R (cd Try.f35 []) (argsEnv [x0, x1, x2, x3]) (kont Pg R Try.f35) = F35 R x0 x1 x2 x3 :=
  have h : ∀ e, den Pg R (cd Try.f35 []) e (kont Pg R Try.f35) = F35 R (e 0) (e 1) (e 2) (e 3) := fun e => by kernel_rfl
  h _
theorem F35_calls {R : ER} {x0 x1 x2 x3 : Value} {w : World} (h : F35 R x0 x1 x2 x3 w) : Calls Pg 35 ⟨[x0, x1, x2, x3]⟩ w R :=
  calls_of_den Try.func35 (by kernel_rfl) (by kernel_rfl) (F35_den R x0 x1 x2 x3) h
/-! ### 36: channels_Table_pulse -/
def F36_j2 (R : ER) (x1 x3 x6 x10 : Value) : WP :=
  pv (bin .geq x10 (.int .i64 64)) fun v1 =>
  gd v1 true (pv (some x3)) fun v2 =>
  gd v1 true (pv (bin .neq v2 (.int .i64 0))) fun v3 =>
  pv (pickO v1 v3 (.bool false)) fun v4 =>
  cnd v4 (
   R (.returned (.tuple ⟨[(.slice none 0 0), x3]⟩))) (
   ldN 11 x6 fun v5 =>
  cal Pg R 27 ⟨[x1, v5]⟩ fun v6 =>
  R (.returned (.tuple ⟨[(.slice none 0 0), (.int .i64 0)]⟩)))
theorem F36_j2_ok (R : ER) (e : Env) : den Pg R (cd Try.f36 [1,1,1,1,1]) e (kont Pg R Try.f36) = (F36_j2 R (e 1) (e 3) (e 6) (e 10)) := (by kernel_rfl)
def F36_j6 (R : ER) (k1 : V7) (x1 x3 x6 x10 x28 x29 x30 : Value) : WP :=
  pv (bin .add x30 (.int .i64 1)) fun v7 =>
  k1 x1 x3 x6 x10 x28 x29 v7
theorem F36_j6_ok (R : ER) (k1 : V7) (e : Env) : den Pg R (cd Try.f36 [1,1,1,1,0,1,0,0,1,1,1]) e (setN (inB 0 (setN (kont Pg R Try.f36) (fun e => F36_j2 R (e 1) (e 3) (e 6) (e 10)))) (fun e => k1 (e 1) (e 3) (e 6) (e 10) (e 28) (e 29) (e 30))) = (F36_j6 R k1 (e 1) (e 3) (e 6) (e 10) (e 28) (e 29) (e 30)) := by kernel_rfl
def F36_j10 (R : ER) (k1 : V7) (x1 x11 : Value) : WP :=
  pv (nilO x1) fun v8 =>
  pv (faO 3 v8) fun v9 =>
  ld1 v9 fun v10 =>
  pv (ixS 11 v10 x11) fun v11 =>
  pv (faO 10 v11) fun v12 =>
  ld1 v12 fun v13 =>
  pv (bin .add v13 (.int .i64 1)) fun v14 =>
  pv (ixS 11 v10 x11) fun v15 =>
  pv (faO 10 v15) fun v16 =>
  st1 v16 v14 fun _ =>
  R (.returned (.tuple ⟨[(.slice none 0 0), (.int .i64 0)]⟩))
theorem F36_j10_ok (R : ER) (k1 : V7) (e : Env) : den Pg R (cd Try.f36 [1,1,1,1,0,1,0,0,1,1,0,0,1,1,1,1,0]) e (inB 1 (setN (setN (inB 0 (setN (kont Pg R Try.f36) (fun e => F36_j2 R (e 1) (e 3) (e 6) (e 10)))) (fun e => k1 (e 1) (e 3) (e 6) (e 10) (e 28) (e 29) (e 30))) (fun e => F36_j6 R k1 (e 1) (e 3) (e 6) (e 10) (e 28) (e 29) (e 30)))) = (F36_j10 R k1 (e 1) (e 11)) := by kernel_rfl
def F36_j9 (R : ER) (k1 : V7) (x1 x3 x6 x10 x11 x28 x29 x30 x67 : Value) : WP :=
  cnd x67 (F36_j10 R k1 x1 x11) (F36_j6 R k1 x1 x3 x6 x10 x28 x29 x30)
theorem F36_j9_ok (R : ER) (k1 : V7) (e : Env) : den Pg R (cd Try.f36 [1,1,1,1,0,1,0,0,1,1,0,0,1,1,1,1]) e (inB 1 (setN (setN (inB 0 (setN (kont Pg R Try.f36) (fun e => F36_j2 R (e 1) (e 3) (e 6) (e 10)))) (fun e => k1 (e 1) (e 3) (e 6) (e 10) (e 28) (e 29) (e 30))) (fun e => F36_j6 R k1 (e 1) (e 3) (e 6) (e 10) (e 28) (e 29) (e 30)))) = (F36_j9 R k1 (e 1) (e 3) (e 6) (e 10) (e 11) (e 28) (e 29) (e 30) (e 67)) := (den_if Pg R (cd Try.f36 [1,1,1,1,0,1,0,0,1,1,0,0,1,1,1,1]) (cd Try.f36 [1,1,1,1,0,1,0,0,1,1,0,0,1,1,1,1,0]) (cd Try.f36 [1,1,1,1,0,1,0,0,1,1,0,0,1,1,1,1,1]) e (inB 1 (setN (setN (inB 0 (setN (kont Pg R Try.f36) (fun e => F36_j2 R (e 1) (e 3) (e 6) (e 10)))) (fun e => k1 (e 1) (e 3) (e 6) (e 10) (e 28) (e 29) (e 30))) (fun e => F36_j6 R k1 (e 1) (e 3) (e 6) (e 10) (e 28) (e 29) (e 30)))) (F36_j10 R k1 (e 1) (e 11)) _ _ (by kernel_rfl) (F36_j10_ok R k1 e) rfl (by kernel_rfl))
def F36_j8 (R : ER) (k1 : V7) (x1 x3 x6 x10 x11 x12 x28 x29 x30 : Value) : WP :=
  pv (bin .add x10 (.int .i64 1)) fun v17 =>
  pv (faO 8 x12) fun v18 =>
  ld1 v18 fun v19 =>
  pv (faO 8 x6) fun v20 =>
  ld1 v20 fun v21 =>
  pv (bin .eql v19 v21) fun v22 =>
  gd v22 true (pv (faO 9 x12)) fun v23 =>
  gd v22 true (ld1 v23) fun v24 =>
  gd v22 true (pv (faO 9 x6)) fun v25 =>
  gd v22 true (ld1 v25) fun v26 =>
  gd v22 true (pv (bin .eql v24 v26)) fun v27 =>
  pv (pickO v22 v27 (.bool false)) fun v28 =>
  gd v28 true (pv (faO 0 x12)) fun v29 =>
  gd v28 true (pv (faO 0 v29)) fun v30 =>
  gd v28 true (ld1 v30) fun v31 =>
  gd v28 true (pv (faO 0 x6)) fun v32 =>
  gd v28 true (pv (faO 0 v32)) fun v33 =>
  gd v28 true (ld1 v33) fun v34 =>
  gd v28 true (pv (bin .eql v31 v34)) fun v35 =>
  pv (pickO v28 v35 (.bool false)) fun v36 =>
  gd v36 true (pv (faO 4 x12)) fun v37 =>
  gd v36 true (ld1 v37) fun v38 =>
  gd v36 true (pv (faO 4 x6)) fun v39 =>
  gd v36 true (ld1 v39) fun v40 =>
  gd v36 true (pv (bin .eql v38 v40)) fun v41 =>
  pv (pickO v36 v41 (.bool false)) fun v42 =>
  F36_j9 R k1 x1 x3 x6 v17 x11 x28 x29 x30 v42
theorem F36_j8_ok (R : ER) (k1 : V7) (e : Env) : den Pg R (cd Try.f36 [1,1,1,1,0,1,0,0,1,1,0,0,1,1]) e (inB 1 (setN (setN (inB 0 (setN (kont Pg R Try.f36) (fun e => F36_j2 R (e 1) (e 3) (e 6) (e 10)))) (fun e => k1 (e 1) (e 3) (e 6) (e 10) (e 28) (e 29) (e 30))) (fun e => F36_j6 R k1 (e 1) (e 3) (e 6) (e 10) (e 28) (e 29) (e 30)))) = (F36_j8 R k1 (e 1) (e 3) (e 6) (e 10) (e 11) (e 12) (e 28) (e 29) (e 30)) := (den_join Pg R 1 (cd Try.f36 [1,1,1,1,0,1,0,0,1,1,0,0,1,1]) (cd Try.f36 [1,1,1,1,0,1,0,0,1,1,0,0,1,1,1,1]) e (inB 1 (setN (setN (inB 0 (setN (kont Pg R Try.f36) (fun e => F36_j2 R (e 1) (e 3) (e 6) (e 10)))) (fun e => k1 (e 1) (e 3) (e 6) (e 10) (e 28) (e 29) (e 30))) (fun e => F36_j6 R k1 (e 1) (e 3) (e 6) (e 10) (e 28) (e 29) (e 30)))) (fun e => F36_j9 R k1 (e 1) (e 3) (e 6) (e 10) (e 11) (e 28) (e 29) (e 30) (e 67)) _ (by kernel_rfl) (fun e => F36_j9_ok R k1 e) (by kernel_rfl))
def F36_j7 (R : ER) (k1 : V7) (x1 x3 x6 x10 x28 x29 x30 : Value) : WP :=
  pv (ixS 11 x28 x30) fun v43 =>
  ldN 11 v43 fun v44 =>
  al Pg 89 fun v45 =>
  stN 11 v45 v44 fun _ =>
  pv (faO 2 v45) fun v46 =>
  ld1 v46 fun v47 =>
  pv (bin .neq v47 (.int .i64 (-1))) fun v48 =>
  cnd v48 (
   F36_j6 R k1 x1 x3 x6 x10 x28 x29 x30) (
   F36_j8 R k1 x1 x3 x6 x10 x30 v45 x28 x29 x30)
theorem F36_j7_ok (R : ER) (k1 : V7) (e : Env) : den Pg R (cd Try.f36 [1,1,1,1,0,1,0,0,1,1,0]) e (setN (setN (inB 0 (setN (kont Pg R Try.f36) (fun e => F36_j2 R (e 1) (e 3) (e 6) (e 10)))) (fun e => k1 (e 1) (e 3) (e 6) (e 10) (e 28) (e 29) (e 30))) (fun e => F36_j6 R k1 (e 1) (e 3) (e 6) (e 10) (e 28) (e 29) (e 30))) = (F36_j7 R k1 (e 1) (e 3) (e 6) (e 10) (e 28) (e 29) (e 30)) := (den_block Pg R (cd Try.f36 [1,1,1,1,0,1,0,0,1,1,0]) 1 (cd Try.f36 [1,1,1,1,0,1,0,0,1,1,0,0]) e (setN (setN (inB 0 (setN (kont Pg R Try.f36) (fun e => F36_j2 R (e 1) (e 3) (e 6) (e 10)))) (fun e => k1 (e 1) (e 3) (e 6) (e 10) (e 28) (e 29) (e 30))) (fun e => F36_j6 R k1 (e 1) (e 3) (e 6) (e 10) (e 28) (e 29) (e 30))) _ (by kernel_rfl) (den_join Pg R 1 (cd Try.f36 [1,1,1,1,0,1,0,0,1,1,0,0]) (cd Try.f36 [1,1,1,1,0,1,0,0,1,1,0,0,1,1]) e (inB 1 (setN (setN (inB 0 (setN (kont Pg R Try.f36) (fun e => F36_j2 R (e 1) (e 3) (e 6) (e 10)))) (fun e => k1 (e 1) (e 3) (e 6) (e 10) (e 28) (e 29) (e 30))) (fun e => F36_j6 R k1 (e 1) (e 3) (e 6) (e 10) (e 28) (e 29) (e 30)))) (fun e => F36_j8 R k1 (e 1) (e 3) (e 6) (e 10) (e 11) (e 12) (e 28) (e 29) (e 30)) _ (by kernel_rfl) (fun e => F36_j8_ok R k1 e) (by kernel_rfl)))
def F36_j5 (R : ER) (k1 : V7) (x1 x3 x6 x10 x28 x29 x30 : Value) : WP :=
  F36_j7 R k1 x1 x3 x6 x10 x28 x29 x30
theorem F36_j5_ok (R : ER) (k1 : V7) (e : Env) : den Pg R (cd Try.f36 [1,1,1,1,0,1,0,0,1,1]) e (setN (inB 0 (setN (kont Pg R Try.f36) (fun e => F36_j2 R (e 1) (e 3) (e 6) (e 10)))) (fun e => k1 (e 1) (e 3) (e 6) (e 10) (e 28) (e 29) (e 30))) = (F36_j5 R k1 (e 1) (e 3) (e 6) (e 10) (e 28) (e 29) (e 30)) := (den_join Pg R 0 (cd Try.f36 [1,1,1,1,0,1,0,0,1,1]) (cd Try.f36 [1,1,1,1,0,1,0,0,1,1,1]) e (setN (inB 0 (setN (kont Pg R Try.f36) (fun e => F36_j2 R (e 1) (e 3) (e 6) (e 10)))) (fun e => k1 (e 1) (e 3) (e 6) (e 10) (e 28) (e 29) (e 30))) (fun e => F36_j6 R k1 (e 1) (e 3) (e 6) (e 10) (e 28) (e 29) (e 30)) _ (by kernel_rfl) (fun e => F36_j6_ok R k1 e) (den_conv Pg R (pre 0 (cd Try.f36 [1,1,1,1,0,1,0,0,1,1])) (cd Try.f36 [1,1,1,1,0,1,0,0,1,1,0]) e (setN (setN (inB 0 (setN (kont Pg R Try.f36) (fun e => F36_j2 R (e 1) (e 3) (e 6) (e 10)))) (fun e => k1 (e 1) (e 3) (e 6) (e 10) (e 28) (e 29) (e 30))) (fun e => F36_j6 R k1 (e 1) (e 3) (e 6) (e 10) (e 28) (e 29) (e 30))) _ (by kernel_rfl) (F36_j7_ok R k1 e)))
def F36_b1 (R : ER) (k1 : V7) (x1 x3 x6 x10 x28 x29 x30 : Value) : WP :=
  pv (bin .lss x30 x29) fun v49 =>
  cnd v49 (
   F36_j5 R k1 x1 x3 x6 x10 x28 x29 x30) (
   F36_j2 R x1 x3 x6 x10)
theorem F36_b1_ok (R : ER) (k1 : V7) (e : Env) : den Pg R (cd Try.f36 [1,1,1,1,0,1,0,0]) e (setN (inB 0 (setN (kont Pg R Try.f36) (fun e => F36_j2 R (e 1) (e 3) (e 6) (e 10)))) (fun e => k1 (e 1) (e 3) (e 6) (e 10) (e 28) (e 29) (e 30))) = (F36_b1 R k1 (e 1) (e 3) (e 6) (e 10) (e 28) (e 29) (e 30)) := (den_join Pg R 1 (cd Try.f36 [1,1,1,1,0,1,0,0]) (cd Try.f36 [1,1,1,1,0,1,0,0,1,1]) e (setN (inB 0 (setN (kont Pg R Try.f36) (fun e => F36_j2 R (e 1) (e 3) (e 6) (e 10)))) (fun e => k1 (e 1) (e 3) (e 6) (e 10) (e 28) (e 29) (e 30))) (fun e => F36_j5 R k1 (e 1) (e 3) (e 6) (e 10) (e 28) (e 29) (e 30)) _ (by kernel_rfl) (fun e => F36_j5_ok R k1 e) (by kernel_rfl))
noncomputable def F36_l1 (R : ER) (n : Nat) : V7 := Nat.rec (motive := fun _ => V7) (fun _ _ _ _ _ _ _ => fun _ => False) (fun _ ih => fun x1 x3 x6 x10 x28 x29 x30 => F36_b1 R ih x1 x3 x6 x10 x28 x29 x30) n
theorem F36_l1_succ (R : ER) (n : Nat) (x1 x3 x6 x10 x28 x29 x30 : Value) : F36_l1 R (n + 1) x1 x3 x6 x10 x28 x29 x30 = F36_b1 R (F36_l1 R n) x1 x3 x6 x10 x28 x29 x30 := rfl
theorem F36_l1_ok (R : ER) : ∀ (n : Nat) (e : Env), iterL (den Pg R (cd Try.f36 [1,1,1,1,0,1,0,0])) n e (inB 0 (setN (kont Pg R Try.f36) (fun e => F36_j2 R (e 1) (e 3) (e 6) (e 10)))) = F36_l1 R n (e 1) (e 3) (e 6) (e 10) (e 28) (e 29) (e 30) :=
  iterL_join (den Pg R (cd Try.f36 [1,1,1,1,0,1,0,0])) (inB 0 (setN (kont Pg R Try.f36) (fun e => F36_j2 R (e 1) (e 3) (e 6) (e 10)))) (fun n e => F36_l1 R n (e 1) (e 3) (e 6) (e 10) (e 28) (e 29) (e 30)) (fun _ => rfl) (fun n e => (F36_b1_ok R (F36_l1 R n) e).trans (F36_l1_succ R n (e 1) (e 3) (e 6) (e 10) (e 28) (e 29) (e 30)).symm)
def F36_j4 (R : ER) (x1 x3 x6 x10 x28 x29 x30 : Value) : WP :=
  exN fun n => F36_l1 R n x1 x3 x6 x10 x28 x29 x30
theorem F36_j4_ok (R : ER) (e : Env) : den Pg R (cd Try.f36 [1,1,1,1,0,1]) e (setN (kont Pg R Try.f36) (fun e => F36_j2 R (e 1) (e 3) (e 6) (e 10))) = (F36_j4 R (e 1) (e 3) (e 6) (e 10) (e 28) (e 29) (e 30)) := (den_block Pg R (cd Try.f36 [1,1,1,1,0,1]) 0 (cd Try.f36 [1,1,1,1,0,1,0]) e (setN (kont Pg R Try.f36) (fun e => F36_j2 R (e 1) (e 3) (e 6) (e 10))) _ (by kernel_rfl) (den_loop Pg R (cd Try.f36 [1,1,1,1,0,1,0]) (cd Try.f36 [1,1,1,1,0,1,0,0]) e (inB 0 (setN (kont Pg R Try.f36) (fun e => F36_j2 R (e 1) (e 3) (e 6) (e 10)))) (fun n e => F36_l1 R n (e 1) (e 3) (e 6) (e 10) (e 28) (e 29) (e 30)) _ (by kernel_rfl) (F36_l1_ok R) (by kernel_rfl)))
def F36_j3 (R : ER) (x1 x3 x6 x10 : Value) : WP :=
  pv (nilO x1) fun v50 =>
  pv (faO 3 v50) fun v51 =>
  ld1 v51 fun v52 =>
  pv (lenS v52) fun v53 =>
  F36_j4 R x1 x3 x6 x10 v52 v53 (.int .i64 0)
theorem F36_j3_ok (R : ER) (e : Env) : den Pg R (cd Try.f36 [1,1,1,1,0]) e (setN (kont Pg R Try.f36) (fun e => F36_j2 R (e 1) (e 3) (e 6) (e 10))) = (F36_j3 R (e 1) (e 3) (e 6) (e 10)) := (den_join Pg R 0 (cd Try.f36 [1,1,1,1,0]) (cd Try.f36 [1,1,1,1,0,1]) e (setN (kont Pg R Try.f36) (fun e => F36_j2 R (e 1) (e 3) (e 6) (e 10))) (fun e => F36_j4 R (e 1) (e 3) (e 6) (e 10) (e 28) (e 29) (e 30)) _ (by kernel_rfl) (fun e => F36_j4_ok R e) (by kernel_rfl))
def F36_j1 (R : ER) (x1 x3 x6 : Value) : WP :=
  F36_j3 R x1 x3 x6 (.int .i64 0)
theorem F36_j1_ok (R : ER) (e : Env) : den Pg R (cd Try.f36 [1,1,1]) e (kont Pg R Try.f36) = (F36_j1 R (e 1) (e 3) (e 6)) := (den_join Pg R 1 (cd Try.f36 [1,1,1]) (cd Try.f36 [1,1,1,1,1]) e (kont Pg R Try.f36) (fun e => F36_j2 R (e 1) (e 3) (e 6) (e 10)) _ (by kernel_rfl) (fun e => F36_j2_ok R e) (den_join Pg R 0 (pre 1 (cd Try.f36 [1,1,1])) (cd Try.f36 [1,1,1,1,0]) e (setN (kont Pg R Try.f36) (fun e => F36_j2 R (e 1) (e 3) (e 6) (e 10))) (fun e => F36_j3 R (e 1) (e 3) (e 6) (e 10)) _ (by kernel_rfl) (fun e => F36_j3_ok R e) (by kernel_rfl)))
def F36 (R : ER) (x0 x1 x2 x3 : Value) : WP :=
  bx 89 x2 fun v54 =>
  pv (faO 2 v54) fun v55 =>
  st1 v55 (.int .i64 (-1)) fun _ =>
  pv (faO 10 v54) fun v56 =>
  st1 v56 (.int .i64 1) fun _ =>
  pv (nilO x1) fun v57 =>
  pv (faO 4 v57) fun v58 =>
  ld1 v58 fun v59 =>
  pv (lenS v59) fun v60 =>
  pv (bin .gtr v60 (.int .i64 0)) fun v61 =>
  cnd v61 (
   ldN 11 v54 fun v62 =>
   cal Pg R 26 ⟨[x0, x1, v62]⟩ fun v63 =>
   R (.returned (.tuple ⟨[v63, (.int .i64 0)]⟩))) (
   F36_j1 R x1 x3 v54)
theorem F36_den (R : ER) (x0 x1 x2 x3 : Value) : den Pg R (cd Try.f36 []) (argsEnv [x0, x1, x2, x3]) (kont Pg R Try.f36) = F36 R x0 x1 x2 x3 :=
  have h : ∀ e, den Pg R (cd Try.f36 []) e (kont Pg R Try.f36) = F36 R (e 0) (e 1) (e 2) (e 3) := fun e => (den_join Pg R 2 (cd Try.f36 []) (cd Try.f36 [1,1,1]) e (kont Pg R Try.f36) (fun e => F36_j1 R (e 1) (e 3) (e 6)) _ (by kernel_rfl) (fun e => F36_j1_ok R e) (by kernel_rfl))
  h _
theorem F36_calls {R : ER} {x0 x1 x2 x3 : Value} {w : World} (h : F36 R x0 x1 x2 x3 w) : Calls Pg 36 ⟨[x0, x1, x2, x3]⟩ w R :=
  calls_of_den Try.func36 (by kernel_rfl) (by kernel_rfl) (F36_den R x0 x1 x2 x3) h
/-! ### 37: slices_Delete_37 -/
def F37_j1 (R : ER) (x0 x1 x2 : Value) : WP :=
  pv (lenS x0) fun v1 =>
  drewV (
  pv (slS 4 x0 none (some x1)) fun v2 =>
  pv (slS 4 x0 (some x2) none) fun v3 =>
  mem fun w5 => blt Pg noR .append ⟨[72,72]⟩ 72 ⟨[false, false]⟩ ⟨[v2, v3]⟩ fun v4 =>
  pv (lenS v4) fun v6 =>
  pv (slS 4 v4 (some v6) (some v1)) fun v7 =>
  blt Pg R .clear ⟨[72]⟩ 0 ⟨[false]⟩ ⟨[v7]⟩ fun _ =>
  R (.returned v4))
theorem F37_j1_ok (R : ER) (e : Env) : den Pg R (cd Try.f37 [1,1,1]) e (kont Pg R Try.f37) = (F37_j1 R (e 0) (e 1) (e 2)) := by kernel_rfl
def F37 (R : ER) (x0 x1 x2 : Value) : WP :=
  pv (lenS x0) fun v8 =>
  valV Pg R (Instr.sliceAt 72 x0 (some x1) (some x2) (some v8)) fun v9 =>
  pv (bin .eql x1 x2) fun v10 =>
  cnd v10 (
   R (.returned x0)) (
   F37_j1 R x0 x1 x2)
theorem F37_den (R : ER) (x0 x1 x2 : Value) : den Pg R (cd Try.f37 []) (argsEnv [x0, x1, x2]) (kont Pg R Try.f37) = F37 R x0 x1 x2 :=
  have h : ∀ e, den Pg R (cd Try.f37 []) e (kont Pg R Try.f37) = F37 R (e 0) (e 1) (e 2) := fun e => (den_join Pg R 2 (cd Try.f37 []) (cd Try.f37 [1,1,1]) e (kont Pg R Try.f37) (fun e => F37_j1 R (e 0) (e 1) (e 2)) _ (by kernel_rfl) (fun e => F37_j1_ok R e) (by kernel_rfl))
  h _
theorem F37_calls {R : ER} {x0 x1 x2 : Value} {w : World} (h : F37 R x0 x1 x2 w) : Calls Pg 37 ⟨[x0, x1, x2]⟩ w R :=
  calls_of_den Try.func37 (by kernel_rfl) (by kernel_rfl) (F37_den R x0 x1 x2) h
/-! ### 38: channels_Table_ready -/
def F38 (R : ER) (x0 x1 x2 x3 : Value) : WP :=
  al Pg 58 fun v1 =>
  pv (nilO x0) fun v2 =>
  pv (faO 2 v2) fun v3 =>
  ld1 v3 fun v4 =>
  blt Pg R .delete ⟨[61,3]⟩ 0 ⟨[false, false]⟩ ⟨[v4, x1]⟩ fun _ =>
  pv (bldO [.int .i64 0, .int .i64 0, .int .i64 0] [(0,1, x1), (1,1, x2), (2,1, x3)]) fun v5 =>
  stN 3 v1 v5 fun _ =>
  ldN 3 v1 fun v6 => R (.returned v6)
theorem F38_den (R : ER) (x0 x1 x2 x3 : Value) : den Pg R (cd Try.f38 []) (argsEnv [x0, x1, x2, x3]) (kont Pg R Try.f38) = F38 R x0 x1 x2 x3 :=
  have h : ∀ e, den Pg R (cd Try.f38 []) e (kont Pg R Try.f38) = F38 R (e 0) (e 1) (e 2) (e 3) := fun e => by kernel_rfl
  h _
theorem F38_calls {R : ER} {x0 x1 x2 x3 : Value} {w : World} (h : F38 R x0 x1 x2 x3 w) : Calls Pg 38 ⟨[x0, x1, x2, x3]⟩ w R :=
  calls_of_den Try.func38 (by kernel_rfl) (by kernel_rfl) (F38_den R x0 x1 x2 x3) h
/-! ### 39: channels_insert_39 -/
def F39 (R : ER) (x0 x1 x2 : Value) : WP :=
  bx 89 x1 fun v1 =>
  bx 115 x2 fun v2 =>
  ld1 v2 fun v3 =>
  ldN 11 v1 fun v4 =>
  calD Pg R v3 ⟨[v4]⟩ fun v5 =>
  cal Pg R 49 ⟨[x0, v5, (.func (.func 50) ⟨[]⟩ ⟨[v2]⟩)]⟩ fun v6 =>
  pv (extO 0 v6) fun v7 =>
  pv (extO 1 v6) fun v8 =>
  ldN 11 v1 fun v9 =>
  valV Pg R (Instr.buildSlice 71 1 ⟨[(0, v9)]⟩) fun v10 =>
  cal Pg R 51 ⟨[x0, v7, v10]⟩ fun v11 =>
  R (.returned v11)
theorem F39_den (R : ER) (x0 x1 x2 : Value) : den Pg R (cd Try.f39 []) (argsEnv [x0, x1, x2]) (kont Pg R Try.f39) = F39 R x0 x1 x2 :=
  have h : ∀ e, den Pg R (cd Try.f39 []) e (kont Pg R Try.f39) = F39 R (e 0) (e 1) (e 2) := fun e => by kernel_rfl
  h _
theorem F39_calls {R : ER} {x0 x1 x2 : Value} {w : World} (h : F39 R x0 x1 x2 w) : Calls Pg 39 ⟨[x0, x1, x2]⟩ w R :=
  calls_of_den Try.func39 (by kernel_rfl) (by kernel_rfl) (F39_den R x0 x1 x2) h
/-! ### 40: channels_channel_queue_1 -/
def F40 (R : ER) (x0 : Value) : WP :=
  bx 89 x0 fun v1 =>
  al Pg 86 fun v2 =>
  pv (faO 0 v1) fun v3 =>
  ldN 2 v3 fun v4 =>
  stN 2 v2 v4 fun _ =>
  ldN 2 v2 fun v5 => R (.returned v5)
theorem F40_den (R : ER) (x0 : Value) : den Pg R (cd Try.f40 []) (argsEnv [x0]) (kont Pg R Try.f40) = F40 R x0 :=
  have h : ∀ e, den Pg R (cd Try.f40 []) e (kont Pg R Try.f40) = F40 R (e 0) := fun e => by kernel_rfl
  h _
theorem F40_calls {R : ER} {x0 : Value} {w : World} (h : F40 R x0 w) : Calls Pg 40 ⟨[x0]⟩ w R :=
  calls_of_den Try.func40 (by kernel_rfl) (by kernel_rfl) (F40_den R x0) h
/-! ### 41: slices_BinarySearchFunc -/
def F41_j1 (R : ER) (x0 x2 x4 x8 x9 : Value) : WP :=
  drewV (
  pv (bin .lss x9 x8) fun v1 =>
  gd v1 true (pv (some x2)) fun v2 =>
  gd v1 true (pv (some x0)) fun v3 =>
  gd v1 true (pv (some x9)) fun v4 =>
  gd v1 true (pv (ixS 4 v3 v4)) fun v5 =>
  gd v1 true (ldN 4 v5) fun v6 =>
  gd v1 true (ldN 2 x4) fun v7 =>
  mem fun w9 => gd v1 true (calD Pg noR v2 ⟨[v6, v7]⟩) fun v8 =>
  gd v1 true (pv (bin .eql v8 (.int .i64 0))) fun v10 =>
  pv (pickO v1 v10 (.bool false)) fun v11 =>
  R (.returned (.tuple ⟨[x9, v11]⟩)))
theorem F41_j1_ok (R : ER) (e : Env) : den Pg R (cd Try.f41 [1,1,1,1]) e (kont Pg R Try.f41) = (F41_j1 R (e 0) (e 2) (e 4) (e 8) (e 9)) := by kernel_rfl
def F41_j3 (R : ER) (k1 : V6) (x0 x2 x4 x8 x9 x10 : Value) : WP :=
  pv (bin .add x9 x10) fun v12 =>
  pv (cvI .u64 v12) fun v13 =>
  pv (bin .shr v13 (.int .u64 1)) fun v14 =>
  pv (cvI .i64 v14) fun v15 =>
  drewV (
  pv (ixS 4 x0 v15) fun v16 =>
  ldN 4 v16 fun v17 =>
  ldN 2 x4 fun v18 =>
  mem fun w20 => calD Pg noR x2 ⟨[v17, v18]⟩ fun v19 =>
  pv (bin .lss v19 (.int .i64 0)) fun v21 =>
  cnd v21 (
   pv (bin .add v15 (.int .i64 1)) fun v22 =>
   k1 x0 x2 x4 x8 v22 x10) (
   k1 x0 x2 x4 x8 x9 v15))
theorem F41_j3_ok (R : ER) (k1 : V6) (e : Env) : den Pg R (cd Try.f41 [1,1,1,0,0,0,1]) e (setN (inB 0 (setN (kont Pg R Try.f41) (fun e => F41_j1 R (e 0) (e 2) (e 4) (e 8) (e 9)))) (fun e => k1 (e 0) (e 2) (e 4) (e 8) (e 9) (e 10))) = (F41_j3 R k1 (e 0) (e 2) (e 4) (e 8) (e 9) (e 10)) := (den_block Pg R (cd Try.f41 [1,1,1,0,0,0,1]) 1 (cd Try.f41 [1,1,1,0,0,0,1,0]) e (setN (inB 0 (setN (kont Pg R Try.f41) (fun e => F41_j1 R (e 0) (e 2) (e 4) (e 8) (e 9)))) (fun e => k1 (e 0) (e 2) (e 4) (e 8) (e 9) (e 10))) _ (by kernel_rfl) (by kernel_rfl))
def F41_b1 (R : ER) (k1 : V6) (x0 x2 x4 x8 x9 x10 : Value) : WP :=
  pv (bin .lss x9 x10) fun v23 =>
  cnd v23 (
   F41_j3 R k1 x0 x2 x4 x8 x9 x10) (
   F41_j1 R x0 x2 x4 x8 x9)
theorem F41_b1_ok (R : ER) (k1 : V6) (e : Env) : den Pg R (cd Try.f41 [1,1,1,0,0,0]) e (setN (inB 0 (setN (kont Pg R Try.f41) (fun e => F41_j1 R (e 0) (e 2) (e 4) (e 8) (e 9)))) (fun e => k1 (e 0) (e 2) (e 4) (e 8) (e 9) (e 10))) = (F41_b1 R k1 (e 0) (e 2) (e 4) (e 8) (e 9) (e 10)) := (den_join Pg R 0 (cd Try.f41 [1,1,1,0,0,0]) (cd Try.f41 [1,1,1,0,0,0,1]) e (setN (inB 0 (setN (kont Pg R Try.f41) (fun e => F41_j1 R (e 0) (e 2) (e 4) (e 8) (e 9)))) (fun e => k1 (e 0) (e 2) (e 4) (e 8) (e 9) (e 10))) (fun e => F41_j3 R k1 (e 0) (e 2) (e 4) (e 8) (e 9) (e 10)) _ (by kernel_rfl) (fun e => F41_j3_ok R k1 e) (by kernel_rfl))
noncomputable def F41_l1 (R : ER) (n : Nat) : V6 := Nat.rec (motive := fun _ => V6) (fun _ _ _ _ _ _ => fun _ => False) (fun _ ih => fun x0 x2 x4 x8 x9 x10 => F41_b1 R ih x0 x2 x4 x8 x9 x10) n
theorem F41_l1_succ (R : ER) (n : Nat) (x0 x2 x4 x8 x9 x10 : Value) : F41_l1 R (n + 1) x0 x2 x4 x8 x9 x10 = F41_b1 R (F41_l1 R n) x0 x2 x4 x8 x9 x10 := rfl
theorem F41_l1_ok (R : ER) : ∀ (n : Nat) (e : Env), iterL (den Pg R (cd Try.f41 [1,1,1,0,0,0])) n e (inB 0 (setN (kont Pg R Try.f41) (fun e => F41_j1 R (e 0) (e 2) (e 4) (e 8) (e 9)))) = F41_l1 R n (e 0) (e 2) (e 4) (e 8) (e 9) (e 10) :=
  iterL_join (den Pg R (cd Try.f41 [1,1,1,0,0,0])) (inB 0 (setN (kont Pg R Try.f41) (fun e => F41_j1 R (e 0) (e 2) (e 4) (e 8) (e 9)))) (fun n e => F41_l1 R n (e 0) (e 2) (e 4) (e 8) (e 9) (e 10)) (fun _ => rfl) (fun n e => (F41_b1_ok R (F41_l1 R n) e).trans (F41_l1_succ R n (e 0) (e 2) (e 4) (e 8) (e 9) (e 10)).symm)
def F41_j2 (R : ER) (x0 x2 x4 x8 x9 x10 : Value) : WP :=
  exN fun n => F41_l1 R n x0 x2 x4 x8 x9 x10
theorem F41_j2_ok (R : ER) (e : Env) : den Pg R (cd Try.f41 [1,1,1,0]) e (setN (kont Pg R Try.f41) (fun e => F41_j1 R (e 0) (e 2) (e 4) (e 8) (e 9))) = (F41_j2 R (e 0) (e 2) (e 4) (e 8) (e 9) (e 10)) := (den_block Pg R (cd Try.f41 [1,1,1,0]) 0 (cd Try.f41 [1,1,1,0,0]) e (setN (kont Pg R Try.f41) (fun e => F41_j1 R (e 0) (e 2) (e 4) (e 8) (e 9))) _ (by kernel_rfl) (den_loop Pg R (cd Try.f41 [1,1,1,0,0]) (cd Try.f41 [1,1,1,0,0,0]) e (inB 0 (setN (kont Pg R Try.f41) (fun e => F41_j1 R (e 0) (e 2) (e 4) (e 8) (e 9)))) (fun n e => F41_l1 R n (e 0) (e 2) (e 4) (e 8) (e 9) (e 10)) _ (by kernel_rfl) (F41_l1_ok R) (by kernel_rfl)))
def F41 (R : ER) (x0 x1 x2 : Value) : WP :=
  bx 86 x1 fun v24 =>
  pv (lenS x0) fun v25 =>
  F41_j2 R x0 x2 v24 v25 (.int .i64 0) v25
theorem F41_den (R : ER) (x0 x1 x2 : Value) : den Pg R (cd Try.f41 []) (argsEnv [x0, x1, x2]) (kont Pg R Try.f41) = F41 R x0 x1 x2 :=
  have h : ∀ e, den Pg R (cd Try.f41 []) e (kont Pg R Try.f41) = F41 R (e 0) (e 1) (e 2) := fun e => (den_join Pg R 3 (cd Try.f41 []) (cd Try.f41 [1,1,1,1]) e (kont Pg R Try.f41) (fun e => F41_j1 R (e 0) (e 2) (e 4) (e 8) (e 9)) _ (by kernel_rfl) (fun e => F41_j1_ok R e) (den_join Pg R 2 (pre 3 (cd Try.f41 [])) (cd Try.f41 [1,1,1,0]) e (setN (kont Pg R Try.f41) (fun e => F41_j1 R (e 0) (e 2) (e 4) (e 8) (e 9))) (fun e => F41_j2 R (e 0) (e 2) (e 4) (e 8) (e 9) (e 10)) _ (by kernel_rfl) (fun e => F41_j2_ok R e) (by kernel_rfl)))
  h _
theorem F41_calls {R : ER} {x0 x1 x2 : Value} {w : World} (h : F41 R x0 x1 x2 w) : Calls Pg 41 ⟨[x0, x1, x2]⟩ w R :=
  calls_of_den Try.func41 (by kernel_rfl) (by kernel_rfl) (F41_den R x0 x1 x2) h
/-! ### 42: channels_insert_42 -/
def F42 (R : ER) (x0 x1 x2 : Value) : WP :=
  bx 101 x0 fun v1 =>
  bx 86 x1 fun v2 =>
  drewV (
  pv (faO 0 v2) fun v3 =>
  ld1 v3 fun v4 =>
  ld1 x2 fun v5 =>
  ldN 4 v1 fun v6 =>
  mem fun w8 => calD Pg noR v5 ⟨[v6]⟩ fun v7 =>
  rd1 v3 v4 <|
  pv (fld1 0 v7) fun v9 =>
  mem fun w11 => cal Pg noR 44 ⟨[v4, v9]⟩ fun v10 =>
  ld1S [w11, w8] x2 fun v12 =>
  ldNS [w11, w8] 4 v1 fun v13 =>
  mem fun w15 => calD Pg noR v12 ⟨[v13]⟩ fun v14 =>
  pv (fld1 1 v14) fun v16 =>
  pv (faO 1 v2) fun v17 =>
  ld1S [w15, w11, w8] v17 fun v18 =>
  mem fun w20 => cal Pg noR 44 ⟨[v16, v18]⟩ fun v19 =>
  mem fun w22 => valV Pg noR (Instr.buildSlice 129 2 ⟨[(0, v10), (1, v19)]⟩) fun v21 =>
  mem fun w24 => cal Pg noR 43 ⟨[v21]⟩ fun v23 =>
  R (.returned v23))
theorem F42_den (R : ER) (x0 x1 x2 : Value) : den Pg R (cd Try.f42 []) (argsEnv [x0, x1, x2]) (kont Pg R Try.f42) = F42 R x0 x1 x2 :=
  have h : ∀ e, den Pg R (cd Try.f42 []) e (kont Pg R Try.f42) = F42 R (e 0) (e 1) (e 2) := fun e => by kernel_rfl
  h _
theorem F42_calls {R : ER} {x0 x1 x2 : Value} {w : World} (h : F42 R x0 x1 x2 w) : Calls Pg 42 ⟨[x0, x1, x2]⟩ w R :=
  calls_of_den Try.func42 (by kernel_rfl) (by kernel_rfl) (F42_den R x0 x1 x2) h
/-! ### 43: cmp_Or -/
def F43_j1 (R : ER) (x3 : Value) : WP :=
  R (.returned x3)
theorem F43_j1_ok (R : ER) (e : Env) : den Pg R (cd Try.f43 [1,1,1]) e (kont Pg R Try.f43) = (F43_j1 R (e 3)) := by kernel_rfl
def F43_b1 (R : ER) (k1 : V4) (x3 x6 x7 x8 : Value) : WP :=
  pv (bin .lss x8 x7) fun v1 =>
  cnd v1 (
   pv (ixS 1 x6 x8) fun v2 =>
  ld1 v2 fun v3 =>
  pv (bin .neq v3 x3) fun v4 =>
  cnd v4 (
   R (.returned v3)) (
   pv (bin .add x8 (.int .i64 1)) fun v5 =>
  k1 x3 x6 x7 v5)) (
   F43_j1 R x3)
theorem F43_b1_ok (R : ER) (k1 : V4) (e : Env) : den Pg R (cd Try.f43 [1,1,0,1,0,0]) e (setN (inB 0 (setN (kont Pg R Try.f43) (fun e => F43_j1 R (e 3)))) (fun e => k1 (e 3) (e 6) (e 7) (e 8))) = (F43_b1 R k1 (e 3) (e 6) (e 7) (e 8)) := by kernel_rfl
noncomputable def F43_l1 (R : ER) (n : Nat) : V4 := Nat.rec (motive := fun _ => V4) (fun _ _ _ _ => fun _ => False) (fun _ ih => fun x3 x6 x7 x8 => F43_b1 R ih x3 x6 x7 x8) n
theorem F43_l1_succ (R : ER) (n : Nat) (x3 x6 x7 x8 : Value) : F43_l1 R (n + 1) x3 x6 x7 x8 = F43_b1 R (F43_l1 R n) x3 x6 x7 x8 := rfl
theorem F43_l1_ok (R : ER) : ∀ (n : Nat) (e : Env), iterL (den Pg R (cd Try.f43 [1,1,0,1,0,0])) n e (inB 0 (setN (kont Pg R Try.f43) (fun e => F43_j1 R (e 3)))) = F43_l1 R n (e 3) (e 6) (e 7) (e 8) :=
  iterL_join (den Pg R (cd Try.f43 [1,1,0,1,0,0])) (inB 0 (setN (kont Pg R Try.f43) (fun e => F43_j1 R (e 3)))) (fun n e => F43_l1 R n (e 3) (e 6) (e 7) (e 8)) (fun _ => rfl) (fun n e => (F43_b1_ok R (F43_l1 R n) e).trans (F43_l1_succ R n (e 3) (e 6) (e 7) (e 8)).symm)
def F43_j3 (R : ER) (x3 x6 x7 x8 : Value) : WP :=
  exN fun n => F43_l1 R n x3 x6 x7 x8
theorem F43_j3_ok (R : ER) (e : Env) : den Pg R (cd Try.f43 [1,1,0,1]) e (setN (kont Pg R Try.f43) (fun e => F43_j1 R (e 3))) = (F43_j3 R (e 3) (e 6) (e 7) (e 8)) := (den_block Pg R (cd Try.f43 [1,1,0,1]) 0 (cd Try.f43 [1,1,0,1,0]) e (setN (kont Pg R Try.f43) (fun e => F43_j1 R (e 3))) _ (by kernel_rfl) (den_loop Pg R (cd Try.f43 [1,1,0,1,0]) (cd Try.f43 [1,1,0,1,0,0]) e (inB 0 (setN (kont Pg R Try.f43) (fun e => F43_j1 R (e 3)))) (fun n e => F43_l1 R n (e 3) (e 6) (e 7) (e 8)) _ (by kernel_rfl) (F43_l1_ok R) (by kernel_rfl)))
def F43_j2 (R : ER) (x0 x3 : Value) : WP :=
  pv (lenS x0) fun v6 =>
  F43_j3 R x3 x0 v6 (.int .i64 0)
theorem F43_j2_ok (R : ER) (e : Env) : den Pg R (cd Try.f43 [1,1,0]) e (setN (kont Pg R Try.f43) (fun e => F43_j1 R (e 3))) = (F43_j2 R (e 0) (e 3)) := (den_join Pg R 0 (cd Try.f43 [1,1,0]) (cd Try.f43 [1,1,0,1]) e (setN (kont Pg R Try.f43) (fun e => F43_j1 R (e 3))) (fun e => F43_j3 R (e 3) (e 6) (e 7) (e 8)) _ (by kernel_rfl) (fun e => F43_j3_ok R e) (by kernel_rfl))
def F43 (R : ER) (x0 : Value) : WP :=
  F43_j2 R x0 (.int .i64 0)
theorem F43_den (R : ER) (x0 : Value) : den Pg R (cd Try.f43 []) (argsEnv [x0]) (kont Pg R Try.f43) = F43 R x0 :=
  have h : ∀ e, den Pg R (cd Try.f43 []) e (kont Pg R Try.f43) = F43 R (e 0) := fun e => (den_join Pg R 2 (cd Try.f43 []) (cd Try.f43 [1,1,1]) e (kont Pg R Try.f43) (fun e => F43_j1 R (e 3)) _ (by kernel_rfl) (fun e => F43_j1_ok R e) (den_join Pg R 1 (pre 2 (cd Try.f43 [])) (cd Try.f43 [1,1,0]) e (setN (kont Pg R Try.f43) (fun e => F43_j1 R (e 3))) (fun e => F43_j2 R (e 0) (e 3)) _ (by kernel_rfl) (fun e => F43_j2_ok R e) (by kernel_rfl)))
  h _
theorem F43_calls {R : ER} {x0 : Value} {w : World} (h : F43 R x0 w) : Calls Pg 43 ⟨[x0]⟩ w R :=
  calls_of_den Try.func43 (by kernel_rfl) (by kernel_rfl) (F43_den R x0) h
/-! ### 44: cmp_Compare -/
def F44_j1 (R : ER) (x0 x1 x6 : Value) : WP :=
  cnd x6 (
   R (.returned (.int .i64 1))) (
   pv (bin .lss x0 x1) fun v1 =>
  cnd v1 (
   R (.returned (.int .i64 (-1)))) (
   pv (bin .gtr x0 x1) fun v2 =>
  cnd v2 (
   R (.returned (.int .i64 1))) (
   R (.returned (.int .i64 0)))))
theorem F44_j1_ok (R : ER) (e : Env) : den Pg R (cd Try.f44 [1,1,1,1]) e (kont Pg R Try.f44) = (F44_j1 R (e 0) (e 1) (e 6)) := by kernel_rfl
def F44 (R : ER) (x0 x1 : Value) : WP :=
  cal Pg R 52 ⟨[x0]⟩ fun v3 =>
  cal Pg R 52 ⟨[x1]⟩ fun v4 =>
  cnd v3 (
   cnd v4 (
    R (.returned (.int .i64 0))) (
    R (.returned (.int .i64 (-1))))) (
   F44_j1 R x0 x1 v4)
theorem F44_den (R : ER) (x0 x1 : Value) : den Pg R (cd Try.f44 []) (argsEnv [x0, x1]) (kont Pg R Try.f44) = F44 R x0 x1 :=
  have h : ∀ e, den Pg R (cd Try.f44 []) e (kont Pg R Try.f44) = F44 R (e 0) (e 1) := fun e => (den_join Pg R 3 (cd Try.f44 []) (cd Try.f44 [1,1,1,1]) e (kont Pg R Try.f44) (fun e => F44_j1 R (e 0) (e 1) (e 6)) _ (by kernel_rfl) (fun e => F44_j1_ok R e) (by kernel_rfl))
  h _
theorem F44_calls {R : ER} {x0 x1 : Value} {w : World} (h : F44 R x0 x1 w) : Calls Pg 44 ⟨[x0, x1]⟩ w R :=
  calls_of_den Try.func44 (by kernel_rfl) (by kernel_rfl) (F44_den R x0 x1) h
/-! ### 45: slices_Insert -/
def F45_j4 (R : ER) (x0 x1 x2 x7 x8 : Value) : WP :=
  pv (slS 4 x0 (some x8) none) fun v1 =>
  blt Pg R .copy ⟨[72,72]⟩ 3 ⟨[false, false]⟩ ⟨[v1, x2]⟩ fun v2 =>
  pv (slS 4 x0 (some x1) none) fun v3 =>
  cal Pg R 54 ⟨[v3, x7]⟩ fun v4 =>
  R (.returned x0)
theorem F45_j4_ok (R : ER) (e : Env) : den Pg R (cd Try.f45 [1,1,1,1,1,1,1,1,1]) e (kont Pg R Try.f45) = (F45_j4 R (e 0) (e 1) (e 2) (e 7) (e 8)) := by kernel_rfl
def F45_j7 (R : ER) (x0 x1 x2 x7 : Value) : WP :=
  drewV (
  pv (bin .add x1 x7) fun v5 =>
  pv (slS 4 x0 (some v5) none) fun v6 =>
  pv (slS 4 x0 (some x1) none) fun v7 =>
  mem fun w9 => blt Pg noR .copy ⟨[72,72]⟩ 3 ⟨[false, false]⟩ ⟨[v6, v7]⟩ fun v8 =>
  pv (slS 4 x0 (some x1) none) fun v10 =>
  blt Pg R .copy ⟨[72,72]⟩ 3 ⟨[false, false]⟩ ⟨[v10, x2]⟩ fun v11 =>
  R (.returned x0))
theorem F45_j7_ok (R : ER) (e : Env) : den Pg R (cd Try.f45 [1,1,1,1,1,1,1,1,0,1,0]) e (setN (kont Pg R Try.f45) (fun e => F45_j4 R (e 0) (e 1) (e 2) (e 7) (e 8))) = (F45_j7 R (e 0) (e 1) (e 2) (e 7)) := by kernel_rfl
def F45_j6 (R : ER) (x0 x1 x2 x7 x8 x68 : Value) : WP :=
  cnd x68 (F45_j7 R x0 x1 x2 x7) (F45_j4 R x0 x1 x2 x7 x8)
theorem F45_j6_ok (R : ER) (e : Env) : den Pg R (cd Try.f45 [1,1,1,1,1,1,1,1,0,1]) e (setN (kont Pg R Try.f45) (fun e => F45_j4 R (e 0) (e 1) (e 2) (e 7) (e 8))) = (F45_j6 R (e 0) (e 1) (e 2) (e 7) (e 8) (e 68)) := (den_if Pg R (cd Try.f45 [1,1,1,1,1,1,1,1,0,1]) (cd Try.f45 [1,1,1,1,1,1,1,1,0,1,0]) (cd Try.f45 [1,1,1,1,1,1,1,1,0,1,1]) e (setN (kont Pg R Try.f45) (fun e => F45_j4 R (e 0) (e 1) (e 2) (e 7) (e 8))) (F45_j7 R (e 0) (e 1) (e 2) (e 7)) _ _ (by kernel_rfl) (F45_j7_ok R e) rfl (by kernel_rfl))
def F45_j5 (R : ER) (x0 x1 x2 x7 x8 : Value) : WP :=
  pv (bin .add x1 x7) fun v12 =>
  pv (slS 4 x0 (some v12) none) fun v13 =>
  calD Pg R (.func (.func 53) ⟨[]⟩ ⟨[]⟩) ⟨[x2, v13]⟩ fun v14 =>
  pv (unO .not v14) fun v15 =>
  F45_j6 R x0 x1 x2 x7 x8 v15
theorem F45_j5_ok (R : ER) (e : Env) : den Pg R (cd Try.f45 [1,1,1,1,1,1,1,1,0]) e (setN (kont Pg R Try.f45) (fun e => F45_j4 R (e 0) (e 1) (e 2) (e 7) (e 8))) = (F45_j5 R (e 0) (e 1) (e 2) (e 7) (e 8)) := (den_join Pg R 0 (cd Try.f45 [1,1,1,1,1,1,1,1,0]) (cd Try.f45 [1,1,1,1,1,1,1,1,0,1]) e (setN (kont Pg R Try.f45) (fun e => F45_j4 R (e 0) (e 1) (e 2) (e 7) (e 8))) (fun e => F45_j6 R (e 0) (e 1) (e 2) (e 7) (e 8) (e 68)) _ (by kernel_rfl) (fun e => F45_j6_ok R e) (by kernel_rfl))
def F45_j3 (R : ER) (x0 x1 x2 x7 x8 : Value) : WP :=
  pv (bin .add x8 x7) fun v16 =>
  pv (slS 4 x0 none (some v16)) fun v17 =>
  F45_j5 R v17 x1 x2 x7 x8
theorem F45_j3_ok (R : ER) (e : Env) : den Pg R (cd Try.f45 [1,1,1,1,1,1,1]) e (kont Pg R Try.f45) = (F45_j3 R (e 0) (e 1) (e 2) (e 7) (e 8)) := (den_join Pg R 1 (cd Try.f45 [1,1,1,1,1,1,1]) (cd Try.f45 [1,1,1,1,1,1,1,1,1]) e (kont Pg R Try.f45) (fun e => F45_j4 R (e 0) (e 1) (e 2) (e 7) (e 8)) _ (by kernel_rfl) (fun e => F45_j4_ok R e) (den_join Pg R 0 (pre 1 (cd Try.f45 [1,1,1,1,1,1,1])) (cd Try.f45 [1,1,1,1,1,1,1,1,0]) e (setN (kont Pg R Try.f45) (fun e => F45_j4 R (e 0) (e 1) (e 2) (e 7) (e 8))) (fun e => F45_j5 R (e 0) (e 1) (e 2) (e 7) (e 8)) _ (by kernel_rfl) (fun e => F45_j5_ok R e) (by kernel_rfl)))
def F45_j10 (R : ER) (x0 x1 x2 x7 x8 : Value) : WP :=
  pv (slS 4 x0 none (some x1)) fun v18 =>
  pv (bin .add x8 x7) fun v19 =>
  pv (bin .sub v19 x1) fun v20 =>
  blt Pg R .append ⟨[72,3]⟩ 72 ⟨[false, false]⟩ ⟨[v18, v20]⟩ fun v21 =>
  pv (slS 4 v21 (some x1) none) fun v22 =>
  blt Pg R .copy ⟨[72,72]⟩ 3 ⟨[false, false]⟩ ⟨[v22, x2]⟩ fun v23 =>
  drewV (
  pv (bin .add x1 x7) fun v24 =>
  pv (slS 4 v21 (some v24) none) fun v25 =>
  pv (slS 4 x0 (some x1) none) fun v26 =>
  mem fun w28 => blt Pg noR .copy ⟨[72,72]⟩ 3 ⟨[false, false]⟩ ⟨[v25, v26]⟩ fun v27 =>
  R (.returned v21))
theorem F45_j10_ok (R : ER) (e : Env) : den Pg R (cd Try.f45 [1,1,1,1,1,1,0,1,0]) e (setN (kont Pg R Try.f45) (fun e => F45_j3 R (e 0) (e 1) (e 2) (e 7) (e 8))) = (F45_j10 R (e 0) (e 1) (e 2) (e 7) (e 8)) := by kernel_rfl
def F45_j9 (R : ER) (x0 x1 x2 x7 x8 x31 : Value) : WP :=
  cnd x31 (F45_j10 R x0 x1 x2 x7 x8) (F45_j3 R x0 x1 x2 x7 x8)
theorem F45_j9_ok (R : ER) (e : Env) : den Pg R (cd Try.f45 [1,1,1,1,1,1,0,1]) e (setN (kont Pg R Try.f45) (fun e => F45_j3 R (e 0) (e 1) (e 2) (e 7) (e 8))) = (F45_j9 R (e 0) (e 1) (e 2) (e 7) (e 8) (e 31)) := (den_if Pg R (cd Try.f45 [1,1,1,1,1,1,0,1]) (cd Try.f45 [1,1,1,1,1,1,0,1,0]) (cd Try.f45 [1,1,1,1,1,1,0,1,1]) e (setN (kont Pg R Try.f45) (fun e => F45_j3 R (e 0) (e 1) (e 2) (e 7) (e 8))) (F45_j10 R (e 0) (e 1) (e 2) (e 7) (e 8)) _ _ (by kernel_rfl) (F45_j10_ok R e) rfl (by kernel_rfl))
def F45_j8 (R : ER) (x0 x1 x2 x7 x8 : Value) : WP :=
  pv (bin .add x8 x7) fun v29 =>
  blt Pg R .cap ⟨[72]⟩ 3 ⟨[false]⟩ ⟨[x0]⟩ fun v30 =>
  pv (bin .gtr v29 v30) fun v31 =>
  F45_j9 R x0 x1 x2 x7 x8 v31
theorem F45_j8_ok (R : ER) (e : Env) : den Pg R (cd Try.f45 [1,1,1,1,1,1,0]) e (setN (kont Pg R Try.f45) (fun e => F45_j3 R (e 0) (e 1) (e 2) (e 7) (e 8))) = (F45_j8 R (e 0) (e 1) (e 2) (e 7) (e 8)) := (den_join Pg R 0 (cd Try.f45 [1,1,1,1,1,1,0]) (cd Try.f45 [1,1,1,1,1,1,0,1]) e (setN (kont Pg R Try.f45) (fun e => F45_j3 R (e 0) (e 1) (e 2) (e 7) (e 8))) (fun e => F45_j9 R (e 0) (e 1) (e 2) (e 7) (e 8) (e 31)) _ (by kernel_rfl) (fun e => F45_j9_ok R e) (by kernel_rfl))
def F45_j2 (R : ER) (x0 x1 x2 x7 x8 : Value) : WP :=
  F45_j8 R x0 x1 x2 x7 x8
theorem F45_j2_ok (R : ER) (e : Env) : den Pg R (cd Try.f45 [1,1,1,1,1,1]) e (kont Pg R Try.f45) = (F45_j2 R (e 0) (e 1) (e 2) (e 7) (e 8)) := (den_join Pg R 0 (cd Try.f45 [1,1,1,1,1,1]) (cd Try.f45 [1,1,1,1,1,1,1]) e (kont Pg R Try.f45) (fun e => F45_j3 R (e 0) (e 1) (e 2) (e 7) (e 8)) _ (by kernel_rfl) (fun e => F45_j3_ok R e) (den_conv Pg R (pre 0 (cd Try.f45 [1,1,1,1,1,1])) (cd Try.f45 [1,1,1,1,1,1,0]) e (setN (kont Pg R Try.f45) (fun e => F45_j3 R (e 0) (e 1) (e 2) (e 7) (e 8))) _ (by kernel_rfl) (F45_j8_ok R e)))
def F45_j1 (R : ER) (x0 x1 x2 x7 : Value) : WP :=
  pv (lenS x0) fun v32 =>
  pv (bin .eql x1 v32) fun v33 =>
  cnd v33 (
   blt Pg R .append ⟨[72,72]⟩ 72 ⟨[false, false]⟩ ⟨[x0, x2]⟩ fun v34 =>
   R (.returned v34)) (
   F45_j2 R x0 x1 x2 x7 v32)
theorem F45_j1_ok (R : ER) (e : Env) : den Pg R (cd Try.f45 [1,1,1,1]) e (kont Pg R Try.f45) = (F45_j1 R (e 0) (e 1) (e 2) (e 7)) := (den_join Pg R 1 (cd Try.f45 [1,1,1,1]) (cd Try.f45 [1,1,1,1,1,1]) e (kont Pg R Try.f45) (fun e => F45_j2 R (e 0) (e 1) (e 2) (e 7) (e 8)) _ (by kernel_rfl) (fun e => F45_j2_ok R e) (by kernel_rfl))
def F45 (R : ER) (x0 x1 x2 : Value) : WP :=
  pv (slS 4 x0 (some x1) none) fun v35 =>
  pv (lenS x2) fun v36 =>
  pv (bin .eql v36 (.int .i64 0)) fun v37 =>
  cnd v37 (
   R (.returned x0)) (
   F45_j1 R x0 x1 x2 v36)
theorem F45_den (R : ER) (x0 x1 x2 : Value) : den Pg R (cd Try.f45 []) (argsEnv [x0, x1, x2]) (kont Pg R Try.f45) = F45 R x0 x1 x2 :=
  have h : ∀ e, den Pg R (cd Try.f45 []) e (kont Pg R Try.f45) = F45 R (e 0) (e 1) (e 2) := fun e => (den_join Pg R 3 (cd Try.f45 []) (cd Try.f45 [1,1,1,1]) e (kont Pg R Try.f45) (fun e => F45_j1 R (e 0) (e 1) (e 2) (e 7)) _ (by kernel_rfl) (fun e => F45_j1_ok R e) (by kernel_rfl))
  h _
theorem F45_calls {R : ER} {x0 x1 x2 : Value} {w : World} (h : F45 R x0 x1 x2 w) : Calls Pg 45 ⟨[x0, x1, x2]⟩ w R :=
  calls_of_den Try.func45 (by kernel_rfl) (by kernel_rfl) (F45_den R x0 x1 x2) h
/-! ### 46: channels_Table_held -/
def F46_j1 (R : ER) (x0 x1 x8 : Value) : WP :=
  pv (nilO x0) fun v1 =>
  pv (faO 3 v1) fun v2 =>
  ld1 v2 fun v3 =>
  pv (ixS 1 v3 x8) fun v4 =>
  ld1 v4 fun v5 =>
  pv (nilO v5) fun v6 =>
  pv (faO 4 v6) fun v7 =>
  ld1 v7 fun v8 =>
  pv (nilO v8) fun v9 =>
  pv (faO 1 v9) fun v10 =>
  ld1 v10 fun v11 =>
  pv (bin .neq v11 x1) fun v12 =>
  cnd v12 (
   R (.returned (.tuple ⟨[(.pointer none), (.int .i64 32)]⟩))) (
   pv (nilO x0) fun v13 =>
  pv (faO 3 v13) fun v14 =>
  ld1 v14 fun v15 =>
  pv (ixS 1 v15 x8) fun v16 =>
  ld1 v16 fun v17 =>
  R (.returned (.tuple ⟨[v17, (.int .i64 0)]⟩)))
theorem F46_j1_ok (R : ER) (e : Env) : den Pg R (cd Try.f46 [1,1,1]) e (kont Pg R Try.f46) = (F46_j1 R (e 0) (e 1) (e 8)) := (by kernel_rfl)
def F46 (R : ER) (x0 x1 x2 : Value) : WP :=
  pv (nilO x0) fun v18 =>
  pv (faO 3 v18) fun v19 =>
  ld1 v19 fun v20 =>
  cal Pg R 55 ⟨[v20, x2, (.func (.func 56) ⟨[]⟩ ⟨[]⟩)]⟩ fun v21 =>
  pv (extO 0 v21) fun v22 =>
  pv (extO 1 v21) fun v23 =>
  pv (unO .not v23) fun v24 =>
  cnd v24 (
   R (.returned (.tuple ⟨[(.pointer none), (.int .i64 3)]⟩))) (
   F46_j1 R x0 x1 v22)
theorem F46_den (R : ER) (x0 x1 x2 : Value) : den Pg R (cd Try.f46 []) (argsEnv [x0, x1, x2]) (kont Pg R Try.f46) = F46 R x0 x1 x2 :=
  have h : ∀ e, den Pg R (cd Try.f46 []) e (kont Pg R Try.f46) = F46 R (e 0) (e 1) (e 2) := fun e => (den_join Pg R 2 (cd Try.f46 []) (cd Try.f46 [1,1,1]) e (kont Pg R Try.f46) (fun e => F46_j1 R (e 0) (e 1) (e 8)) _ (by kernel_rfl) (fun e => F46_j1_ok R e) (by kernel_rfl))
  h _
theorem F46_calls {R : ER} {x0 x1 x2 : Value} {w : World} (h : F46 R x0 x1 x2 w) : Calls Pg 46 ⟨[x0, x1, x2]⟩ w R :=
  calls_of_den Try.func46 (by kernel_rfl) (by kernel_rfl) (F46_den R x0 x1 x2) h
/-! ### 47: slices_DeleteFunc -/
def F47_j2 (R : ER) (x0 x5 : Value) : WP :=
  pv (slS 1 x0 (some x5) none) fun v1 =>
  blt Pg R .clear ⟨[64]⟩ 0 ⟨[false]⟩ ⟨[v1]⟩ fun _ =>
  pv (slS 1 x0 none (some x5)) fun v2 =>
  R (.returned v2)
theorem F47_j2_ok (R : ER) (e : Env) : den Pg R (cd Try.f47 [1,1,1,1]) e (kont Pg R Try.f47) = (F47_j2 R (e 0) (e 5)) := by kernel_rfl
def F47_j6 (R : ER) (k1 : V4) (x0 x1 x5 x6 : Value) : WP :=
  pv (bin .add x6 (.int .i64 1)) fun v3 =>
  k1 x0 x1 x5 v3
theorem F47_j6_ok (R : ER) (k1 : V4) (e : Env) : den Pg R (cd Try.f47 [1,1,1,0,1,0,0,1,1]) e (setN (inB 0 (setN (kont Pg R Try.f47) (fun e => F47_j2 R (e 0) (e 5)))) (fun e => k1 (e 0) (e 1) (e 5) (e 6))) = (F47_j6 R k1 (e 0) (e 1) (e 5) (e 6)) := by kernel_rfl
def F47_j7 (R : ER) (k1 : V4) (x0 x1 x5 x6 : Value) : WP :=
  pv (ixS 1 x0 x6) fun v4 =>
  ld1 v4 fun v5 =>
  calD Pg R x1 ⟨[v5]⟩ fun v6 =>
  pv (unO .not v6) fun v7 =>
  cnd v7 (
   pv (ixS 1 x0 x5) fun v8 =>
   st1 v8 v5 fun _ =>
   pv (bin .add x5 (.int .i64 1)) fun v9 =>
   F47_j6 R k1 x0 x1 v9 x6) (
   F47_j6 R k1 x0 x1 x5 x6)
theorem F47_j7_ok (R : ER) (k1 : V4) (e : Env) : den Pg R (cd Try.f47 [1,1,1,0,1,0,0,1,0]) e (setN (setN (inB 0 (setN (kont Pg R Try.f47) (fun e => F47_j2 R (e 0) (e 5)))) (fun e => k1 (e 0) (e 1) (e 5) (e 6))) (fun e => F47_j6 R k1 (e 0) (e 1) (e 5) (e 6))) = (F47_j7 R k1 (e 0) (e 1) (e 5) (e 6)) := (den_block Pg R (cd Try.f47 [1,1,1,0,1,0,0,1,0]) 1 (cd Try.f47 [1,1,1,0,1,0,0,1,0,0]) e (setN (setN (inB 0 (setN (kont Pg R Try.f47) (fun e => F47_j2 R (e 0) (e 5)))) (fun e => k1 (e 0) (e 1) (e 5) (e 6))) (fun e => F47_j6 R k1 (e 0) (e 1) (e 5) (e 6))) _ (by kernel_rfl) (by kernel_rfl))
def F47_j5 (R : ER) (k1 : V4) (x0 x1 x5 x6 : Value) : WP :=
  F47_j7 R k1 x0 x1 x5 x6
theorem F47_j5_ok (R : ER) (k1 : V4) (e : Env) : den Pg R (cd Try.f47 [1,1,1,0,1,0,0,1]) e (setN (inB 0 (setN (kont Pg R Try.f47) (fun e => F47_j2 R (e 0) (e 5)))) (fun e => k1 (e 0) (e 1) (e 5) (e 6))) = (F47_j5 R k1 (e 0) (e 1) (e 5) (e 6)) := (den_join Pg R 0 (cd Try.f47 [1,1,1,0,1,0,0,1]) (cd Try.f47 [1,1,1,0,1,0,0,1,1]) e (setN (inB 0 (setN (kont Pg R Try.f47) (fun e => F47_j2 R (e 0) (e 5)))) (fun e => k1 (e 0) (e 1) (e 5) (e 6))) (fun e => F47_j6 R k1 (e 0) (e 1) (e 5) (e 6)) _ (by kernel_rfl) (fun e => F47_j6_ok R k1 e) (den_conv Pg R (pre 0 (cd Try.f47 [1,1,1,0,1,0,0,1])) (cd Try.f47 [1,1,1,0,1,0,0,1,0]) e (setN (setN (inB 0 (setN (kont Pg R Try.f47) (fun e => F47_j2 R (e 0) (e 5)))) (fun e => k1 (e 0) (e 1) (e 5) (e 6))) (fun e => F47_j6 R k1 (e 0) (e 1) (e 5) (e 6))) _ (by kernel_rfl) (F47_j7_ok R k1 e)))
def F47_b1 (R : ER) (k1 : V4) (x0 x1 x5 x6 : Value) : WP :=
  pv (lenS x0) fun v10 =>
  pv (bin .lss x6 v10) fun v11 =>
  cnd v11 (
   F47_j5 R k1 x0 x1 x5 x6) (
   F47_j2 R x0 x5)
theorem F47_b1_ok (R : ER) (k1 : V4) (e : Env) : den Pg R (cd Try.f47 [1,1,1,0,1,0,0]) e (setN (inB 0 (setN (kont Pg R Try.f47) (fun e => F47_j2 R (e 0) (e 5)))) (fun e => k1 (e 0) (e 1) (e 5) (e 6))) = (F47_b1 R k1 (e 0) (e 1) (e 5) (e 6)) := (den_join Pg R 0 (cd Try.f47 [1,1,1,0,1,0,0]) (cd Try.f47 [1,1,1,0,1,0,0,1]) e (setN (inB 0 (setN (kont Pg R Try.f47) (fun e => F47_j2 R (e 0) (e 5)))) (fun e => k1 (e 0) (e 1) (e 5) (e 6))) (fun e => F47_j5 R k1 (e 0) (e 1) (e 5) (e 6)) _ (by kernel_rfl) (fun e => F47_j5_ok R k1 e) (by kernel_rfl))
noncomputable def F47_l1 (R : ER) (n : Nat) : V4 := Nat.rec (motive := fun _ => V4) (fun _ _ _ _ => fun _ => False) (fun _ ih => fun x0 x1 x5 x6 => F47_b1 R ih x0 x1 x5 x6) n
theorem F47_l1_succ (R : ER) (n : Nat) (x0 x1 x5 x6 : Value) : F47_l1 R (n + 1) x0 x1 x5 x6 = F47_b1 R (F47_l1 R n) x0 x1 x5 x6 := rfl
theorem F47_l1_ok (R : ER) : ∀ (n : Nat) (e : Env), iterL (den Pg R (cd Try.f47 [1,1,1,0,1,0,0])) n e (inB 0 (setN (kont Pg R Try.f47) (fun e => F47_j2 R (e 0) (e 5)))) = F47_l1 R n (e 0) (e 1) (e 5) (e 6) :=
  iterL_join (den Pg R (cd Try.f47 [1,1,1,0,1,0,0])) (inB 0 (setN (kont Pg R Try.f47) (fun e => F47_j2 R (e 0) (e 5)))) (fun n e => F47_l1 R n (e 0) (e 1) (e 5) (e 6)) (fun _ => rfl) (fun n e => (F47_b1_ok R (F47_l1 R n) e).trans (F47_l1_succ R n (e 0) (e 1) (e 5) (e 6)).symm)
def F47_j4 (R : ER) (x0 x1 x5 x6 : Value) : WP :=
  exN fun n => F47_l1 R n x0 x1 x5 x6
theorem F47_j4_ok (R : ER) (e : Env) : den Pg R (cd Try.f47 [1,1,1,0,1]) e (setN (kont Pg R Try.f47) (fun e => F47_j2 R (e 0) (e 5))) = (F47_j4 R (e 0) (e 1) (e 5) (e 6)) := (den_block Pg R (cd Try.f47 [1,1,1,0,1]) 0 (cd Try.f47 [1,1,1,0,1,0]) e (setN (kont Pg R Try.f47) (fun e => F47_j2 R (e 0) (e 5))) _ (by kernel_rfl) (den_loop Pg R (cd Try.f47 [1,1,1,0,1,0]) (cd Try.f47 [1,1,1,0,1,0,0]) e (inB 0 (setN (kont Pg R Try.f47) (fun e => F47_j2 R (e 0) (e 5)))) (fun n e => F47_l1 R n (e 0) (e 1) (e 5) (e 6)) _ (by kernel_rfl) (F47_l1_ok R) (by kernel_rfl)))
def F47_j3 (R : ER) (x0 x1 x5 : Value) : WP :=
  pv (bin .add x5 (.int .i64 1)) fun v12 =>
  F47_j4 R x0 x1 x5 v12
theorem F47_j3_ok (R : ER) (e : Env) : den Pg R (cd Try.f47 [1,1,1,0]) e (setN (kont Pg R Try.f47) (fun e => F47_j2 R (e 0) (e 5))) = (F47_j3 R (e 0) (e 1) (e 5)) := (den_join Pg R 0 (cd Try.f47 [1,1,1,0]) (cd Try.f47 [1,1,1,0,1]) e (setN (kont Pg R Try.f47) (fun e => F47_j2 R (e 0) (e 5))) (fun e => F47_j4 R (e 0) (e 1) (e 5) (e 6)) _ (by kernel_rfl) (fun e => F47_j4_ok R e) (by kernel_rfl))
def F47_j1 (R : ER) (x0 x1 x5 : Value) : WP :=
  F47_j3 R x0 x1 x5
theorem F47_j1_ok (R : ER) (e : Env) : den Pg R (cd Try.f47 [1,1,1]) e (kont Pg R Try.f47) = (F47_j1 R (e 0) (e 1) (e 5)) := (den_join Pg R 0 (cd Try.f47 [1,1,1]) (cd Try.f47 [1,1,1,1]) e (kont Pg R Try.f47) (fun e => F47_j2 R (e 0) (e 5)) _ (by kernel_rfl) (fun e => F47_j2_ok R e) (den_conv Pg R (pre 0 (cd Try.f47 [1,1,1])) (cd Try.f47 [1,1,1,0]) e (setN (kont Pg R Try.f47) (fun e => F47_j2 R (e 0) (e 5))) _ (by kernel_rfl) (F47_j3_ok R e)))
def F47 (R : ER) (x0 x1 : Value) : WP :=
  cal Pg R 58 ⟨[x0, x1]⟩ fun v13 =>
  pv (bin .eql v13 (.int .i64 (-1))) fun v14 =>
  cnd v14 (
   R (.returned x0)) (
   F47_j1 R x0 x1 v13)
theorem F47_den (R : ER) (x0 x1 : Value) : den Pg R (cd Try.f47 []) (argsEnv [x0, x1]) (kont Pg R Try.f47) = F47 R x0 x1 :=
  have h : ∀ e, den Pg R (cd Try.f47 []) e (kont Pg R Try.f47) = F47 R (e 0) (e 1) := fun e => (den_join Pg R 2 (cd Try.f47 []) (cd Try.f47 [1,1,1]) e (kont Pg R Try.f47) (fun e => F47_j1 R (e 0) (e 1) (e 5)) _ (by kernel_rfl) (fun e => F47_j1_ok R e) (by kernel_rfl))
  h _
theorem F47_calls {R : ER} {x0 x1 : Value} {w : World} (h : F47 R x0 x1 w) : Calls Pg 47 ⟨[x0, x1]⟩ w R :=
  calls_of_den Try.func47 (by kernel_rfl) (by kernel_rfl) (F47_den R x0 x1) h
/-! ### 48: channels_Table_drop_1 -/
def F48 (R : ER) (x0 x1 : Value) : WP :=
  ld1 x1 fun v1 =>
  eqK Pg R .eql 92 (.tmp 4) (.tmp 5) x0 v1 fun v2 =>
  R (.returned v2)
theorem F48_den (R : ER) (x0 x1 : Value) : den Pg R (cd Try.f48 []) (argsEnv [x0, x1]) (kont Pg R Try.f48) = F48 R x0 x1 :=
  have h : ∀ e, den Pg R (cd Try.f48 []) e (kont Pg R Try.f48) = F48 R (e 0) (e 1) := fun e => by kernel_rfl
  h _
theorem F48_calls {R : ER} {x0 x1 : Value} {w : World} (h : F48 R x0 x1 w) : Calls Pg 48 ⟨[x0, x1]⟩ w R :=
  calls_of_den Try.func48 (by kernel_rfl) (by kernel_rfl) (F48_den R x0 x1) h
/-! ### 49: slices_BinarySearchFunc_49 -/
def F49_j1 (R : ER) (x0 x2 x4 x8 x9 : Value) : WP :=
  drewV (
  pv (bin .lss x9 x8) fun v1 =>
  gd v1 true (pv (some x2)) fun v2 =>
  gd v1 true (pv (some x0)) fun v3 =>
  gd v1 true (pv (some x9)) fun v4 =>
  gd v1 true (pv (ixS 11 v3 v4)) fun v5 =>
  gd v1 true (ldN 11 v5) fun v6 =>
  gd v1 true (ldN 2 x4) fun v7 =>
  mem fun w9 => gd v1 true (calD Pg noR v2 ⟨[v6, v7]⟩) fun v8 =>
  gd v1 true (pv (bin .eql v8 (.int .i64 0))) fun v10 =>
  pv (pickO v1 v10 (.bool false)) fun v11 =>
  R (.returned (.tuple ⟨[x9, v11]⟩)))
theorem F49_j1_ok (R : ER) (e : Env) : den Pg R (cd Try.f49 [1,1,1,1]) e (kont Pg R Try.f49) = (F49_j1 R (e 0) (e 2) (e 4) (e 8) (e 9)) := by kernel_rfl
def F49_j3 (R : ER) (k1 : V6) (x0 x2 x4 x8 x9 x10 : Value) : WP :=
  pv (bin .add x9 x10) fun v12 =>
  pv (cvI .u64 v12) fun v13 =>
  pv (bin .shr v13 (.int .u64 1)) fun v14 =>
  pv (cvI .i64 v14) fun v15 =>
  drewV (
  pv (ixS 11 x0 v15) fun v16 =>
  ldN 11 v16 fun v17 =>
  ldN 2 x4 fun v18 =>
  mem fun w20 => calD Pg noR x2 ⟨[v17, v18]⟩ fun v19 =>
  pv (bin .lss v19 (.int .i64 0)) fun v21 =>
  cnd v21 (
   pv (bin .add v15 (.int .i64 1)) fun v22 =>
   k1 x0 x2 x4 x8 v22 x10) (
   k1 x0 x2 x4 x8 x9 v15))
theorem F49_j3_ok (R : ER) (k1 : V6) (e : Env) : den Pg R (cd Try.f49 [1,1,1,0,0,0,1]) e (setN (inB 0 (setN (kont Pg R Try.f49) (fun e => F49_j1 R (e 0) (e 2) (e 4) (e 8) (e 9)))) (fun e => k1 (e 0) (e 2) (e 4) (e 8) (e 9) (e 10))) = (F49_j3 R k1 (e 0) (e 2) (e 4) (e 8) (e 9) (e 10)) := (den_block Pg R (cd Try.f49 [1,1,1,0,0,0,1]) 1 (cd Try.f49 [1,1,1,0,0,0,1,0]) e (setN (inB 0 (setN (kont Pg R Try.f49) (fun e => F49_j1 R (e 0) (e 2) (e 4) (e 8) (e 9)))) (fun e => k1 (e 0) (e 2) (e 4) (e 8) (e 9) (e 10))) _ (by kernel_rfl) (by kernel_rfl))
def F49_b1 (R : ER) (k1 : V6) (x0 x2 x4 x8 x9 x10 : Value) : WP :=
  pv (bin .lss x9 x10) fun v23 =>
  cnd v23 (
   F49_j3 R k1 x0 x2 x4 x8 x9 x10) (
   F49_j1 R x0 x2 x4 x8 x9)
theorem F49_b1_ok (R : ER) (k1 : V6) (e : Env) : den Pg R (cd Try.f49 [1,1,1,0,0,0]) e (setN (inB 0 (setN (kont Pg R Try.f49) (fun e => F49_j1 R (e 0) (e 2) (e 4) (e 8) (e 9)))) (fun e => k1 (e 0) (e 2) (e 4) (e 8) (e 9) (e 10))) = (F49_b1 R k1 (e 0) (e 2) (e 4) (e 8) (e 9) (e 10)) := (den_join Pg R 0 (cd Try.f49 [1,1,1,0,0,0]) (cd Try.f49 [1,1,1,0,0,0,1]) e (setN (inB 0 (setN (kont Pg R Try.f49) (fun e => F49_j1 R (e 0) (e 2) (e 4) (e 8) (e 9)))) (fun e => k1 (e 0) (e 2) (e 4) (e 8) (e 9) (e 10))) (fun e => F49_j3 R k1 (e 0) (e 2) (e 4) (e 8) (e 9) (e 10)) _ (by kernel_rfl) (fun e => F49_j3_ok R k1 e) (by kernel_rfl))
noncomputable def F49_l1 (R : ER) (n : Nat) : V6 := Nat.rec (motive := fun _ => V6) (fun _ _ _ _ _ _ => fun _ => False) (fun _ ih => fun x0 x2 x4 x8 x9 x10 => F49_b1 R ih x0 x2 x4 x8 x9 x10) n
theorem F49_l1_succ (R : ER) (n : Nat) (x0 x2 x4 x8 x9 x10 : Value) : F49_l1 R (n + 1) x0 x2 x4 x8 x9 x10 = F49_b1 R (F49_l1 R n) x0 x2 x4 x8 x9 x10 := rfl
theorem F49_l1_ok (R : ER) : ∀ (n : Nat) (e : Env), iterL (den Pg R (cd Try.f49 [1,1,1,0,0,0])) n e (inB 0 (setN (kont Pg R Try.f49) (fun e => F49_j1 R (e 0) (e 2) (e 4) (e 8) (e 9)))) = F49_l1 R n (e 0) (e 2) (e 4) (e 8) (e 9) (e 10) :=
  iterL_join (den Pg R (cd Try.f49 [1,1,1,0,0,0])) (inB 0 (setN (kont Pg R Try.f49) (fun e => F49_j1 R (e 0) (e 2) (e 4) (e 8) (e 9)))) (fun n e => F49_l1 R n (e 0) (e 2) (e 4) (e 8) (e 9) (e 10)) (fun _ => rfl) (fun n e => (F49_b1_ok R (F49_l1 R n) e).trans (F49_l1_succ R n (e 0) (e 2) (e 4) (e 8) (e 9) (e 10)).symm)
def F49_j2 (R : ER) (x0 x2 x4 x8 x9 x10 : Value) : WP :=
  exN fun n => F49_l1 R n x0 x2 x4 x8 x9 x10
theorem F49_j2_ok (R : ER) (e : Env) : den Pg R (cd Try.f49 [1,1,1,0]) e (setN (kont Pg R Try.f49) (fun e => F49_j1 R (e 0) (e 2) (e 4) (e 8) (e 9))) = (F49_j2 R (e 0) (e 2) (e 4) (e 8) (e 9) (e 10)) := (den_block Pg R (cd Try.f49 [1,1,1,0]) 0 (cd Try.f49 [1,1,1,0,0]) e (setN (kont Pg R Try.f49) (fun e => F49_j1 R (e 0) (e 2) (e 4) (e 8) (e 9))) _ (by kernel_rfl) (den_loop Pg R (cd Try.f49 [1,1,1,0,0]) (cd Try.f49 [1,1,1,0,0,0]) e (inB 0 (setN (kont Pg R Try.f49) (fun e => F49_j1 R (e 0) (e 2) (e 4) (e 8) (e 9)))) (fun n e => F49_l1 R n (e 0) (e 2) (e 4) (e 8) (e 9) (e 10)) _ (by kernel_rfl) (F49_l1_ok R) (by kernel_rfl)))
def F49 (R : ER) (x0 x1 x2 : Value) : WP :=
  bx 86 x1 fun v24 =>
  pv (lenS x0) fun v25 =>
  F49_j2 R x0 x2 v24 v25 (.int .i64 0) v25
theorem F49_den (R : ER) (x0 x1 x2 : Value) : den Pg R (cd Try.f49 []) (argsEnv [x0, x1, x2]) (kont Pg R Try.f49) = F49 R x0 x1 x2 :=
  have h : ∀ e, den Pg R (cd Try.f49 []) e (kont Pg R Try.f49) = F49 R (e 0) (e 1) (e 2) := fun e => (den_join Pg R 3 (cd Try.f49 []) (cd Try.f49 [1,1,1,1]) e (kont Pg R Try.f49) (fun e => F49_j1 R (e 0) (e 2) (e 4) (e 8) (e 9)) _ (by kernel_rfl) (fun e => F49_j1_ok R e) (den_join Pg R 2 (pre 3 (cd Try.f49 [])) (cd Try.f49 [1,1,1,0]) e (setN (kont Pg R Try.f49) (fun e => F49_j1 R (e 0) (e 2) (e 4) (e 8) (e 9))) (fun e => F49_j2 R (e 0) (e 2) (e 4) (e 8) (e 9) (e 10)) _ (by kernel_rfl) (fun e => F49_j2_ok R e) (by kernel_rfl)))
  h _
theorem F49_calls {R : ER} {x0 x1 x2 : Value} {w : World} (h : F49 R x0 x1 x2 w) : Calls Pg 49 ⟨[x0, x1, x2]⟩ w R :=
  calls_of_den Try.func49 (by kernel_rfl) (by kernel_rfl) (F49_den R x0 x1 x2) h
/-! ### 50: channels_insert_50 -/
def F50 (R : ER) (x0 x1 x2 : Value) : WP :=
  bx 89 x0 fun v1 =>
  bx 86 x1 fun v2 =>
  drewV (
  pv (faO 0 v2) fun v3 =>
  ld1 v3 fun v4 =>
  ld1 x2 fun v5 =>
  ldN 11 v1 fun v6 =>
  mem fun w8 => calD Pg noR v5 ⟨[v6]⟩ fun v7 =>
  rd1 v3 v4 <|
  pv (fld1 0 v7) fun v9 =>
  mem fun w11 => cal Pg noR 44 ⟨[v4, v9]⟩ fun v10 =>
  ld1S [w11, w8] x2 fun v12 =>
  ldNS [w11, w8] 11 v1 fun v13 =>
  mem fun w15 => calD Pg noR v12 ⟨[v13]⟩ fun v14 =>
  pv (fld1 1 v14) fun v16 =>
  pv (faO 1 v2) fun v17 =>
  ld1S [w15, w11, w8] v17 fun v18 =>
  mem fun w20 => cal Pg noR 44 ⟨[v16, v18]⟩ fun v19 =>
  mem fun w22 => valV Pg noR (Instr.buildSlice 129 2 ⟨[(0, v10), (1, v19)]⟩) fun v21 =>
  mem fun w24 => cal Pg noR 43 ⟨[v21]⟩ fun v23 =>
  R (.returned v23))
theorem F50_den (R : ER) (x0 x1 x2 : Value) : den Pg R (cd Try.f50 []) (argsEnv [x0, x1, x2]) (kont Pg R Try.f50) = F50 R x0 x1 x2 :=
  have h : ∀ e, den Pg R (cd Try.f50 []) e (kont Pg R Try.f50) = F50 R (e 0) (e 1) (e 2) := fun e => by kernel_rfl
  h _
theorem F50_calls {R : ER} {x0 x1 x2 : Value} {w : World} (h : F50 R x0 x1 x2 w) : Calls Pg 50 ⟨[x0, x1, x2]⟩ w R :=
  calls_of_den Try.func50 (by kernel_rfl) (by kernel_rfl) (F50_den R x0 x1 x2) h
/-! ### 51: slices_Insert_51 -/
def F51_j4 (R : ER) (x0 x1 x2 x7 x8 : Value) : WP :=
  pv (slS 11 x0 (some x8) none) fun v1 =>
  blt Pg R .copy ⟨[71,71]⟩ 3 ⟨[false, false]⟩ ⟨[v1, x2]⟩ fun v2 =>
  pv (slS 11 x0 (some x1) none) fun v3 =>
  cal Pg R 60 ⟨[v3, x7]⟩ fun v4 =>
  R (.returned x0)
theorem F51_j4_ok (R : ER) (e : Env) : den Pg R (cd Try.f51 [1,1,1,1,1,1,1,1,1]) e (kont Pg R Try.f51) = (F51_j4 R (e 0) (e 1) (e 2) (e 7) (e 8)) := by kernel_rfl
def F51_j7 (R : ER) (x0 x1 x2 x7 : Value) : WP :=
  drewV (
  pv (bin .add x1 x7) fun v5 =>
  pv (slS 11 x0 (some v5) none) fun v6 =>
  pv (slS 11 x0 (some x1) none) fun v7 =>
  mem fun w9 => blt Pg noR .copy ⟨[71,71]⟩ 3 ⟨[false, false]⟩ ⟨[v6, v7]⟩ fun v8 =>
  pv (slS 11 x0 (some x1) none) fun v10 =>
  blt Pg R .copy ⟨[71,71]⟩ 3 ⟨[false, false]⟩ ⟨[v10, x2]⟩ fun v11 =>
  R (.returned x0))
theorem F51_j7_ok (R : ER) (e : Env) : den Pg R (cd Try.f51 [1,1,1,1,1,1,1,1,0,1,0]) e (setN (kont Pg R Try.f51) (fun e => F51_j4 R (e 0) (e 1) (e 2) (e 7) (e 8))) = (F51_j7 R (e 0) (e 1) (e 2) (e 7)) := by kernel_rfl
def F51_j6 (R : ER) (x0 x1 x2 x7 x8 x68 : Value) : WP :=
  cnd x68 (F51_j7 R x0 x1 x2 x7) (F51_j4 R x0 x1 x2 x7 x8)
theorem F51_j6_ok (R : ER) (e : Env) : den Pg R (cd Try.f51 [1,1,1,1,1,1,1,1,0,1]) e (setN (kont Pg R Try.f51) (fun e => F51_j4 R (e 0) (e 1) (e 2) (e 7) (e 8))) = (F51_j6 R (e 0) (e 1) (e 2) (e 7) (e 8) (e 68)) := (den_if Pg R (cd Try.f51 [1,1,1,1,1,1,1,1,0,1]) (cd Try.f51 [1,1,1,1,1,1,1,1,0,1,0]) (cd Try.f51 [1,1,1,1,1,1,1,1,0,1,1]) e (setN (kont Pg R Try.f51) (fun e => F51_j4 R (e 0) (e 1) (e 2) (e 7) (e 8))) (F51_j7 R (e 0) (e 1) (e 2) (e 7)) _ _ (by kernel_rfl) (F51_j7_ok R e) rfl (by kernel_rfl))
def F51_j5 (R : ER) (x0 x1 x2 x7 x8 : Value) : WP :=
  pv (bin .add x1 x7) fun v12 =>
  pv (slS 11 x0 (some v12) none) fun v13 =>
  calD Pg R (.func (.func 59) ⟨[]⟩ ⟨[]⟩) ⟨[x2, v13]⟩ fun v14 =>
  pv (unO .not v14) fun v15 =>
  F51_j6 R x0 x1 x2 x7 x8 v15
theorem F51_j5_ok (R : ER) (e : Env) : den Pg R (cd Try.f51 [1,1,1,1,1,1,1,1,0]) e (setN (kont Pg R Try.f51) (fun e => F51_j4 R (e 0) (e 1) (e 2) (e 7) (e 8))) = (F51_j5 R (e 0) (e 1) (e 2) (e 7) (e 8)) := (den_join Pg R 0 (cd Try.f51 [1,1,1,1,1,1,1,1,0]) (cd Try.f51 [1,1,1,1,1,1,1,1,0,1]) e (setN (kont Pg R Try.f51) (fun e => F51_j4 R (e 0) (e 1) (e 2) (e 7) (e 8))) (fun e => F51_j6 R (e 0) (e 1) (e 2) (e 7) (e 8) (e 68)) _ (by kernel_rfl) (fun e => F51_j6_ok R e) (by kernel_rfl))
def F51_j3 (R : ER) (x0 x1 x2 x7 x8 : Value) : WP :=
  pv (bin .add x8 x7) fun v16 =>
  pv (slS 11 x0 none (some v16)) fun v17 =>
  F51_j5 R v17 x1 x2 x7 x8
theorem F51_j3_ok (R : ER) (e : Env) : den Pg R (cd Try.f51 [1,1,1,1,1,1,1]) e (kont Pg R Try.f51) = (F51_j3 R (e 0) (e 1) (e 2) (e 7) (e 8)) := (den_join Pg R 1 (cd Try.f51 [1,1,1,1,1,1,1]) (cd Try.f51 [1,1,1,1,1,1,1,1,1]) e (kont Pg R Try.f51) (fun e => F51_j4 R (e 0) (e 1) (e 2) (e 7) (e 8)) _ (by kernel_rfl) (fun e => F51_j4_ok R e) (den_join Pg R 0 (pre 1 (cd Try.f51 [1,1,1,1,1,1,1])) (cd Try.f51 [1,1,1,1,1,1,1,1,0]) e (setN (kont Pg R Try.f51) (fun e => F51_j4 R (e 0) (e 1) (e 2) (e 7) (e 8))) (fun e => F51_j5 R (e 0) (e 1) (e 2) (e 7) (e 8)) _ (by kernel_rfl) (fun e => F51_j5_ok R e) (by kernel_rfl)))
def F51_j10 (R : ER) (x0 x1 x2 x7 x8 : Value) : WP :=
  pv (slS 11 x0 none (some x1)) fun v18 =>
  pv (bin .add x8 x7) fun v19 =>
  pv (bin .sub v19 x1) fun v20 =>
  blt Pg R .append ⟨[71,3]⟩ 71 ⟨[false, false]⟩ ⟨[v18, v20]⟩ fun v21 =>
  pv (slS 11 v21 (some x1) none) fun v22 =>
  blt Pg R .copy ⟨[71,71]⟩ 3 ⟨[false, false]⟩ ⟨[v22, x2]⟩ fun v23 =>
  drewV (
  pv (bin .add x1 x7) fun v24 =>
  pv (slS 11 v21 (some v24) none) fun v25 =>
  pv (slS 11 x0 (some x1) none) fun v26 =>
  mem fun w28 => blt Pg noR .copy ⟨[71,71]⟩ 3 ⟨[false, false]⟩ ⟨[v25, v26]⟩ fun v27 =>
  R (.returned v21))
theorem F51_j10_ok (R : ER) (e : Env) : den Pg R (cd Try.f51 [1,1,1,1,1,1,0,1,0]) e (setN (kont Pg R Try.f51) (fun e => F51_j3 R (e 0) (e 1) (e 2) (e 7) (e 8))) = (F51_j10 R (e 0) (e 1) (e 2) (e 7) (e 8)) := by kernel_rfl
def F51_j9 (R : ER) (x0 x1 x2 x7 x8 x31 : Value) : WP :=
  cnd x31 (F51_j10 R x0 x1 x2 x7 x8) (F51_j3 R x0 x1 x2 x7 x8)
theorem F51_j9_ok (R : ER) (e : Env) : den Pg R (cd Try.f51 [1,1,1,1,1,1,0,1]) e (setN (kont Pg R Try.f51) (fun e => F51_j3 R (e 0) (e 1) (e 2) (e 7) (e 8))) = (F51_j9 R (e 0) (e 1) (e 2) (e 7) (e 8) (e 31)) := (den_if Pg R (cd Try.f51 [1,1,1,1,1,1,0,1]) (cd Try.f51 [1,1,1,1,1,1,0,1,0]) (cd Try.f51 [1,1,1,1,1,1,0,1,1]) e (setN (kont Pg R Try.f51) (fun e => F51_j3 R (e 0) (e 1) (e 2) (e 7) (e 8))) (F51_j10 R (e 0) (e 1) (e 2) (e 7) (e 8)) _ _ (by kernel_rfl) (F51_j10_ok R e) rfl (by kernel_rfl))
def F51_j8 (R : ER) (x0 x1 x2 x7 x8 : Value) : WP :=
  pv (bin .add x8 x7) fun v29 =>
  blt Pg R .cap ⟨[71]⟩ 3 ⟨[false]⟩ ⟨[x0]⟩ fun v30 =>
  pv (bin .gtr v29 v30) fun v31 =>
  F51_j9 R x0 x1 x2 x7 x8 v31
theorem F51_j8_ok (R : ER) (e : Env) : den Pg R (cd Try.f51 [1,1,1,1,1,1,0]) e (setN (kont Pg R Try.f51) (fun e => F51_j3 R (e 0) (e 1) (e 2) (e 7) (e 8))) = (F51_j8 R (e 0) (e 1) (e 2) (e 7) (e 8)) := (den_join Pg R 0 (cd Try.f51 [1,1,1,1,1,1,0]) (cd Try.f51 [1,1,1,1,1,1,0,1]) e (setN (kont Pg R Try.f51) (fun e => F51_j3 R (e 0) (e 1) (e 2) (e 7) (e 8))) (fun e => F51_j9 R (e 0) (e 1) (e 2) (e 7) (e 8) (e 31)) _ (by kernel_rfl) (fun e => F51_j9_ok R e) (by kernel_rfl))
def F51_j2 (R : ER) (x0 x1 x2 x7 x8 : Value) : WP :=
  F51_j8 R x0 x1 x2 x7 x8
theorem F51_j2_ok (R : ER) (e : Env) : den Pg R (cd Try.f51 [1,1,1,1,1,1]) e (kont Pg R Try.f51) = (F51_j2 R (e 0) (e 1) (e 2) (e 7) (e 8)) := (den_join Pg R 0 (cd Try.f51 [1,1,1,1,1,1]) (cd Try.f51 [1,1,1,1,1,1,1]) e (kont Pg R Try.f51) (fun e => F51_j3 R (e 0) (e 1) (e 2) (e 7) (e 8)) _ (by kernel_rfl) (fun e => F51_j3_ok R e) (den_conv Pg R (pre 0 (cd Try.f51 [1,1,1,1,1,1])) (cd Try.f51 [1,1,1,1,1,1,0]) e (setN (kont Pg R Try.f51) (fun e => F51_j3 R (e 0) (e 1) (e 2) (e 7) (e 8))) _ (by kernel_rfl) (F51_j8_ok R e)))
def F51_j1 (R : ER) (x0 x1 x2 x7 : Value) : WP :=
  pv (lenS x0) fun v32 =>
  pv (bin .eql x1 v32) fun v33 =>
  cnd v33 (
   blt Pg R .append ⟨[71,71]⟩ 71 ⟨[false, false]⟩ ⟨[x0, x2]⟩ fun v34 =>
   R (.returned v34)) (
   F51_j2 R x0 x1 x2 x7 v32)
theorem F51_j1_ok (R : ER) (e : Env) : den Pg R (cd Try.f51 [1,1,1,1]) e (kont Pg R Try.f51) = (F51_j1 R (e 0) (e 1) (e 2) (e 7)) := (den_join Pg R 1 (cd Try.f51 [1,1,1,1]) (cd Try.f51 [1,1,1,1,1,1]) e (kont Pg R Try.f51) (fun e => F51_j2 R (e 0) (e 1) (e 2) (e 7) (e 8)) _ (by kernel_rfl) (fun e => F51_j2_ok R e) (by kernel_rfl))
def F51 (R : ER) (x0 x1 x2 : Value) : WP :=
  pv (slS 11 x0 (some x1) none) fun v35 =>
  pv (lenS x2) fun v36 =>
  pv (bin .eql v36 (.int .i64 0)) fun v37 =>
  cnd v37 (
   R (.returned x0)) (
   F51_j1 R x0 x1 x2 v36)
theorem F51_den (R : ER) (x0 x1 x2 : Value) : den Pg R (cd Try.f51 []) (argsEnv [x0, x1, x2]) (kont Pg R Try.f51) = F51 R x0 x1 x2 :=
  have h : ∀ e, den Pg R (cd Try.f51 []) e (kont Pg R Try.f51) = F51 R (e 0) (e 1) (e 2) := fun e => (den_join Pg R 3 (cd Try.f51 []) (cd Try.f51 [1,1,1,1]) e (kont Pg R Try.f51) (fun e => F51_j1 R (e 0) (e 1) (e 2) (e 7)) _ (by kernel_rfl) (fun e => F51_j1_ok R e) (by kernel_rfl))
  h _
theorem F51_calls {R : ER} {x0 x1 x2 : Value} {w : World} (h : F51 R x0 x1 x2 w) : Calls Pg 51 ⟨[x0, x1, x2]⟩ w R :=
  calls_of_den Try.func51 (by kernel_rfl) (by kernel_rfl) (F51_den R x0 x1 x2) h
/-! ### 52: cmp_isNaN -/
def F52 (R : ER) (x0 : Value) : WP :=
  pv (bin .neq x0 x0) fun v1 =>
  R (.returned v1)
theorem F52_den (R : ER) (x0 : Value) : den Pg R (cd Try.f52 []) (argsEnv [x0]) (kont Pg R Try.f52) = F52 R x0 :=
  have h : ∀ e, den Pg R (cd Try.f52 []) e (kont Pg R Try.f52) = F52 R (e 0) := fun e => by kernel_rfl
  h _
theorem F52_calls {R : ER} {x0 : Value} {w : World} (h : F52 R x0 w) : Calls Pg 52 ⟨[x0]⟩ w R :=
  calls_of_den Try.func52 (by kernel_rfl) (by kernel_rfl) (F52_den R x0) h
/-! ### 55: slices_BinarySearchFunc_55 -/
def F55_j1 (R : ER) (x0 x1 x2 x8 x9 : Value) : WP :=
  pv (bin .lss x9 x8) fun v1 =>
  gd v1 true (pv (some x2)) fun v2 =>
  gd v1 true (pv (some x0)) fun v3 =>
  gd v1 true (pv (some x9)) fun v4 =>
  gd v1 true (pv (ixS 1 v3 v4)) fun v5 =>
  gd v1 true (ld1 v5) fun v6 =>
  gd v1 true (pv (some x1)) fun v7 =>
  gd v1 true (calD Pg R v2 ⟨[v6, v7]⟩) fun v8 =>
  gd v1 true (pv (bin .eql v8 (.int .i64 0))) fun v9 =>
  pv (pickO v1 v9 (.bool false)) fun v10 =>
  R (.returned (.tuple ⟨[x9, v10]⟩))
theorem F55_j1_ok (R : ER) (e : Env) : den Pg R (cd Try.f55 [1,1,1,1]) e (kont Pg R Try.f55) = (F55_j1 R (e 0) (e 1) (e 2) (e 8) (e 9)) := by kernel_rfl
def F55_j3 (R : ER) (k1 : V6) (x0 x1 x2 x8 x9 x10 : Value) : WP :=
  pv (bin .add x9 x10) fun v11 =>
  pv (cvI .u64 v11) fun v12 =>
  pv (bin .shr v12 (.int .u64 1)) fun v13 =>
  pv (cvI .i64 v13) fun v14 =>
  pv (ixS 1 x0 v14) fun v15 =>
  ld1 v15 fun v16 =>
  calD Pg R x2 ⟨[v16, x1]⟩ fun v17 =>
  pv (bin .lss v17 (.int .i64 0)) fun v18 =>
  cnd v18 (
   pv (bin .add v14 (.int .i64 1)) fun v19 =>
   k1 x0 x1 x2 x8 v19 x10) (
   k1 x0 x1 x2 x8 x9 v14)
theorem F55_j3_ok (R : ER) (k1 : V6) (e : Env) : den Pg R (cd Try.f55 [1,1,1,0,0,0,1]) e (setN (inB 0 (setN (kont Pg R Try.f55) (fun e => F55_j1 R (e 0) (e 1) (e 2) (e 8) (e 9)))) (fun e => k1 (e 0) (e 1) (e 2) (e 8) (e 9) (e 10))) = (F55_j3 R k1 (e 0) (e 1) (e 2) (e 8) (e 9) (e 10)) := (den_block Pg R (cd Try.f55 [1,1,1,0,0,0,1]) 1 (cd Try.f55 [1,1,1,0,0,0,1,0]) e (setN (inB 0 (setN (kont Pg R Try.f55) (fun e => F55_j1 R (e 0) (e 1) (e 2) (e 8) (e 9)))) (fun e => k1 (e 0) (e 1) (e 2) (e 8) (e 9) (e 10))) _ (by kernel_rfl) (by kernel_rfl))
def F55_b1 (R : ER) (k1 : V6) (x0 x1 x2 x8 x9 x10 : Value) : WP :=
  pv (bin .lss x9 x10) fun v20 =>
  cnd v20 (
   F55_j3 R k1 x0 x1 x2 x8 x9 x10) (
   F55_j1 R x0 x1 x2 x8 x9)
theorem F55_b1_ok (R : ER) (k1 : V6) (e : Env) : den Pg R (cd Try.f55 [1,1,1,0,0,0]) e (setN (inB 0 (setN (kont Pg R Try.f55) (fun e => F55_j1 R (e 0) (e 1) (e 2) (e 8) (e 9)))) (fun e => k1 (e 0) (e 1) (e 2) (e 8) (e 9) (e 10))) = (F55_b1 R k1 (e 0) (e 1) (e 2) (e 8) (e 9) (e 10)) := (den_join Pg R 0 (cd Try.f55 [1,1,1,0,0,0]) (cd Try.f55 [1,1,1,0,0,0,1]) e (setN (inB 0 (setN (kont Pg R Try.f55) (fun e => F55_j1 R (e 0) (e 1) (e 2) (e 8) (e 9)))) (fun e => k1 (e 0) (e 1) (e 2) (e 8) (e 9) (e 10))) (fun e => F55_j3 R k1 (e 0) (e 1) (e 2) (e 8) (e 9) (e 10)) _ (by kernel_rfl) (fun e => F55_j3_ok R k1 e) (by kernel_rfl))
noncomputable def F55_l1 (R : ER) (n : Nat) : V6 := Nat.rec (motive := fun _ => V6) (fun _ _ _ _ _ _ => fun _ => False) (fun _ ih => fun x0 x1 x2 x8 x9 x10 => F55_b1 R ih x0 x1 x2 x8 x9 x10) n
theorem F55_l1_succ (R : ER) (n : Nat) (x0 x1 x2 x8 x9 x10 : Value) : F55_l1 R (n + 1) x0 x1 x2 x8 x9 x10 = F55_b1 R (F55_l1 R n) x0 x1 x2 x8 x9 x10 := rfl
theorem F55_l1_ok (R : ER) : ∀ (n : Nat) (e : Env), iterL (den Pg R (cd Try.f55 [1,1,1,0,0,0])) n e (inB 0 (setN (kont Pg R Try.f55) (fun e => F55_j1 R (e 0) (e 1) (e 2) (e 8) (e 9)))) = F55_l1 R n (e 0) (e 1) (e 2) (e 8) (e 9) (e 10) :=
  iterL_join (den Pg R (cd Try.f55 [1,1,1,0,0,0])) (inB 0 (setN (kont Pg R Try.f55) (fun e => F55_j1 R (e 0) (e 1) (e 2) (e 8) (e 9)))) (fun n e => F55_l1 R n (e 0) (e 1) (e 2) (e 8) (e 9) (e 10)) (fun _ => rfl) (fun n e => (F55_b1_ok R (F55_l1 R n) e).trans (F55_l1_succ R n (e 0) (e 1) (e 2) (e 8) (e 9) (e 10)).symm)
def F55_j2 (R : ER) (x0 x1 x2 x8 x9 x10 : Value) : WP :=
  exN fun n => F55_l1 R n x0 x1 x2 x8 x9 x10
theorem F55_j2_ok (R : ER) (e : Env) : den Pg R (cd Try.f55 [1,1,1,0]) e (setN (kont Pg R Try.f55) (fun e => F55_j1 R (e 0) (e 1) (e 2) (e 8) (e 9))) = (F55_j2 R (e 0) (e 1) (e 2) (e 8) (e 9) (e 10)) := (den_block Pg R (cd Try.f55 [1,1,1,0]) 0 (cd Try.f55 [1,1,1,0,0]) e (setN (kont Pg R Try.f55) (fun e => F55_j1 R (e 0) (e 1) (e 2) (e 8) (e 9))) _ (by kernel_rfl) (den_loop Pg R (cd Try.f55 [1,1,1,0,0]) (cd Try.f55 [1,1,1,0,0,0]) e (inB 0 (setN (kont Pg R Try.f55) (fun e => F55_j1 R (e 0) (e 1) (e 2) (e 8) (e 9)))) (fun n e => F55_l1 R n (e 0) (e 1) (e 2) (e 8) (e 9) (e 10)) _ (by kernel_rfl) (F55_l1_ok R) (by kernel_rfl)))
def F55 (R : ER) (x0 x1 x2 : Value) : WP :=
  pv (lenS x0) fun v21 =>
  F55_j2 R x0 x1 x2 v21 (.int .i64 0) v21
theorem F55_den (R : ER) (x0 x1 x2 : Value) : den Pg R (cd Try.f55 []) (argsEnv [x0, x1, x2]) (kont Pg R Try.f55) = F55 R x0 x1 x2 :=
  have h : ∀ e, den Pg R (cd Try.f55 []) e (kont Pg R Try.f55) = F55 R (e 0) (e 1) (e 2) := fun e => (den_join Pg R 3 (cd Try.f55 []) (cd Try.f55 [1,1,1,1]) e (kont Pg R Try.f55) (fun e => F55_j1 R (e 0) (e 1) (e 2) (e 8) (e 9)) _ (by kernel_rfl) (fun e => F55_j1_ok R e) (den_join Pg R 2 (pre 3 (cd Try.f55 [])) (cd Try.f55 [1,1,1,0]) e (setN (kont Pg R Try.f55) (fun e => F55_j1 R (e 0) (e 1) (e 2) (e 8) (e 9))) (fun e => F55_j2 R (e 0) (e 1) (e 2) (e 8) (e 9) (e 10)) _ (by kernel_rfl) (fun e => F55_j2_ok R e) (by kernel_rfl)))
  h _
theorem F55_calls {R : ER} {x0 x1 x2 : Value} {w : World} (h : F55 R x0 x1 x2 w) : Calls Pg 55 ⟨[x0, x1, x2]⟩ w R :=
  calls_of_den Try.func55 (by kernel_rfl) (by kernel_rfl) (F55_den R x0 x1 x2) h
/-! ### 56: channels_Table_held_1 -/
def F56 (R : ER) (x0 x1 : Value) : WP :=
  pv (nilO x0) fun v1 =>
  pv (faO 0 v1) fun v2 =>
  ld1 v2 fun v3 =>
  cal Pg R 57 ⟨[v3, x1]⟩ fun v4 =>
  R (.returned v4)
theorem F56_den (R : ER) (x0 x1 : Value) : den Pg R (cd Try.f56 []) (argsEnv [x0, x1]) (kont Pg R Try.f56) = F56 R x0 x1 :=
  have h : ∀ e, den Pg R (cd Try.f56 []) e (kont Pg R Try.f56) = F56 R (e 0) (e 1) := fun e => by kernel_rfl
  h _
theorem F56_calls {R : ER} {x0 x1 : Value} {w : World} (h : F56 R x0 x1 w) : Calls Pg 56 ⟨[x0, x1]⟩ w R :=
  calls_of_den Try.func56 (by kernel_rfl) (by kernel_rfl) (F56_den R x0 x1) h
/-! ### 57: cmp_Compare_57 -/
def F57_j1 (R : ER) (x0 x1 x6 : Value) : WP :=
  cnd x6 (
   R (.returned (.int .i64 1))) (
   pv (bin .lss x0 x1) fun v1 =>
  cnd v1 (
   R (.returned (.int .i64 (-1)))) (
   pv (bin .gtr x0 x1) fun v2 =>
  cnd v2 (
   R (.returned (.int .i64 1))) (
   R (.returned (.int .i64 0)))))
theorem F57_j1_ok (R : ER) (e : Env) : den Pg R (cd Try.f57 [1,1,1,1]) e (kont Pg R Try.f57) = (F57_j1 R (e 0) (e 1) (e 6)) := by kernel_rfl
def F57 (R : ER) (x0 x1 : Value) : WP :=
  cal Pg R 62 ⟨[x0]⟩ fun v3 =>
  cal Pg R 62 ⟨[x1]⟩ fun v4 =>
  cnd v3 (
   cnd v4 (
    R (.returned (.int .i64 0))) (
    R (.returned (.int .i64 (-1))))) (
   F57_j1 R x0 x1 v4)
theorem F57_den (R : ER) (x0 x1 : Value) : den Pg R (cd Try.f57 []) (argsEnv [x0, x1]) (kont Pg R Try.f57) = F57 R x0 x1 :=
  have h : ∀ e, den Pg R (cd Try.f57 []) e (kont Pg R Try.f57) = F57 R (e 0) (e 1) := fun e => (den_join Pg R 3 (cd Try.f57 []) (cd Try.f57 [1,1,1,1]) e (kont Pg R Try.f57) (fun e => F57_j1 R (e 0) (e 1) (e 6)) _ (by kernel_rfl) (fun e => F57_j1_ok R e) (by kernel_rfl))
  h _
theorem F57_calls {R : ER} {x0 x1 : Value} {w : World} (h : F57 R x0 x1 w) : Calls Pg 57 ⟨[x0, x1]⟩ w R :=
  calls_of_den Try.func57 (by kernel_rfl) (by kernel_rfl) (F57_den R x0 x1) h
/-! ### 58: slices_IndexFunc -/
def F58_j1 (R : ER) : WP :=
  R (.returned (.int .i64 (-1)))
theorem F58_j1_ok (R : ER) (e : Env) : den Pg R (cd Try.f58 [1,1]) e (kont Pg R Try.f58) = (F58_j1 R) := by kernel_rfl
def F58_j4 (R : ER) (k1 : V4) (x0 x1 x7 x8 : Value) : WP :=
  pv (ixS 1 x0 x8) fun v1 =>
  ld1 v1 fun v2 =>
  calD Pg R x1 ⟨[v2]⟩ fun v3 =>
  cnd v3 (
   R (.returned x8)) (
   pv (bin .add x8 (.int .i64 1)) fun v4 =>
  k1 x0 x1 x7 v4)
theorem F58_j4_ok (R : ER) (k1 : V4) (e : Env) : den Pg R (cd Try.f58 [1,0,1,0,0,1,1]) e (setN (inB 0 (setN (kont Pg R Try.f58) (fun e => F58_j1 R))) (fun e => k1 (e 0) (e 1) (e 7) (e 8))) = (F58_j4 R k1 (e 0) (e 1) (e 7) (e 8)) := by kernel_rfl
def F58_b1 (R : ER) (k1 : V4) (x0 x1 x7 x8 : Value) : WP :=
  pv (bin .lss x8 x7) fun v5 =>
  cnd v5 (
   F58_j4 R k1 x0 x1 x7 x8) (
   F58_j1 R)
theorem F58_b1_ok (R : ER) (k1 : V4) (e : Env) : den Pg R (cd Try.f58 [1,0,1,0,0]) e (setN (inB 0 (setN (kont Pg R Try.f58) (fun e => F58_j1 R))) (fun e => k1 (e 0) (e 1) (e 7) (e 8))) = (F58_b1 R k1 (e 0) (e 1) (e 7) (e 8)) := (den_join Pg R 1 (cd Try.f58 [1,0,1,0,0]) (cd Try.f58 [1,0,1,0,0,1,1]) e (setN (inB 0 (setN (kont Pg R Try.f58) (fun e => F58_j1 R))) (fun e => k1 (e 0) (e 1) (e 7) (e 8))) (fun e => F58_j4 R k1 (e 0) (e 1) (e 7) (e 8)) _ (by kernel_rfl) (fun e => F58_j4_ok R k1 e) (by kernel_rfl))
noncomputable def F58_l1 (R : ER) (n : Nat) : V4 := Nat.rec (motive := fun _ => V4) (fun _ _ _ _ => fun _ => False) (fun _ ih => fun x0 x1 x7 x8 => F58_b1 R ih x0 x1 x7 x8) n
theorem F58_l1_succ (R : ER) (n : Nat) (x0 x1 x7 x8 : Value) : F58_l1 R (n + 1) x0 x1 x7 x8 = F58_b1 R (F58_l1 R n) x0 x1 x7 x8 := rfl
theorem F58_l1_ok (R : ER) : ∀ (n : Nat) (e : Env), iterL (den Pg R (cd Try.f58 [1,0,1,0,0])) n e (inB 0 (setN (kont Pg R Try.f58) (fun e => F58_j1 R))) = F58_l1 R n (e 0) (e 1) (e 7) (e 8) :=
  iterL_join (den Pg R (cd Try.f58 [1,0,1,0,0])) (inB 0 (setN (kont Pg R Try.f58) (fun e => F58_j1 R))) (fun n e => F58_l1 R n (e 0) (e 1) (e 7) (e 8)) (fun _ => rfl) (fun n e => (F58_b1_ok R (F58_l1 R n) e).trans (F58_l1_succ R n (e 0) (e 1) (e 7) (e 8)).symm)
def F58_j3 (R : ER) (x0 x1 x7 x8 : Value) : WP :=
  exN fun n => F58_l1 R n x0 x1 x7 x8
theorem F58_j3_ok (R : ER) (e : Env) : den Pg R (cd Try.f58 [1,0,1]) e (setN (kont Pg R Try.f58) (fun e => F58_j1 R)) = (F58_j3 R (e 0) (e 1) (e 7) (e 8)) := (den_block Pg R (cd Try.f58 [1,0,1]) 0 (cd Try.f58 [1,0,1,0]) e (setN (kont Pg R Try.f58) (fun e => F58_j1 R)) _ (by kernel_rfl) (den_loop Pg R (cd Try.f58 [1,0,1,0]) (cd Try.f58 [1,0,1,0,0]) e (inB 0 (setN (kont Pg R Try.f58) (fun e => F58_j1 R))) (fun n e => F58_l1 R n (e 0) (e 1) (e 7) (e 8)) _ (by kernel_rfl) (F58_l1_ok R) (by kernel_rfl)))
def F58_j2 (R : ER) (x0 x1 : Value) : WP :=
  pv (lenS x0) fun v6 =>
  F58_j3 R x0 x1 v6 (.int .i64 0)
theorem F58_j2_ok (R : ER) (e : Env) : den Pg R (cd Try.f58 [1,0]) e (setN (kont Pg R Try.f58) (fun e => F58_j1 R)) = (F58_j2 R (e 0) (e 1)) := (den_join Pg R 0 (cd Try.f58 [1,0]) (cd Try.f58 [1,0,1]) e (setN (kont Pg R Try.f58) (fun e => F58_j1 R)) (fun e => F58_j3 R (e 0) (e 1) (e 7) (e 8)) _ (by kernel_rfl) (fun e => F58_j3_ok R e) (by kernel_rfl))
def F58 (R : ER) (x0 x1 : Value) : WP :=
  F58_j2 R x0 x1
theorem F58_den (R : ER) (x0 x1 : Value) : den Pg R (cd Try.f58 []) (argsEnv [x0, x1]) (kont Pg R Try.f58) = F58 R x0 x1 :=
  have h : ∀ e, den Pg R (cd Try.f58 []) e (kont Pg R Try.f58) = F58 R (e 0) (e 1) := fun e => (den_join Pg R 1 (cd Try.f58 []) (cd Try.f58 [1,1]) e (kont Pg R Try.f58) (fun e => F58_j1 R) _ (by kernel_rfl) (fun e => F58_j1_ok R e) (den_join Pg R 0 (pre 1 (cd Try.f58 [])) (cd Try.f58 [1,0]) e (setN (kont Pg R Try.f58) (fun e => F58_j1 R)) (fun e => F58_j2 R (e 0) (e 1)) _ (by kernel_rfl) (fun e => F58_j2_ok R e) (by kernel_rfl)))
  h _
theorem F58_calls {R : ER} {x0 x1 : Value} {w : World} (h : F58 R x0 x1 w) : Calls Pg 58 ⟨[x0, x1]⟩ w R :=
  calls_of_den Try.func58 (by kernel_rfl) (by kernel_rfl) (F58_den R x0 x1) h
/-! ### 62: cmp_isNaN_62 -/
def F62 (R : ER) (x0 : Value) : WP :=
  pv (bin .neq x0 x0) fun v1 =>
  R (.returned v1)
theorem F62_den (R : ER) (x0 : Value) : den Pg R (cd Try.f62 []) (argsEnv [x0]) (kont Pg R Try.f62) = F62 R x0 :=
  have h : ∀ e, den Pg R (cd Try.f62 []) e (kont Pg R Try.f62) = F62 R (e 0) := fun e => by kernel_rfl
  h _
theorem F62_calls {R : ER} {x0 : Value} {w : World} (h : F62 R x0 w) : Calls Pg 62 ⟨[x0]⟩ w R :=
  calls_of_den Try.func62 (by kernel_rfl) (by kernel_rfl) (F62_den R x0) h
end Go.Proofs.Ytmkcjopacmadhaa.Den
