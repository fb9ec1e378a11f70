/- Printed by a program of this session: what the functions mean, and that the model means just that. Conditions: none. -/
import Derived.Test.YthcekppbbanfeaaDenRange
set_option linter.unusedVariables false
set_option maxRecDepth 100000
namespace Go.Proofs.Ythcekppbbanfeaa.Den
open Go
/-! ### 3: orpimentlaw25_MqueueOnce -/
def F3_j5 (R : ER) : WP :=
  R (.returned (.bool true))
theorem F3_j5_ok (R : ER) (e : Env) : den Pg R (cd Try.f3 [1,1,1,1,1,1,1,1,1]) e (kont Pg R Try.f3) = (F3_j5 R) := by kernel_rfl
def F3_j8 (R : ER) (k1 : V2) (x8 x156 : Value) : WP :=
  valV Pg R (Instr.entry x156) fun v1 =>
  pv (extO 0 v1) fun v2 =>
  pv (extO 1 v1) fun v3 =>
  ld1 x8 fun v4 =>
  valV Pg R (Instr.lookup 28 v4 v2 false) fun v5 =>
  pv (bin .neq v5 v3) fun v6 =>
  cnd v6 (
   R (.returned (.bool false))) (
   k1 x8 x156)
theorem F3_j8_ok (R : ER) (k1 : V2) (e : Env) : den Pg R (cd Try.f3 [1,1,1,1,1,1,1,1,0,1,0,0,1,1]) e (setN (inB 6 (setN (kont Pg R Try.f3) (fun e => F3_j5 R))) (fun e => k1 (e 8) (e 156))) = (F3_j8 R k1 (e 8) (e 156)) := by kernel_rfl
def F3_b1 (R : ER) (k1 : V2) (x8 x156 : Value) : WP :=
  valV Pg R (Instr.next x156 false 0) fun v7 =>
  pv (extO 0 v7) fun v8 =>
  cnd v8 (
   F3_j8 R k1 x8 x156) (
   F3_j5 R)
theorem F3_b1_ok (R : ER) (k1 : V2) (e : Env) : den Pg R (cd Try.f3 [1,1,1,1,1,1,1,1,0,1,0,0]) e (setN (inB 6 (setN (kont Pg R Try.f3) (fun e => F3_j5 R))) (fun e => k1 (e 8) (e 156))) = (F3_b1 R k1 (e 8) (e 156)) := (den_join Pg R 1 (cd Try.f3 [1,1,1,1,1,1,1,1,0,1,0,0]) (cd Try.f3 [1,1,1,1,1,1,1,1,0,1,0,0,1,1]) e (setN (inB 6 (setN (kont Pg R Try.f3) (fun e => F3_j5 R))) (fun e => k1 (e 8) (e 156))) (fun e => F3_j8 R k1 (e 8) (e 156)) _ (by kernel_rfl) (fun e => F3_j8_ok R k1 e) (by kernel_rfl))
noncomputable def F3_l1 (R : ER) (n : Nat) : V2 := Nat.rec (motive := fun _ => V2) (fun _ _ => fun _ => False) (fun _ ih => fun x8 x156 => F3_b1 R ih x8 x156) n
theorem F3_l1_succ (R : ER) (n : Nat) (x8 x156 : Value) : F3_l1 R (n + 1) x8 x156 = F3_b1 R (F3_l1 R n) x8 x156 := rfl
theorem F3_l1_ok (R : ER) : ∀ (n : Nat) (e : Env), iterL (den Pg R (cd Try.f3 [1,1,1,1,1,1,1,1,0,1,0,0])) n e (inB 6 (setN (kont Pg R Try.f3) (fun e => F3_j5 R))) = F3_l1 R n (e 8) (e 156) :=
  iterL_join (den Pg R (cd Try.f3 [1,1,1,1,1,1,1,1,0,1,0,0])) (inB 6 (setN (kont Pg R Try.f3) (fun e => F3_j5 R))) (fun n e => F3_l1 R n (e 8) (e 156)) (fun _ => rfl) (fun n e => (F3_b1_ok R (F3_l1 R n) e).trans (F3_l1_succ R n (e 8) (e 156)).symm)
def F3_j7 (R : ER) (x8 x156 : Value) : WP :=
  exN fun n => F3_l1 R n x8 x156
theorem F3_j7_ok (R : ER) (e : Env) : den Pg R (cd Try.f3 [1,1,1,1,1,1,1,1,0,1]) e (setN (kont Pg R Try.f3) (fun e => F3_j5 R)) = (F3_j7 R (e 8) (e 156)) := (den_block Pg R (cd Try.f3 [1,1,1,1,1,1,1,1,0,1]) 6 (cd Try.f3 [1,1,1,1,1,1,1,1,0,1,0]) e (setN (kont Pg R Try.f3) (fun e => F3_j5 R)) _ (by kernel_rfl) (den_loop Pg R (cd Try.f3 [1,1,1,1,1,1,1,1,0,1,0]) (cd Try.f3 [1,1,1,1,1,1,1,1,0,1,0,0]) e (inB 6 (setN (kont Pg R Try.f3) (fun e => F3_j5 R))) (fun n e => F3_l1 R n (e 8) (e 156)) _ (by kernel_rfl) (F3_l1_ok R) (by kernel_rfl)))
def F3_j6 (R : ER) (x7 x8 : Value) : WP :=
  valV Pg R (Instr.range 28 x7) fun v9 =>
  F3_j7 R x8 v9
theorem F3_j6_ok (R : ER) (e : Env) : den Pg R (cd Try.f3 [1,1,1,1,1,1,1,1,0]) e (setN (kont Pg R Try.f3) (fun e => F3_j5 R)) = (F3_j6 R (e 7) (e 8)) := (den_join Pg R 0 (cd Try.f3 [1,1,1,1,1,1,1,1,0]) (cd Try.f3 [1,1,1,1,1,1,1,1,0,1]) e (setN (kont Pg R Try.f3) (fun e => F3_j5 R)) (fun e => F3_j7 R (e 8) (e 156)) _ (by kernel_rfl) (fun e => F3_j7_ok R e) (by kernel_rfl))
def F3_j4 (R : ER) (x7 x8 : Value) : WP :=
  F3_j6 R x7 x8
theorem F3_j4_ok (R : ER) (e : Env) : den Pg R (cd Try.f3 [1,1,1,1,1,1,1,1]) e (kont Pg R Try.f3) = (F3_j4 R (e 7) (e 8)) := (den_join Pg R 0 (cd Try.f3 [1,1,1,1,1,1,1,1]) (cd Try.f3 [1,1,1,1,1,1,1,1,1]) e (kont Pg R Try.f3) (fun e => F3_j5 R) _ (by kernel_rfl) (fun e => F3_j5_ok R e) (den_conv Pg R (pre 0 (cd Try.f3 [1,1,1,1,1,1,1,1])) (cd Try.f3 [1,1,1,1,1,1,1,1,0]) e (setN (kont Pg R Try.f3) (fun e => F3_j5 R)) _ (by kernel_rfl) (F3_j6_ok R e)))
def F3_j3 (R : ER) (x7 x8 : Value) : WP :=
  blt Pg R .len ⟨[28]⟩ 3 ⟨[false]⟩ ⟨[x7]⟩ fun v10 =>
  ld1 x8 fun v11 =>
  blt Pg R .len ⟨[28]⟩ 3 ⟨[false]⟩ ⟨[v11]⟩ fun v12 =>
  pv (bin .neq v10 v12) fun v13 =>
  cnd v13 (
   R (.returned (.bool false))) (
   F3_j4 R x7 x8)
theorem F3_j3_ok (R : ER) (e : Env) : den Pg R (cd Try.f3 [1,1,1,1,1,1,1]) e (kont Pg R Try.f3) = (F3_j3 R (e 7) (e 8)) := (den_join Pg R 0 (cd Try.f3 [1,1,1,1,1,1,1]) (cd Try.f3 [1,1,1,1,1,1,1,1]) e (kont Pg R Try.f3) (fun e => F3_j4 R (e 7) (e 8)) _ (by kernel_rfl) (fun e => F3_j4_ok R e) (by kernel_rfl))
def F3_j11 (R : ER) (k1 : V5) (x5 x7 x8 x9 x24 : Value) : WP :=
  cal Pg R 11 ⟨[x5, (.int .i64 250), (.bool false), (.int .i64 0)]⟩ fun v14 =>
  pv (extO 0 v14) fun v15 =>
  pv (extO 1 v14) fun v16 =>
  pv (extO 2 v14) fun v17 =>
  pv (extO 3 v14) fun v18 =>
  pv (extO 4 v14) fun v19 =>
  al Pg 30 fun v20 =>
  stN 2 v20 v15 fun _ =>
  pv (bin .neq v19 (.int .i64 0)) fun v21 =>
  cnd v21 (
   F3_j3 R x7 x8) (
   ldN 2 v20 fun v22 =>
  calD Pg R x9 ⟨[v22]⟩ fun v23 =>
  pv (bin .add x24 (.int .i64 1)) fun v24 =>
  k1 x5 x7 x8 x9 v24)
theorem F3_j11_ok (R : ER) (k1 : V5) (e : Env) : den Pg R (cd Try.f3 [1,1,1,1,1,1,0,1,0,0,1]) e (setN (inB 4 (setN (kont Pg R Try.f3) (fun e => F3_j3 R (e 7) (e 8)))) (fun e => k1 (e 5) (e 7) (e 8) (e 9) (e 24))) = (F3_j11 R k1 (e 5) (e 7) (e 8) (e 9) (e 24)) := (by kernel_rfl)
def F3_b2 (R : ER) (k1 : V5) (x5 x7 x8 x9 x24 : Value) : WP :=
  pv (bin .lss x24 (.int .i64 200)) fun v25 =>
  cnd v25 (
   F3_j11 R k1 x5 x7 x8 x9 x24) (
   F3_j3 R x7 x8)
theorem F3_b2_ok (R : ER) (k1 : V5) (e : Env) : den Pg R (cd Try.f3 [1,1,1,1,1,1,0,1,0,0]) e (setN (inB 4 (setN (kont Pg R Try.f3) (fun e => F3_j3 R (e 7) (e 8)))) (fun e => k1 (e 5) (e 7) (e 8) (e 9) (e 24))) = (F3_b2 R k1 (e 5) (e 7) (e 8) (e 9) (e 24)) := (den_join Pg R 0 (cd Try.f3 [1,1,1,1,1,1,0,1,0,0]) (cd Try.f3 [1,1,1,1,1,1,0,1,0,0,1]) e (setN (inB 4 (setN (kont Pg R Try.f3) (fun e => F3_j3 R (e 7) (e 8)))) (fun e => k1 (e 5) (e 7) (e 8) (e 9) (e 24))) (fun e => F3_j11 R k1 (e 5) (e 7) (e 8) (e 9) (e 24)) _ (by kernel_rfl) (fun e => F3_j11_ok R k1 e) (by kernel_rfl))
noncomputable def F3_l2 (R : ER) (n : Nat) : V5 := Nat.rec (motive := fun _ => V5) (fun _ _ _ _ _ => fun _ => False) (fun _ ih => fun x5 x7 x8 x9 x24 => F3_b2 R ih x5 x7 x8 x9 x24) n
theorem F3_l2_succ (R : ER) (n : Nat) (x5 x7 x8 x9 x24 : Value) : F3_l2 R (n + 1) x5 x7 x8 x9 x24 = F3_b2 R (F3_l2 R n) x5 x7 x8 x9 x24 := rfl
theorem F3_l2_ok (R : ER) : ∀ (n : Nat) (e : Env), iterL (den Pg R (cd Try.f3 [1,1,1,1,1,1,0,1,0,0])) n e (inB 4 (setN (kont Pg R Try.f3) (fun e => F3_j3 R (e 7) (e 8)))) = F3_l2 R n (e 5) (e 7) (e 8) (e 9) (e 24) :=
  iterL_join (den Pg R (cd Try.f3 [1,1,1,1,1,1,0,1,0,0])) (inB 4 (setN (kont Pg R Try.f3) (fun e => F3_j3 R (e 7) (e 8)))) (fun n e => F3_l2 R n (e 5) (e 7) (e 8) (e 9) (e 24)) (fun _ => rfl) (fun n e => (F3_b2_ok R (F3_l2 R n) e).trans (F3_l2_succ R n (e 5) (e 7) (e 8) (e 9) (e 24)).symm)
def F3_j10 (R : ER) (x5 x7 x8 x9 x24 : Value) : WP :=
  exN fun n => F3_l2 R n x5 x7 x8 x9 x24
theorem F3_j10_ok (R : ER) (e : Env) : den Pg R (cd Try.f3 [1,1,1,1,1,1,0,1]) e (setN (kont Pg R Try.f3) (fun e => F3_j3 R (e 7) (e 8))) = (F3_j10 R (e 5) (e 7) (e 8) (e 9) (e 24)) := (den_block Pg R (cd Try.f3 [1,1,1,1,1,1,0,1]) 4 (cd Try.f3 [1,1,1,1,1,1,0,1,0]) e (setN (kont Pg R Try.f3) (fun e => F3_j3 R (e 7) (e 8))) _ (by kernel_rfl) (den_loop Pg R (cd Try.f3 [1,1,1,1,1,1,0,1,0]) (cd Try.f3 [1,1,1,1,1,1,0,1,0,0]) e (inB 4 (setN (kont Pg R Try.f3) (fun e => F3_j3 R (e 7) (e 8)))) (fun n e => F3_l2 R n (e 5) (e 7) (e 8) (e 9) (e 24)) _ (by kernel_rfl) (F3_l2_ok R) (by kernel_rfl)))
def F3_j9 (R : ER) (x5 x7 x8 x9 : Value) : WP :=
  F3_j10 R x5 x7 x8 x9 (.int .i64 0)
theorem F3_j9_ok (R : ER) (e : Env) : den Pg R (cd Try.f3 [1,1,1,1,1,1,0]) e (setN (kont Pg R Try.f3) (fun e => F3_j3 R (e 7) (e 8))) = (F3_j9 R (e 5) (e 7) (e 8) (e 9)) := (den_join Pg R 0 (cd Try.f3 [1,1,1,1,1,1,0]) (cd Try.f3 [1,1,1,1,1,1,0,1]) e (setN (kont Pg R Try.f3) (fun e => F3_j3 R (e 7) (e 8))) (fun e => F3_j10 R (e 5) (e 7) (e 8) (e 9) (e 24)) _ (by kernel_rfl) (fun e => F3_j10_ok R e) (by kernel_rfl))
def F3_j2 (R : ER) (x5 x7 x8 x9 : Value) : WP :=
  F3_j9 R x5 x7 x8 x9
theorem F3_j2_ok (R : ER) (e : Env) : den Pg R (cd Try.f3 [1,1,1,1,1,1]) e (kont Pg R Try.f3) = (F3_j2 R (e 5) (e 7) (e 8) (e 9)) := (den_join Pg R 0 (cd Try.f3 [1,1,1,1,1,1]) (cd Try.f3 [1,1,1,1,1,1,1]) e (kont Pg R Try.f3) (fun e => F3_j3 R (e 7) (e 8)) _ (by kernel_rfl) (fun e => F3_j3_ok R e) (den_conv Pg R (pre 0 (cd Try.f3 [1,1,1,1,1,1])) (cd Try.f3 [1,1,1,1,1,1,0]) e (setN (kont Pg R Try.f3) (fun e => F3_j3 R (e 7) (e 8))) _ (by kernel_rfl) (F3_j9_ok R e)))
def F3_j15 (R : ER) (k1 : V7) (x5 x7 x8 x9 x59 x60 x61 : Value) : WP :=
  pv (bin .add x61 (.int .i64 1)) fun v26 =>
  k1 x5 x7 x8 x9 x59 x60 v26
theorem F3_j15_ok (R : ER) (k1 : V7) (e : Env) : den Pg R (cd Try.f3 [1,1,1,1,1,0,1,0,0,1,1,1]) e (setN (inB 0 (setN (kont Pg R Try.f3) (fun e => F3_j2 R (e 5) (e 7) (e 8) (e 9)))) (fun e => k1 (e 5) (e 7) (e 8) (e 9) (e 59) (e 60) (e 61))) = (F3_j15 R k1 (e 5) (e 7) (e 8) (e 9) (e 59) (e 60) (e 61)) := by kernel_rfl
def F3_j17 (R : ER) (k1 : V7) (x5 x7 x8 x9 x10 x59 x60 x61 : Value) : WP :=
  cal Pg R 11 ⟨[x5, x10, (.bool true), (.int .i64 0)]⟩ fun v27 =>
  pv (extO 0 v27) fun v28 =>
  pv (extO 1 v27) fun v29 =>
  pv (extO 2 v27) fun v30 =>
  pv (extO 3 v27) fun v31 =>
  pv (extO 4 v27) fun v32 =>
  al Pg 30 fun v33 =>
  stN 2 v33 v28 fun _ =>
  pv (bin .neq v32 (.int .i64 0)) fun v34 =>
  gd v34 true (pv (some v32)) fun v35 =>
  gd v34 true (pv (bin .neq v35 (.int .i64 18))) fun v36 =>
  pv (pickO v34 v36 (.bool false)) fun v37 =>
  cnd v37 (
   R (.returned (.bool false))) (
   pv (bin .eql v32 (.int .i64 0)) fun v38 =>
  gd v38 true (pv (some v29)) fun v39 =>
  gd v38 true (pv (unO .not v39)) fun v40 =>
  pv (pickO v38 v40 (.bool false)) fun v41 =>
  cnd v41 (
   ldN 2 v33 fun v42 =>
   calD Pg R x9 ⟨[v42]⟩ fun v43 =>
   F3_j15 R k1 x5 x7 x8 x9 x59 x60 x61) (
   F3_j15 R k1 x5 x7 x8 x9 x59 x60 x61))
theorem F3_j17_ok (R : ER) (k1 : V7) (e : Env) : den Pg R (cd Try.f3 [1,1,1,1,1,0,1,0,0,1,1,0,0,1,1]) e (inB 1 (setN (setN (inB 0 (setN (kont Pg R Try.f3) (fun e => F3_j2 R (e 5) (e 7) (e 8) (e 9)))) (fun e => k1 (e 5) (e 7) (e 8) (e 9) (e 59) (e 60) (e 61))) (fun e => F3_j15 R k1 (e 5) (e 7) (e 8) (e 9) (e 59) (e 60) (e 61)))) = (F3_j17 R k1 (e 5) (e 7) (e 8) (e 9) (e 10) (e 59) (e 60) (e 61)) := (by kernel_rfl)
def F3_j23 (R : ER) (k1 : V7) (x5 x7 x8 x9 x59 x60 x61 : Value) : WP :=
  F3_j15 R k1 x5 x7 x8 x9 x59 x60 x61
theorem F3_j23_ok (R : ER) (k1 : V7) (e : Env) : den Pg R (cd Try.f3 [1,1,1,1,1,0,1,0,0,1,1,0,0,1,0,1,0,1,1,1,1,1,1]) e (setN (inB 1 (setN (setN (inB 0 (setN (kont Pg R Try.f3) (fun e => F3_j2 R (e 5) (e 7) (e 8) (e 9)))) (fun e => k1 (e 5) (e 7) (e 8) (e 9) (e 59) (e 60) (e 61))) (fun e => F3_j15 R k1 (e 5) (e 7) (e 8) (e 9) (e 59) (e 60) (e 61)))) (fun e => F3_j17 R k1 (e 5) (e 7) (e 8) (e 9) (e 10) (e 59) (e 60) (e 61))) = (F3_j23 R k1 (e 5) (e 7) (e 8) (e 9) (e 59) (e 60) (e 61)) := by kernel_rfl
def F3_b4 (R : ER) (k1 : V7) (k2 : V10) (x5 x7 x8 x9 x59 x60 x61 x97 x98 x99 : Value) : WP :=
  pv (bin .lss x99 x98) fun v44 =>
  cnd v44 (
   pv (ixS 4 x97 x99) fun v45 =>
  ldN 4 v45 fun v46 =>
  al Pg 37 fun v47 =>
  stN 4 v47 v46 fun _ =>
  pv (faO 1 v47) fun v48 =>
  ldN 2 v48 fun v49 =>
  calD Pg R x9 ⟨[v49]⟩ fun v50 =>
  pv (bin .add x99 (.int .i64 1)) fun v51 =>
  k2 x5 x7 x8 x9 x59 x60 x61 x97 x98 v51) (
   F3_j23 R k1 x5 x7 x8 x9 x59 x60 x61)
theorem F3_b4_ok (R : ER) (k1 : V7) (k2 : V10) (e : Env) : den Pg R (cd Try.f3 [1,1,1,1,1,0,1,0,0,1,1,0,0,1,0,1,0,1,1,1,1,1,0,1,0,0]) e (setN (inB 2 (setN (setN (inB 1 (setN (setN (inB 0 (setN (kont Pg R Try.f3) (fun e => F3_j2 R (e 5) (e 7) (e 8) (e 9)))) (fun e => k1 (e 5) (e 7) (e 8) (e 9) (e 59) (e 60) (e 61))) (fun e => F3_j15 R k1 (e 5) (e 7) (e 8) (e 9) (e 59) (e 60) (e 61)))) (fun e => F3_j17 R k1 (e 5) (e 7) (e 8) (e 9) (e 10) (e 59) (e 60) (e 61))) (fun e => F3_j23 R k1 (e 5) (e 7) (e 8) (e 9) (e 59) (e 60) (e 61)))) (fun e => k2 (e 5) (e 7) (e 8) (e 9) (e 59) (e 60) (e 61) (e 97) (e 98) (e 99))) = (F3_b4 R k1 k2 (e 5) (e 7) (e 8) (e 9) (e 59) (e 60) (e 61) (e 97) (e 98) (e 99)) := by kernel_rfl
noncomputable def F3_l3 (R : ER) (k1 : V7) (n : Nat) : V10 := Nat.rec (motive := fun _ => V10) (fun _ _ _ _ _ _ _ _ _ _ => fun _ => False) (fun _ ih => fun x5 x7 x8 x9 x59 x60 x61 x97 x98 x99 => F3_b4 R k1 ih x5 x7 x8 x9 x59 x60 x61 x97 x98 x99) n
theorem F3_l3_succ (R : ER) (k1 : V7) (n : Nat) (x5 x7 x8 x9 x59 x60 x61 x97 x98 x99 : Value) : F3_l3 R k1 (n + 1) x5 x7 x8 x9 x59 x60 x61 x97 x98 x99 = F3_b4 R k1 (F3_l3 R k1 n) x5 x7 x8 x9 x59 x60 x61 x97 x98 x99 := rfl
theorem F3_l3_ok (R : ER) (k1 : V7) : ∀ (n : Nat) (e : Env), iterL (den Pg R (cd Try.f3 [1,1,1,1,1,0,1,0,0,1,1,0,0,1,0,1,0,1,1,1,1,1,0,1,0,0])) n e (inB 2 (setN (setN (inB 1 (setN (setN (inB 0 (setN (kont Pg R Try.f3) (fun e => F3_j2 R (e 5) (e 7) (e 8) (e 9)))) (fun e => k1 (e 5) (e 7) (e 8) (e 9) (e 59) (e 60) (e 61))) (fun e => F3_j15 R k1 (e 5) (e 7) (e 8) (e 9) (e 59) (e 60) (e 61)))) (fun e => F3_j17 R k1 (e 5) (e 7) (e 8) (e 9) (e 10) (e 59) (e 60) (e 61))) (fun e => F3_j23 R k1 (e 5) (e 7) (e 8) (e 9) (e 59) (e 60) (e 61)))) = F3_l3 R k1 n (e 5) (e 7) (e 8) (e 9) (e 59) (e 60) (e 61) (e 97) (e 98) (e 99) :=
  iterL_join (den Pg R (cd Try.f3 [1,1,1,1,1,0,1,0,0,1,1,0,0,1,0,1,0,1,1,1,1,1,0,1,0,0])) (inB 2 (setN (setN (inB 1 (setN (setN (inB 0 (setN (kont Pg R Try.f3) (fun e => F3_j2 R (e 5) (e 7) (e 8) (e 9)))) (fun e => k1 (e 5) (e 7) (e 8) (e 9) (e 59) (e 60) (e 61))) (fun e => F3_j15 R k1 (e 5) (e 7) (e 8) (e 9) (e 59) (e 60) (e 61)))) (fun e => F3_j17 R k1 (e 5) (e 7) (e 8) (e 9) (e 10) (e 59) (e 60) (e 61))) (fun e => F3_j23 R k1 (e 5) (e 7) (e 8) (e 9) (e 59) (e 60) (e 61)))) (fun n e => F3_l3 R k1 n (e 5) (e 7) (e 8) (e 9) (e 59) (e 60) (e 61) (e 97) (e 98) (e 99)) (fun _ => rfl) (fun n e => (F3_b4_ok R k1 (F3_l3 R k1 n) e).trans (F3_l3_succ R k1 n (e 5) (e 7) (e 8) (e 9) (e 59) (e 60) (e 61) (e 97) (e 98) (e 99)).symm)
def F3_j25 (R : ER) (k1 : V7) (x5 x7 x8 x9 x59 x60 x61 x97 x98 x99 : Value) : WP :=
  exN fun n => F3_l3 R k1 n x5 x7 x8 x9 x59 x60 x61 x97 x98 x99
theorem F3_j25_ok (R : ER) (k1 : V7) (e : Env) : den Pg R (cd Try.f3 [1,1,1,1,1,0,1,0,0,1,1,0,0,1,0,1,0,1,1,1,1,1,0,1]) e (setN (setN (inB 1 (setN (setN (inB 0 (setN (kont Pg R Try.f3) (fun e => F3_j2 R (e 5) (e 7) (e 8) (e 9)))) (fun e => k1 (e 5) (e 7) (e 8) (e 9) (e 59) (e 60) (e 61))) (fun e => F3_j15 R k1 (e 5) (e 7) (e 8) (e 9) (e 59) (e 60) (e 61)))) (fun e => F3_j17 R k1 (e 5) (e 7) (e 8) (e 9) (e 10) (e 59) (e 60) (e 61))) (fun e => F3_j23 R k1 (e 5) (e 7) (e 8) (e 9) (e 59) (e 60) (e 61))) = (F3_j25 R k1 (e 5) (e 7) (e 8) (e 9) (e 59) (e 60) (e 61) (e 97) (e 98) (e 99)) := (den_block Pg R (cd Try.f3 [1,1,1,1,1,0,1,0,0,1,1,0,0,1,0,1,0,1,1,1,1,1,0,1]) 2 (cd Try.f3 [1,1,1,1,1,0,1,0,0,1,1,0,0,1,0,1,0,1,1,1,1,1,0,1,0]) e (setN (setN (inB 1 (setN (setN (inB 0 (setN (kont Pg R Try.f3) (fun e => F3_j2 R (e 5) (e 7) (e 8) (e 9)))) (fun e => k1 (e 5) (e 7) (e 8) (e 9) (e 59) (e 60) (e 61))) (fun e => F3_j15 R k1 (e 5) (e 7) (e 8) (e 9) (e 59) (e 60) (e 61)))) (fun e => F3_j17 R k1 (e 5) (e 7) (e 8) (e 9) (e 10) (e 59) (e 60) (e 61))) (fun e => F3_j23 R k1 (e 5) (e 7) (e 8) (e 9) (e 59) (e 60) (e 61))) _ (by kernel_rfl) (den_loop Pg R (cd Try.f3 [1,1,1,1,1,0,1,0,0,1,1,0,0,1,0,1,0,1,1,1,1,1,0,1,0]) (cd Try.f3 [1,1,1,1,1,0,1,0,0,1,1,0,0,1,0,1,0,1,1,1,1,1,0,1,0,0]) e (inB 2 (setN (setN (inB 1 (setN (setN (inB 0 (setN (kont Pg R Try.f3) (fun e => F3_j2 R (e 5) (e 7) (e 8) (e 9)))) (fun e => k1 (e 5) (e 7) (e 8) (e 9) (e 59) (e 60) (e 61))) (fun e => F3_j15 R k1 (e 5) (e 7) (e 8) (e 9) (e 59) (e 60) (e 61)))) (fun e => F3_j17 R k1 (e 5) (e 7) (e 8) (e 9) (e 10) (e 59) (e 60) (e 61))) (fun e => F3_j23 R k1 (e 5) (e 7) (e 8) (e 9) (e 59) (e 60) (e 61)))) (fun n e => F3_l3 R k1 n (e 5) (e 7) (e 8) (e 9) (e 59) (e 60) (e 61) (e 97) (e 98) (e 99)) _ (by kernel_rfl) (F3_l3_ok R k1) (by kernel_rfl)))
def F3_j24 (R : ER) (k1 : V7) (x5 x7 x8 x9 x14 x59 x60 x61 : Value) : WP :=
  pv (lenS x14) fun v52 =>
  F3_j25 R k1 x5 x7 x8 x9 x59 x60 x61 x14 v52 (.int .i64 0)
theorem F3_j24_ok (R : ER) (k1 : V7) (e : Env) : den Pg R (cd Try.f3 [1,1,1,1,1,0,1,0,0,1,1,0,0,1,0,1,0,1,1,1,1,1,0]) e (setN (setN (inB 1 (setN (setN (inB 0 (setN (kont Pg R Try.f3) (fun e => F3_j2 R (e 5) (e 7) (e 8) (e 9)))) (fun e => k1 (e 5) (e 7) (e 8) (e 9) (e 59) (e 60) (e 61))) (fun e => F3_j15 R k1 (e 5) (e 7) (e 8) (e 9) (e 59) (e 60) (e 61)))) (fun e => F3_j17 R k1 (e 5) (e 7) (e 8) (e 9) (e 10) (e 59) (e 60) (e 61))) (fun e => F3_j23 R k1 (e 5) (e 7) (e 8) (e 9) (e 59) (e 60) (e 61))) = (F3_j24 R k1 (e 5) (e 7) (e 8) (e 9) (e 14) (e 59) (e 60) (e 61)) := (den_join Pg R 0 (cd Try.f3 [1,1,1,1,1,0,1,0,0,1,1,0,0,1,0,1,0,1,1,1,1,1,0]) (cd Try.f3 [1,1,1,1,1,0,1,0,0,1,1,0,0,1,0,1,0,1,1,1,1,1,0,1]) e (setN (setN (inB 1 (setN (setN (inB 0 (setN (kont Pg R Try.f3) (fun e => F3_j2 R (e 5) (e 7) (e 8) (e 9)))) (fun e => k1 (e 5) (e 7) (e 8) (e 9) (e 59) (e 60) (e 61))) (fun e => F3_j15 R k1 (e 5) (e 7) (e 8) (e 9) (e 59) (e 60) (e 61)))) (fun e => F3_j17 R k1 (e 5) (e 7) (e 8) (e 9) (e 10) (e 59) (e 60) (e 61))) (fun e => F3_j23 R k1 (e 5) (e 7) (e 8) (e 9) (e 59) (e 60) (e 61))) (fun e => F3_j25 R k1 (e 5) (e 7) (e 8) (e 9) (e 59) (e 60) (e 61) (e 97) (e 98) (e 99)) _ (by kernel_rfl) (fun e => F3_j25_ok R k1 e) (by kernel_rfl))
def F3_j22 (R : ER) (k1 : V7) (x5 x7 x8 x9 x12 x14 x59 x60 x61 : Value) : WP :=
  pv (faO 1 x12) fun v53 =>
  ld1 v53 fun v54 =>
  valV Pg R (convert 22 9 v54) fun v55 =>
  valV Pg R (Instr.lookup 28 x7 v55 false) fun v56 =>
  pv (bin .add v56 (.int .i64 1)) fun v57 =>
  unitV Pg R (Instr.mapUpdate 28 x7 v55 v57) fun _ =>
  F3_j24 R k1 x5 x7 x8 x9 x14 x59 x60 x61
theorem F3_j22_ok (R : ER) (k1 : V7) (e : Env) : den Pg R (cd Try.f3 [1,1,1,1,1,0,1,0,0,1,1,0,0,1,0,1,0,1,1,1,1]) e (setN (inB 1 (setN (setN (inB 0 (setN (kont Pg R Try.f3) (fun e => F3_j2 R (e 5) (e 7) (e 8) (e 9)))) (fun e => k1 (e 5) (e 7) (e 8) (e 9) (e 59) (e 60) (e 61))) (fun e => F3_j15 R k1 (e 5) (e 7) (e 8) (e 9) (e 59) (e 60) (e 61)))) (fun e => F3_j17 R k1 (e 5) (e 7) (e 8) (e 9) (e 10) (e 59) (e 60) (e 61))) = (F3_j22 R k1 (e 5) (e 7) (e 8) (e 9) (e 12) (e 14) (e 59) (e 60) (e 61)) := (den_join Pg R 1 (cd Try.f3 [1,1,1,1,1,0,1,0,0,1,1,0,0,1,0,1,0,1,1,1,1]) (cd Try.f3 [1,1,1,1,1,0,1,0,0,1,1,0,0,1,0,1,0,1,1,1,1,1,1]) e (setN (inB 1 (setN (setN (inB 0 (setN (kont Pg R Try.f3) (fun e => F3_j2 R (e 5) (e 7) (e 8) (e 9)))) (fun e => k1 (e 5) (e 7) (e 8) (e 9) (e 59) (e 60) (e 61))) (fun e => F3_j15 R k1 (e 5) (e 7) (e 8) (e 9) (e 59) (e 60) (e 61)))) (fun e => F3_j17 R k1 (e 5) (e 7) (e 8) (e 9) (e 10) (e 59) (e 60) (e 61))) (fun e => F3_j23 R k1 (e 5) (e 7) (e 8) (e 9) (e 59) (e 60) (e 61)) _ (by kernel_rfl) (fun e => F3_j23_ok R k1 e) (den_join Pg R 0 (pre 1 (cd Try.f3 [1,1,1,1,1,0,1,0,0,1,1,0,0,1,0,1,0,1,1,1,1])) (cd Try.f3 [1,1,1,1,1,0,1,0,0,1,1,0,0,1,0,1,0,1,1,1,1,1,0]) e (setN (setN (inB 1 (setN (setN (inB 0 (setN (kont Pg R Try.f3) (fun e => F3_j2 R (e 5) (e 7) (e 8) (e 9)))) (fun e => k1 (e 5) (e 7) (e 8) (e 9) (e 59) (e 60) (e 61))) (fun e => F3_j15 R k1 (e 5) (e 7) (e 8) (e 9) (e 59) (e 60) (e 61)))) (fun e => F3_j17 R k1 (e 5) (e 7) (e 8) (e 9) (e 10) (e 59) (e 60) (e 61))) (fun e => F3_j23 R k1 (e 5) (e 7) (e 8) (e 9) (e 59) (e 60) (e 61))) (fun e => F3_j24 R k1 (e 5) (e 7) (e 8) (e 9) (e 14) (e 59) (e 60) (e 61)) _ (by kernel_rfl) (fun e => F3_j24_ok R k1 e) (by kernel_rfl)))
def F3_j21 (R : ER) (k1 : V7) (x5 x7 x8 x9 x12 x14 x16 x59 x60 x61 : Value) : WP :=
  pv (bin .neq x16 (.int .i64 0)) fun v58 =>
  cnd v58 (
   R (.returned (.bool false))) (
   F3_j22 R k1 x5 x7 x8 x9 x12 x14 x59 x60 x61)
theorem F3_j21_ok (R : ER) (k1 : V7) (e : Env) : den Pg R (cd Try.f3 [1,1,1,1,1,0,1,0,0,1,1,0,0,1,0,1,0,1,1,1]) e (setN (inB 1 (setN (setN (inB 0 (setN (kont Pg R Try.f3) (fun e => F3_j2 R (e 5) (e 7) (e 8) (e 9)))) (fun e => k1 (e 5) (e 7) (e 8) (e 9) (e 59) (e 60) (e 61))) (fun e => F3_j15 R k1 (e 5) (e 7) (e 8) (e 9) (e 59) (e 60) (e 61)))) (fun e => F3_j17 R k1 (e 5) (e 7) (e 8) (e 9) (e 10) (e 59) (e 60) (e 61))) = (F3_j21 R k1 (e 5) (e 7) (e 8) (e 9) (e 12) (e 14) (e 16) (e 59) (e 60) (e 61)) := (den_join Pg R 0 (cd Try.f3 [1,1,1,1,1,0,1,0,0,1,1,0,0,1,0,1,0,1,1,1]) (cd Try.f3 [1,1,1,1,1,0,1,0,0,1,1,0,0,1,0,1,0,1,1,1,1]) e (setN (inB 1 (setN (setN (inB 0 (setN (kont Pg R Try.f3) (fun e => F3_j2 R (e 5) (e 7) (e 8) (e 9)))) (fun e => k1 (e 5) (e 7) (e 8) (e 9) (e 59) (e 60) (e 61))) (fun e => F3_j15 R k1 (e 5) (e 7) (e 8) (e 9) (e 59) (e 60) (e 61)))) (fun e => F3_j17 R k1 (e 5) (e 7) (e 8) (e 9) (e 10) (e 59) (e 60) (e 61))) (fun e => F3_j22 R k1 (e 5) (e 7) (e 8) (e 9) (e 12) (e 14) (e 59) (e 60) (e 61)) _ (by kernel_rfl) (fun e => F3_j22_ok R k1 e) (by kernel_rfl))
def F3_j20 (R : ER) (k1 : V7) (x5 x7 x8 x9 x10 x11 x59 x60 x61 : Value) : WP :=
  pv (bin .quo x11 (.int .u8 2)) fun v59 =>
  pv (bin .rem v59 (.int .u8 32)) fun v60 =>
  pv (cvI .i64 v60) fun v61 =>
  pv (cvI .u8 x10) fun v62 =>
  valV Pg R (Instr.buildSlice 22 2 ⟨[(0, v62), (1, x11)]⟩) fun v63 =>
  pv (bldO [.int .i64 0, .slice none 0 0] [(0,1, v61), (1,1, v63)]) fun v64 =>
  al Pg 30 fun v65 =>
  stN 2 v65 v64 fun _ =>
  ldN 2 v65 fun v66 =>
  cal Pg R 10 ⟨[x5, x10, v66, (.bool true), (.int .i64 0)]⟩ fun v67 =>
  pv (extO 0 v67) fun v68 =>
  pv (extO 1 v67) fun v69 =>
  pv (extO 2 v67) fun v70 =>
  pv (extO 3 v67) fun v71 =>
  pv (bin .eql v71 (.int .i64 18)) fun v72 =>
  cnd v72 (
   F3_j15 R k1 x5 x7 x8 x9 x59 x60 x61) (
   F3_j21 R k1 x5 x7 x8 x9 v65 v69 v71 x59 x60 x61)
theorem F3_j20_ok (R : ER) (k1 : V7) (e : Env) : den Pg R (cd Try.f3 [1,1,1,1,1,0,1,0,0,1,1,0,0,1,0,1,0]) e (setN (inB 1 (setN (setN (inB 0 (setN (kont Pg R Try.f3) (fun e => F3_j2 R (e 5) (e 7) (e 8) (e 9)))) (fun e => k1 (e 5) (e 7) (e 8) (e 9) (e 59) (e 60) (e 61))) (fun e => F3_j15 R k1 (e 5) (e 7) (e 8) (e 9) (e 59) (e 60) (e 61)))) (fun e => F3_j17 R k1 (e 5) (e 7) (e 8) (e 9) (e 10) (e 59) (e 60) (e 61))) = (F3_j20 R k1 (e 5) (e 7) (e 8) (e 9) (e 10) (e 11) (e 59) (e 60) (e 61)) := (den_join Pg R 2 (cd Try.f3 [1,1,1,1,1,0,1,0,0,1,1,0,0,1,0,1,0]) (cd Try.f3 [1,1,1,1,1,0,1,0,0,1,1,0,0,1,0,1,0,1,1,1]) e (setN (inB 1 (setN (setN (inB 0 (setN (kont Pg R Try.f3) (fun e => F3_j2 R (e 5) (e 7) (e 8) (e 9)))) (fun e => k1 (e 5) (e 7) (e 8) (e 9) (e 59) (e 60) (e 61))) (fun e => F3_j15 R k1 (e 5) (e 7) (e 8) (e 9) (e 59) (e 60) (e 61)))) (fun e => F3_j17 R k1 (e 5) (e 7) (e 8) (e 9) (e 10) (e 59) (e 60) (e 61))) (fun e => F3_j21 R k1 (e 5) (e 7) (e 8) (e 9) (e 12) (e 14) (e 16) (e 59) (e 60) (e 61)) _ (by kernel_rfl) (fun e => F3_j21_ok R k1 e) (by kernel_rfl))
def F3_j19 (R : ER) (k1 : V7) (x5 x7 x8 x9 x10 x11 x59 x60 x61 x68 : Value) : WP :=
  cnd x68 (F3_j20 R k1 x5 x7 x8 x9 x10 x11 x59 x60 x61) (F3_j17 R k1 x5 x7 x8 x9 x10 x59 x60 x61)
theorem F3_j19_ok (R : ER) (k1 : V7) (e : Env) : den Pg R (cd Try.f3 [1,1,1,1,1,0,1,0,0,1,1,0,0,1,0,1]) e (setN (inB 1 (setN (setN (inB 0 (setN (kont Pg R Try.f3) (fun e => F3_j2 R (e 5) (e 7) (e 8) (e 9)))) (fun e => k1 (e 5) (e 7) (e 8) (e 9) (e 59) (e 60) (e 61))) (fun e => F3_j15 R k1 (e 5) (e 7) (e 8) (e 9) (e 59) (e 60) (e 61)))) (fun e => F3_j17 R k1 (e 5) (e 7) (e 8) (e 9) (e 10) (e 59) (e 60) (e 61))) = (F3_j19 R k1 (e 5) (e 7) (e 8) (e 9) (e 10) (e 11) (e 59) (e 60) (e 61) (e 68)) := (den_if Pg R (cd Try.f3 [1,1,1,1,1,0,1,0,0,1,1,0,0,1,0,1]) (cd Try.f3 [1,1,1,1,1,0,1,0,0,1,1,0,0,1,0,1,0]) (cd Try.f3 [1,1,1,1,1,0,1,0,0,1,1,0,0,1,0,1,1]) e (setN (inB 1 (setN (setN (inB 0 (setN (kont Pg R Try.f3) (fun e => F3_j2 R (e 5) (e 7) (e 8) (e 9)))) (fun e => k1 (e 5) (e 7) (e 8) (e 9) (e 59) (e 60) (e 61))) (fun e => F3_j15 R k1 (e 5) (e 7) (e 8) (e 9) (e 59) (e 60) (e 61)))) (fun e => F3_j17 R k1 (e 5) (e 7) (e 8) (e 9) (e 10) (e 59) (e 60) (e 61))) (F3_j20 R k1 (e 5) (e 7) (e 8) (e 9) (e 10) (e 11) (e 59) (e 60) (e 61)) _ _ (by kernel_rfl) (F3_j20_ok R k1 e) rfl (by kernel_rfl))
def F3_j18 (R : ER) (k1 : V7) (x5 x7 x8 x9 x10 x11 x59 x60 x61 : Value) : WP :=
  pv (bin .rem x11 (.int .u8 2)) fun v73 =>
  pv (bin .eql v73 (.int .u8 0)) fun v74 =>
  F3_j19 R k1 x5 x7 x8 x9 x10 x11 x59 x60 x61 v74
theorem F3_j18_ok (R : ER) (k1 : V7) (e : Env) : den Pg R (cd Try.f3 [1,1,1,1,1,0,1,0,0,1,1,0,0,1,0]) e (setN (inB 1 (setN (setN (inB 0 (setN (kont Pg R Try.f3) (fun e => F3_j2 R (e 5) (e 7) (e 8) (e 9)))) (fun e => k1 (e 5) (e 7) (e 8) (e 9) (e 59) (e 60) (e 61))) (fun e => F3_j15 R k1 (e 5) (e 7) (e 8) (e 9) (e 59) (e 60) (e 61)))) (fun e => F3_j17 R k1 (e 5) (e 7) (e 8) (e 9) (e 10) (e 59) (e 60) (e 61))) = (F3_j18 R k1 (e 5) (e 7) (e 8) (e 9) (e 10) (e 11) (e 59) (e 60) (e 61)) := (den_join Pg R 0 (cd Try.f3 [1,1,1,1,1,0,1,0,0,1,1,0,0,1,0]) (cd Try.f3 [1,1,1,1,1,0,1,0,0,1,1,0,0,1,0,1]) e (setN (inB 1 (setN (setN (inB 0 (setN (kont Pg R Try.f3) (fun e => F3_j2 R (e 5) (e 7) (e 8) (e 9)))) (fun e => k1 (e 5) (e 7) (e 8) (e 9) (e 59) (e 60) (e 61))) (fun e => F3_j15 R k1 (e 5) (e 7) (e 8) (e 9) (e 59) (e 60) (e 61)))) (fun e => F3_j17 R k1 (e 5) (e 7) (e 8) (e 9) (e 10) (e 59) (e 60) (e 61))) (fun e => F3_j19 R k1 (e 5) (e 7) (e 8) (e 9) (e 10) (e 11) (e 59) (e 60) (e 61) (e 68)) _ (by kernel_rfl) (fun e => F3_j19_ok R k1 e) (by kernel_rfl))
def F3_j16 (R : ER) (k1 : V7) (x5 x7 x8 x9 x59 x60 x61 : Value) : WP :=
  pv (ixS 1 x59 x61) fun v75 =>
  ld1 v75 fun v76 =>
  F3_j18 R k1 x5 x7 x8 x9 x61 v76 x59 x60 x61
theorem F3_j16_ok (R : ER) (k1 : V7) (e : Env) : den Pg R (cd Try.f3 [1,1,1,1,1,0,1,0,0,1,1,0]) e (setN (setN (inB 0 (setN (kont Pg R Try.f3) (fun e => F3_j2 R (e 5) (e 7) (e 8) (e 9)))) (fun e => k1 (e 5) (e 7) (e 8) (e 9) (e 59) (e 60) (e 61))) (fun e => F3_j15 R k1 (e 5) (e 7) (e 8) (e 9) (e 59) (e 60) (e 61))) = (F3_j16 R k1 (e 5) (e 7) (e 8) (e 9) (e 59) (e 60) (e 61)) := (den_block Pg R (cd Try.f3 [1,1,1,1,1,0,1,0,0,1,1,0]) 1 (cd Try.f3 [1,1,1,1,1,0,1,0,0,1,1,0,0]) e (setN (setN (inB 0 (setN (kont Pg R Try.f3) (fun e => F3_j2 R (e 5) (e 7) (e 8) (e 9)))) (fun e => k1 (e 5) (e 7) (e 8) (e 9) (e 59) (e 60) (e 61))) (fun e => F3_j15 R k1 (e 5) (e 7) (e 8) (e 9) (e 59) (e 60) (e 61))) _ (by kernel_rfl) (den_join Pg R 1 (cd Try.f3 [1,1,1,1,1,0,1,0,0,1,1,0,0]) (cd Try.f3 [1,1,1,1,1,0,1,0,0,1,1,0,0,1,1]) e (inB 1 (setN (setN (inB 0 (setN (kont Pg R Try.f3) (fun e => F3_j2 R (e 5) (e 7) (e 8) (e 9)))) (fun e => k1 (e 5) (e 7) (e 8) (e 9) (e 59) (e 60) (e 61))) (fun e => F3_j15 R k1 (e 5) (e 7) (e 8) (e 9) (e 59) (e 60) (e 61)))) (fun e => F3_j17 R k1 (e 5) (e 7) (e 8) (e 9) (e 10) (e 59) (e 60) (e 61)) _ (by kernel_rfl) (fun e => F3_j17_ok R k1 e) (den_join Pg R 0 (pre 1 (cd Try.f3 [1,1,1,1,1,0,1,0,0,1,1,0,0])) (cd Try.f3 [1,1,1,1,1,0,1,0,0,1,1,0,0,1,0]) e (setN (inB 1 (setN (setN (inB 0 (setN (kont Pg R Try.f3) (fun e => F3_j2 R (e 5) (e 7) (e 8) (e 9)))) (fun e => k1 (e 5) (e 7) (e 8) (e 9) (e 59) (e 60) (e 61))) (fun e => F3_j15 R k1 (e 5) (e 7) (e 8) (e 9) (e 59) (e 60) (e 61)))) (fun e => F3_j17 R k1 (e 5) (e 7) (e 8) (e 9) (e 10) (e 59) (e 60) (e 61))) (fun e => F3_j18 R k1 (e 5) (e 7) (e 8) (e 9) (e 10) (e 11) (e 59) (e 60) (e 61)) _ (by kernel_rfl) (fun e => F3_j18_ok R k1 e) (by kernel_rfl))))
def F3_j14 (R : ER) (k1 : V7) (x5 x7 x8 x9 x59 x60 x61 : Value) : WP :=
  F3_j16 R k1 x5 x7 x8 x9 x59 x60 x61
theorem F3_j14_ok (R : ER) (k1 : V7) (e : Env) : den Pg R (cd Try.f3 [1,1,1,1,1,0,1,0,0,1,1]) e (setN (inB 0 (setN (kont Pg R Try.f3) (fun e => F3_j2 R (e 5) (e 7) (e 8) (e 9)))) (fun e => k1 (e 5) (e 7) (e 8) (e 9) (e 59) (e 60) (e 61))) = (F3_j14 R k1 (e 5) (e 7) (e 8) (e 9) (e 59) (e 60) (e 61)) := (den_join Pg R 0 (cd Try.f3 [1,1,1,1,1,0,1,0,0,1,1]) (cd Try.f3 [1,1,1,1,1,0,1,0,0,1,1,1]) e (setN (inB 0 (setN (kont Pg R Try.f3) (fun e => F3_j2 R (e 5) (e 7) (e 8) (e 9)))) (fun e => k1 (e 5) (e 7) (e 8) (e 9) (e 59) (e 60) (e 61))) (fun e => F3_j15 R k1 (e 5) (e 7) (e 8) (e 9) (e 59) (e 60) (e 61)) _ (by kernel_rfl) (fun e => F3_j15_ok R k1 e) (den_conv Pg R (pre 0 (cd Try.f3 [1,1,1,1,1,0,1,0,0,1,1])) (cd Try.f3 [1,1,1,1,1,0,1,0,0,1,1,0]) e (setN (setN (inB 0 (setN (kont Pg R Try.f3) (fun e => F3_j2 R (e 5) (e 7) (e 8) (e 9)))) (fun e => k1 (e 5) (e 7) (e 8) (e 9) (e 59) (e 60) (e 61))) (fun e => F3_j15 R k1 (e 5) (e 7) (e 8) (e 9) (e 59) (e 60) (e 61))) _ (by kernel_rfl) (F3_j16_ok R k1 e)))
def F3_b3 (R : ER) (k1 : V7) (x5 x7 x8 x9 x59 x60 x61 : Value) : WP :=
  pv (bin .lss x61 x60) fun v77 =>
  cnd v77 (
   F3_j14 R k1 x5 x7 x8 x9 x59 x60 x61) (
   F3_j2 R x5 x7 x8 x9)
theorem F3_b3_ok (R : ER) (k1 : V7) (e : Env) : den Pg R (cd Try.f3 [1,1,1,1,1,0,1,0,0]) e (setN (inB 0 (setN (kont Pg R Try.f3) (fun e => F3_j2 R (e 5) (e 7) (e 8) (e 9)))) (fun e => k1 (e 5) (e 7) (e 8) (e 9) (e 59) (e 60) (e 61))) = (F3_b3 R k1 (e 5) (e 7) (e 8) (e 9) (e 59) (e 60) (e 61)) := (den_join Pg R 1 (cd Try.f3 [1,1,1,1,1,0,1,0,0]) (cd Try.f3 [1,1,1,1,1,0,1,0,0,1,1]) e (setN (inB 0 (setN (kont Pg R Try.f3) (fun e => F3_j2 R (e 5) (e 7) (e 8) (e 9)))) (fun e => k1 (e 5) (e 7) (e 8) (e 9) (e 59) (e 60) (e 61))) (fun e => F3_j14 R k1 (e 5) (e 7) (e 8) (e 9) (e 59) (e 60) (e 61)) _ (by kernel_rfl) (fun e => F3_j14_ok R k1 e) (by kernel_rfl))
noncomputable def F3_l4 (R : ER) (n : Nat) : V7 := Nat.rec (motive := fun _ => V7) (fun _ _ _ _ _ _ _ => fun _ => False) (fun _ ih => fun x5 x7 x8 x9 x59 x60 x61 => F3_b3 R ih x5 x7 x8 x9 x59 x60 x61) n
theorem F3_l4_succ (R : ER) (n : Nat) (x5 x7 x8 x9 x59 x60 x61 : Value) : F3_l4 R (n + 1) x5 x7 x8 x9 x59 x60 x61 = F3_b3 R (F3_l4 R n) x5 x7 x8 x9 x59 x60 x61 := rfl
theorem F3_l4_ok (R : ER) : ∀ (n : Nat) (e : Env), iterL (den Pg R (cd Try.f3 [1,1,1,1,1,0,1,0,0])) n e (inB 0 (setN (kont Pg R Try.f3) (fun e => F3_j2 R (e 5) (e 7) (e 8) (e 9)))) = F3_l4 R n (e 5) (e 7) (e 8) (e 9) (e 59) (e 60) (e 61) :=
  iterL_join (den Pg R (cd Try.f3 [1,1,1,1,1,0,1,0,0])) (inB 0 (setN (kont Pg R Try.f3) (fun e => F3_j2 R (e 5) (e 7) (e 8) (e 9)))) (fun n e => F3_l4 R n (e 5) (e 7) (e 8) (e 9) (e 59) (e 60) (e 61)) (fun _ => rfl) (fun n e => (F3_b3_ok R (F3_l4 R n) e).trans (F3_l4_succ R n (e 5) (e 7) (e 8) (e 9) (e 59) (e 60) (e 61)).symm)
def F3_j13 (R : ER) (x5 x7 x8 x9 x59 x60 x61 : Value) : WP :=
  exN fun n => F3_l4 R n x5 x7 x8 x9 x59 x60 x61
theorem F3_j13_ok (R : ER) (e : Env) : den Pg R (cd Try.f3 [1,1,1,1,1,0,1]) e (setN (kont Pg R Try.f3) (fun e => F3_j2 R (e 5) (e 7) (e 8) (e 9))) = (F3_j13 R (e 5) (e 7) (e 8) (e 9) (e 59) (e 60) (e 61)) := (den_block Pg R (cd Try.f3 [1,1,1,1,1,0,1]) 0 (cd Try.f3 [1,1,1,1,1,0,1,0]) e (setN (kont Pg R Try.f3) (fun e => F3_j2 R (e 5) (e 7) (e 8) (e 9))) _ (by kernel_rfl) (den_loop Pg R (cd Try.f3 [1,1,1,1,1,0,1,0]) (cd Try.f3 [1,1,1,1,1,0,1,0,0]) e (inB 0 (setN (kont Pg R Try.f3) (fun e => F3_j2 R (e 5) (e 7) (e 8) (e 9)))) (fun n e => F3_l4 R n (e 5) (e 7) (e 8) (e 9) (e 59) (e 60) (e 61)) _ (by kernel_rfl) (F3_l4_ok R) (by kernel_rfl)))
def F3_j12 (R : ER) (x1 x5 x7 x8 x9 : Value) : WP :=
  pv (lenS x1) fun v78 =>
  F3_j13 R x5 x7 x8 x9 x1 v78 (.int .i64 0)
theorem F3_j12_ok (R : ER) (e : Env) : den Pg R (cd Try.f3 [1,1,1,1,1,0]) e (setN (kont Pg R Try.f3) (fun e => F3_j2 R (e 5) (e 7) (e 8) (e 9))) = (F3_j12 R (e 1) (e 5) (e 7) (e 8) (e 9)) := (den_join Pg R 0 (cd Try.f3 [1,1,1,1,1,0]) (cd Try.f3 [1,1,1,1,1,0,1]) e (setN (kont Pg R Try.f3) (fun e => F3_j2 R (e 5) (e 7) (e 8) (e 9))) (fun e => F3_j13 R (e 5) (e 7) (e 8) (e 9) (e 59) (e 60) (e 61)) _ (by kernel_rfl) (fun e => F3_j13_ok R e) (by kernel_rfl))
def F3_j1 (R : ER) (x1 x5 : Value) : WP :=
  valV Pg R (Instr.makeMap 28 none) fun v79 =>
  valV Pg R (Instr.makeMap 28 none) fun v80 =>
  al Pg 28 fun v81 =>
  st1 v81 v80 fun _ =>
  F3_j12 R x1 x5 v79 v81 (.func (.func 9) ⟨[]⟩ ⟨[v81]⟩)
theorem F3_j1_ok (R : ER) (e : Env) : den Pg R (cd Try.f3 [1,1,1]) e (kont Pg R Try.f3) = (F3_j1 R (e 1) (e 5)) := (den_join Pg R 2 (cd Try.f3 [1,1,1]) (cd Try.f3 [1,1,1,1,1,1]) e (kont Pg R Try.f3) (fun e => F3_j2 R (e 5) (e 7) (e 8) (e 9)) _ (by kernel_rfl) (fun e => F3_j2_ok R e) (den_join Pg R 1 (pre 2 (cd Try.f3 [1,1,1])) (cd Try.f3 [1,1,1,1,1,0]) e (setN (kont Pg R Try.f3) (fun e => F3_j2 R (e 5) (e 7) (e 8) (e 9))) (fun e => F3_j12 R (e 1) (e 5) (e 7) (e 8) (e 9)) _ (by kernel_rfl) (fun e => F3_j12_ok R e) (by kernel_rfl)))
def F3_j26 (R : ER) (x1 x5 x6 : Value) : WP :=
  pv (lenS x1) fun v82 =>
  pv (bin .gtr v82 (.int .i64 80)) fun v83 =>
  gd v83 false (cal Pg R 8 ⟨[]⟩) fun v84 =>
  gd v83 false (pv (unO .not v84)) fun v85 =>
  pv (pickO v83 (.bool true) v85) fun v86 =>
  gd v86 false (pv (some x6)) fun v87 =>
  gd v86 false (pv (bin .neq v87 (.int .i64 0))) fun v88 =>
  pv (pickO v86 (.bool true) v88) fun v89 =>
  cnd v89 (
   cal Pg R 8 ⟨[]⟩ fun v90 =>
   gd v90 true (pv (some x6)) fun v91 =>
   gd v90 true (pv (bin .eql v91 (.int .i64 0))) fun v92 =>
   pv (pickO v90 v92 (.bool false)) fun v93 =>
   R (.returned v93)) (
   F3_j1 R x1 x5)
theorem F3_j26_ok (R : ER) (e : Env) : den Pg R (cd Try.f3 [1,1,0]) e (setN (kont Pg R Try.f3) (fun e => F3_j1 R (e 1) (e 5))) = (F3_j26 R (e 1) (e 5) (e 6)) := (by kernel_rfl)
def F3 (R : ER) (x0 x1 : Value) : WP :=
  pv (bin .rem x0 (.int .u8 64)) fun v94 =>
  pv (cvI .i64 v94) fun v95 =>
  pv (bin .add (.int .i64 1) v95) fun v96 =>
  cal Pg R 7 ⟨[v96, (.int .i64 8)]⟩ fun v97 =>
  pv (extO 0 v97) fun v98 =>
  pv (extO 1 v97) fun v99 =>
  F3_j26 R x1 v98 v99
theorem F3_den (R : ER) (x0 x1 : Value) : den Pg R (cd Try.f3 []) (argsEnv [x0, x1]) (kont Pg R Try.f3) = F3 R x0 x1 :=
  have h : ∀ e, den Pg R (cd Try.f3 []) e (kont Pg R Try.f3) = F3 R (e 0) (e 1) := fun e => (den_join Pg R 2 (cd Try.f3 []) (cd Try.f3 [1,1,1]) e (kont Pg R Try.f3) (fun e => F3_j1 R (e 1) (e 5)) _ (by kernel_rfl) (fun e => F3_j1_ok R e) (den_join Pg R 1 (pre 2 (cd Try.f3 [])) (cd Try.f3 [1,1,0]) e (setN (kont Pg R Try.f3) (fun e => F3_j1 R (e 1) (e 5))) (fun e => F3_j26 R (e 1) (e 5) (e 6)) _ (by kernel_rfl) (fun e => F3_j26_ok R e) (by kernel_rfl)))
  h _
theorem F3_calls {R : ER} {x0 x1 : Value} {w : World} (h : F3 R x0 x1 w) : Calls Pg 3 ⟨[x0, x1]⟩ w R :=
  calls_of_den Try.func3 (by kernel_rfl) (by kernel_rfl) (F3_den R x0 x1) h
/-! ### 4: orpimentlaw25_MqueueOrders -/
def F4_j3 (R : ER) (x3 : Value) : WP :=
  cal Pg R 11 ⟨[x3, (.int .i64 2), (.bool false), (.int .i64 0)]⟩ fun v1 =>
  pv (extO 0 v1) fun v2 =>
  pv (extO 1 v1) fun v3 =>
  pv (extO 2 v1) fun v4 =>
  pv (extO 3 v1) fun v5 =>
  pv (extO 4 v1) fun v6 =>
  al Pg 30 fun v7 =>
  stN 2 v7 v2 fun _ =>
  pv (bin .eql v6 (.int .i64 2)) fun v8 =>
  R (.returned v8)
theorem F4_j3_ok (R : ER) (e : Env) : den Pg R (cd Try.f4 [1,1,1,1,1,1,1]) e (kont Pg R Try.f4) = (F4_j3 R (e 3)) := by kernel_rfl
def F4_j6 (R : ER) (k1 : V4) (x3 x78 x79 x80 : Value) : WP :=
  pv (ixS 2 x78 x80) fun v9 =>
  ldN 2 v9 fun v10 =>
  al Pg 43 fun v11 =>
  stN 2 v11 v10 fun _ =>
  cal Pg R 11 ⟨[x3, (.int .i64 2), (.bool false), (.int .i64 0)]⟩ fun v12 =>
  pv (extO 0 v12) fun v13 =>
  pv (extO 1 v12) fun v14 =>
  pv (extO 2 v12) fun v15 =>
  pv (extO 3 v12) fun v16 =>
  pv (extO 4 v12) fun v17 =>
  al Pg 30 fun v18 =>
  stN 2 v18 v13 fun _ =>
  pv (bin .neq v17 (.int .i64 0)) fun v19 =>
  gd v19 false (pv (some v14)) fun v20 =>
  pv (pickO v19 (.bool true) v20) fun v21 =>
  gd v21 false (pv (faO 0 v18)) fun v22 =>
  gd v21 false (ld1 v22) fun v23 =>
  gd v21 false (pv (faO 0 v11)) fun v24 =>
  gd v21 false (ld1 v24) fun v25 =>
  gd v21 false (pv (bin .neq v23 v25)) fun v26 =>
  pv (pickO v21 (.bool true) v26) fun v27 =>
  gd v27 false (pv (faO 1 v18)) fun v28 =>
  gd v27 false (ld1 v28) fun v29 =>
  gd v27 false (pv (faO 1 v11)) fun v30 =>
  gd v27 false (ld1 v30) fun v31 =>
  gd v27 false (pv (cvI .u8 v31)) fun v32 =>
  gd v27 false (valV Pg R (Instr.buildSlice 22 1 ⟨[(0, v32)]⟩)) fun v33 =>
  gd v27 false (cal Pg R 14 ⟨[v29, v33]⟩) fun v34 =>
  gd v27 false (pv (unO .not v34)) fun v35 =>
  pv (pickO v27 (.bool true) v35) fun v36 =>
  cnd v36 (
   R (.returned (.bool false))) (
   pv (bin .add x80 (.int .i64 1)) fun v37 =>
  k1 x3 x78 x79 v37)
theorem F4_j6_ok (R : ER) (k1 : V4) (e : Env) : den Pg R (cd Try.f4 [1,1,1,1,1,1,0,1,0,0,1,1]) e (setN (inB 2 (setN (kont Pg R Try.f4) (fun e => F4_j3 R (e 3)))) (fun e => k1 (e 3) (e 78) (e 79) (e 80))) = (F4_j6 R k1 (e 3) (e 78) (e 79) (e 80)) := (by kernel_rfl)
def F4_b1 (R : ER) (k1 : V4) (x3 x78 x79 x80 : Value) : WP :=
  pv (bin .lss x80 x79) fun v38 =>
  cnd v38 (
   F4_j6 R k1 x3 x78 x79 x80) (
   F4_j3 R x3)
theorem F4_b1_ok (R : ER) (k1 : V4) (e : Env) : den Pg R (cd Try.f4 [1,1,1,1,1,1,0,1,0,0]) e (setN (inB 2 (setN (kont Pg R Try.f4) (fun e => F4_j3 R (e 3)))) (fun e => k1 (e 3) (e 78) (e 79) (e 80))) = (F4_b1 R k1 (e 3) (e 78) (e 79) (e 80)) := (den_join Pg R 1 (cd Try.f4 [1,1,1,1,1,1,0,1,0,0]) (cd Try.f4 [1,1,1,1,1,1,0,1,0,0,1,1]) e (setN (inB 2 (setN (kont Pg R Try.f4) (fun e => F4_j3 R (e 3)))) (fun e => k1 (e 3) (e 78) (e 79) (e 80))) (fun e => F4_j6 R k1 (e 3) (e 78) (e 79) (e 80)) _ (by kernel_rfl) (fun e => F4_j6_ok R k1 e) (by kernel_rfl))
noncomputable def F4_l1 (R : ER) (n : Nat) : V4 := Nat.rec (motive := fun _ => V4) (fun _ _ _ _ => fun _ => False) (fun _ ih => fun x3 x78 x79 x80 => F4_b1 R ih x3 x78 x79 x80) n
theorem F4_l1_succ (R : ER) (n : Nat) (x3 x78 x79 x80 : Value) : F4_l1 R (n + 1) x3 x78 x79 x80 = F4_b1 R (F4_l1 R n) x3 x78 x79 x80 := rfl
theorem F4_l1_ok (R : ER) : ∀ (n : Nat) (e : Env), iterL (den Pg R (cd Try.f4 [1,1,1,1,1,1,0,1,0,0])) n e (inB 2 (setN (kont Pg R Try.f4) (fun e => F4_j3 R (e 3)))) = F4_l1 R n (e 3) (e 78) (e 79) (e 80) :=
  iterL_join (den Pg R (cd Try.f4 [1,1,1,1,1,1,0,1,0,0])) (inB 2 (setN (kont Pg R Try.f4) (fun e => F4_j3 R (e 3)))) (fun n e => F4_l1 R n (e 3) (e 78) (e 79) (e 80)) (fun _ => rfl) (fun n e => (F4_b1_ok R (F4_l1 R n) e).trans (F4_l1_succ R n (e 3) (e 78) (e 79) (e 80)).symm)
def F4_j5 (R : ER) (x3 x78 x79 x80 : Value) : WP :=
  exN fun n => F4_l1 R n x3 x78 x79 x80
theorem F4_j5_ok (R : ER) (e : Env) : den Pg R (cd Try.f4 [1,1,1,1,1,1,0,1]) e (setN (kont Pg R Try.f4) (fun e => F4_j3 R (e 3))) = (F4_j5 R (e 3) (e 78) (e 79) (e 80)) := (den_block Pg R (cd Try.f4 [1,1,1,1,1,1,0,1]) 2 (cd Try.f4 [1,1,1,1,1,1,0,1,0]) e (setN (kont Pg R Try.f4) (fun e => F4_j3 R (e 3))) _ (by kernel_rfl) (den_loop Pg R (cd Try.f4 [1,1,1,1,1,1,0,1,0]) (cd Try.f4 [1,1,1,1,1,1,0,1,0,0]) e (inB 2 (setN (kont Pg R Try.f4) (fun e => F4_j3 R (e 3)))) (fun n e => F4_l1 R n (e 3) (e 78) (e 79) (e 80)) _ (by kernel_rfl) (F4_l1_ok R) (by kernel_rfl)))
def F4_j4 (R : ER) (x3 x5 : Value) : WP :=
  pv (lenS x5) fun v39 =>
  F4_j5 R x3 x5 v39 (.int .i64 0)
theorem F4_j4_ok (R : ER) (e : Env) : den Pg R (cd Try.f4 [1,1,1,1,1,1,0]) e (setN (kont Pg R Try.f4) (fun e => F4_j3 R (e 3))) = (F4_j4 R (e 3) (e 5)) := (den_join Pg R 0 (cd Try.f4 [1,1,1,1,1,1,0]) (cd Try.f4 [1,1,1,1,1,1,0,1]) e (setN (kont Pg R Try.f4) (fun e => F4_j3 R (e 3))) (fun e => F4_j5 R (e 3) (e 78) (e 79) (e 80)) _ (by kernel_rfl) (fun e => F4_j5_ok R e) (by kernel_rfl))
def F4_j2 (R : ER) (x3 x5 : Value) : WP :=
  cal Pg R 12 ⟨[x5, (.func (.func 13) ⟨[]⟩ ⟨[]⟩)]⟩ fun v40 =>
  F4_j4 R x3 x5
theorem F4_j2_ok (R : ER) (e : Env) : den Pg R (cd Try.f4 [1,1,1,1,1]) e (kont Pg R Try.f4) = (F4_j2 R (e 3) (e 5)) := (den_join Pg R 1 (cd Try.f4 [1,1,1,1,1]) (cd Try.f4 [1,1,1,1,1,1,1]) e (kont Pg R Try.f4) (fun e => F4_j3 R (e 3)) _ (by kernel_rfl) (fun e => F4_j3_ok R e) (den_join Pg R 0 (pre 1 (cd Try.f4 [1,1,1,1,1])) (cd Try.f4 [1,1,1,1,1,1,0]) e (setN (kont Pg R Try.f4) (fun e => F4_j3 R (e 3))) (fun e => F4_j4 R (e 3) (e 5)) _ (by kernel_rfl) (fun e => F4_j4_ok R e) (by kernel_rfl)))
def F4_j9 (R : ER) (k1 : V5) (x3 x5 x44 x45 x46 : Value) : WP :=
  pv (ixS 1 x44 x46) fun v41 =>
  ld1 v41 fun v42 =>
  pv (bin .rem v42 (.int .u8 32)) fun v43 =>
  pv (cvI .i64 v43) fun v44 =>
  pv (cvI .u8 x46) fun v45 =>
  valV Pg R (Instr.buildSlice 22 1 ⟨[(0, v45)]⟩) fun v46 =>
  pv (bldO [.int .i64 0, .slice none 0 0] [(0,1, v44), (1,1, v46)]) fun v47 =>
  cal Pg R 10 ⟨[x3, (.int .i64 1), v47, (.bool false), (.int .i64 0)]⟩ fun v48 =>
  pv (extO 0 v48) fun v49 =>
  pv (extO 1 v48) fun v50 =>
  pv (extO 2 v48) fun v51 =>
  pv (extO 3 v48) fun v52 =>
  pv (bin .neq v52 (.int .i64 0)) fun v53 =>
  cnd v53 (
   R (.returned (.bool false))) (
   pv (bin .rem v42 (.int .u8 32)) fun v54 =>
  pv (cvI .i64 v54) fun v55 =>
  pv (bldO [.int .i64 0, .int .i64 0] [(0,1, v55), (1,1, x46)]) fun v56 =>
  valV Pg R (Instr.buildSlice 41 1 ⟨[(0, v56)]⟩) fun v57 =>
  blt Pg R .append ⟨[41,41]⟩ 41 ⟨[false, false]⟩ ⟨[x5, v57]⟩ fun v58 =>
  pv (bin .add x46 (.int .i64 1)) fun v59 =>
  k1 x3 v58 x44 x45 v59)
theorem F4_j9_ok (R : ER) (k1 : V5) (e : Env) : den Pg R (cd Try.f4 [1,1,1,1,0,1,0,0,1,1]) e (setN (inB 0 (setN (kont Pg R Try.f4) (fun e => F4_j2 R (e 3) (e 5)))) (fun e => k1 (e 3) (e 5) (e 44) (e 45) (e 46))) = (F4_j9 R k1 (e 3) (e 5) (e 44) (e 45) (e 46)) := (by kernel_rfl)
def F4_b2 (R : ER) (k1 : V5) (x3 x5 x44 x45 x46 : Value) : WP :=
  pv (bin .lss x46 x45) fun v60 =>
  cnd v60 (
   F4_j9 R k1 x3 x5 x44 x45 x46) (
   F4_j2 R x3 x5)
theorem F4_b2_ok (R : ER) (k1 : V5) (e : Env) : den Pg R (cd Try.f4 [1,1,1,1,0,1,0,0]) e (setN (inB 0 (setN (kont Pg R Try.f4) (fun e => F4_j2 R (e 3) (e 5)))) (fun e => k1 (e 3) (e 5) (e 44) (e 45) (e 46))) = (F4_b2 R k1 (e 3) (e 5) (e 44) (e 45) (e 46)) := (den_join Pg R 1 (cd Try.f4 [1,1,1,1,0,1,0,0]) (cd Try.f4 [1,1,1,1,0,1,0,0,1,1]) e (setN (inB 0 (setN (kont Pg R Try.f4) (fun e => F4_j2 R (e 3) (e 5)))) (fun e => k1 (e 3) (e 5) (e 44) (e 45) (e 46))) (fun e => F4_j9 R k1 (e 3) (e 5) (e 44) (e 45) (e 46)) _ (by kernel_rfl) (fun e => F4_j9_ok R k1 e) (by kernel_rfl))
noncomputable def F4_l2 (R : ER) (n : Nat) : V5 := Nat.rec (motive := fun _ => V5) (fun _ _ _ _ _ => fun _ => False) (fun _ ih => fun x3 x5 x44 x45 x46 => F4_b2 R ih x3 x5 x44 x45 x46) n
theorem F4_l2_succ (R : ER) (n : Nat) (x3 x5 x44 x45 x46 : Value) : F4_l2 R (n + 1) x3 x5 x44 x45 x46 = F4_b2 R (F4_l2 R n) x3 x5 x44 x45 x46 := rfl
theorem F4_l2_ok (R : ER) : ∀ (n : Nat) (e : Env), iterL (den Pg R (cd Try.f4 [1,1,1,1,0,1,0,0])) n e (inB 0 (setN (kont Pg R Try.f4) (fun e => F4_j2 R (e 3) (e 5)))) = F4_l2 R n (e 3) (e 5) (e 44) (e 45) (e 46) :=
  iterL_join (den Pg R (cd Try.f4 [1,1,1,1,0,1,0,0])) (inB 0 (setN (kont Pg R Try.f4) (fun e => F4_j2 R (e 3) (e 5)))) (fun n e => F4_l2 R n (e 3) (e 5) (e 44) (e 45) (e 46)) (fun _ => rfl) (fun n e => (F4_b2_ok R (F4_l2 R n) e).trans (F4_l2_succ R n (e 3) (e 5) (e 44) (e 45) (e 46)).symm)
def F4_j8 (R : ER) (x3 x5 x44 x45 x46 : Value) : WP :=
  exN fun n => F4_l2 R n x3 x5 x44 x45 x46
theorem F4_j8_ok (R : ER) (e : Env) : den Pg R (cd Try.f4 [1,1,1,1,0,1]) e (setN (kont Pg R Try.f4) (fun e => F4_j2 R (e 3) (e 5))) = (F4_j8 R (e 3) (e 5) (e 44) (e 45) (e 46)) := (den_block Pg R (cd Try.f4 [1,1,1,1,0,1]) 0 (cd Try.f4 [1,1,1,1,0,1,0]) e (setN (kont Pg R Try.f4) (fun e => F4_j2 R (e 3) (e 5))) _ (by kernel_rfl) (den_loop Pg R (cd Try.f4 [1,1,1,1,0,1,0]) (cd Try.f4 [1,1,1,1,0,1,0,0]) e (inB 0 (setN (kont Pg R Try.f4) (fun e => F4_j2 R (e 3) (e 5)))) (fun n e => F4_l2 R n (e 3) (e 5) (e 44) (e 45) (e 46)) _ (by kernel_rfl) (F4_l2_ok R) (by kernel_rfl)))
def F4_j7 (R : ER) (x0 x3 x5 : Value) : WP :=
  pv (lenS x0) fun v61 =>
  F4_j8 R x3 x5 x0 v61 (.int .i64 0)
theorem F4_j7_ok (R : ER) (e : Env) : den Pg R (cd Try.f4 [1,1,1,1,0]) e (setN (kont Pg R Try.f4) (fun e => F4_j2 R (e 3) (e 5))) = (F4_j7 R (e 0) (e 3) (e 5)) := (den_join Pg R 0 (cd Try.f4 [1,1,1,1,0]) (cd Try.f4 [1,1,1,1,0,1]) e (setN (kont Pg R Try.f4) (fun e => F4_j2 R (e 3) (e 5))) (fun e => F4_j8 R (e 3) (e 5) (e 44) (e 45) (e 46)) _ (by kernel_rfl) (fun e => F4_j8_ok R e) (by kernel_rfl))
def F4_j1 (R : ER) (x0 x3 : Value) : WP :=
  F4_j7 R x0 x3 (.slice none 0 0)
theorem F4_j1_ok (R : ER) (e : Env) : den Pg R (cd Try.f4 [1,1,1]) e (kont Pg R Try.f4) = (F4_j1 R (e 0) (e 3)) := (den_join Pg R 1 (cd Try.f4 [1,1,1]) (cd Try.f4 [1,1,1,1,1]) e (kont Pg R Try.f4) (fun e => F4_j2 R (e 3) (e 5)) _ (by kernel_rfl) (fun e => F4_j2_ok R e) (den_join Pg R 0 (pre 1 (cd Try.f4 [1,1,1])) (cd Try.f4 [1,1,1,1,0]) e (setN (kont Pg R Try.f4) (fun e => F4_j2 R (e 3) (e 5))) (fun e => F4_j7 R (e 0) (e 3) (e 5)) _ (by kernel_rfl) (fun e => F4_j7_ok R e) (by kernel_rfl)))
def F4_j10 (R : ER) (x0 x3 x4 : Value) : WP :=
  pv (lenS x0) fun v62 =>
  pv (bin .gtr v62 (.int .i64 64)) fun v63 =>
  gd v63 false (cal Pg R 8 ⟨[]⟩) fun v64 =>
  gd v63 false (pv (unO .not v64)) fun v65 =>
  pv (pickO v63 (.bool true) v65) fun v66 =>
  gd v66 false (pv (some x4)) fun v67 =>
  gd v66 false (pv (bin .neq v67 (.int .i64 0))) fun v68 =>
  pv (pickO v66 (.bool true) v68) fun v69 =>
  cnd v69 (
   cal Pg R 8 ⟨[]⟩ fun v70 =>
   gd v70 true (pv (some x4)) fun v71 =>
   gd v70 true (pv (bin .eql v71 (.int .i64 0))) fun v72 =>
   pv (pickO v70 v72 (.bool false)) fun v73 =>
   R (.returned v73)) (
   F4_j1 R x0 x3)
theorem F4_j10_ok (R : ER) (e : Env) : den Pg R (cd Try.f4 [1,1,0]) e (setN (kont Pg R Try.f4) (fun e => F4_j1 R (e 0) (e 3))) = (F4_j10 R (e 0) (e 3) (e 4)) := (by kernel_rfl)
def F4 (R : ER) (x0 : Value) : WP :=
  cal Pg R 7 ⟨[(.int .i64 64), (.int .i64 8)]⟩ fun v74 =>
  pv (extO 0 v74) fun v75 =>
  pv (extO 1 v74) fun v76 =>
  F4_j10 R x0 v75 v76
theorem F4_den (R : ER) (x0 : Value) : den Pg R (cd Try.f4 []) (argsEnv [x0]) (kont Pg R Try.f4) = F4 R x0 :=
  have h : ∀ e, den Pg R (cd Try.f4 []) e (kont Pg R Try.f4) = F4 R (e 0) := fun e => (den_join Pg R 2 (cd Try.f4 []) (cd Try.f4 [1,1,1]) e (kont Pg R Try.f4) (fun e => F4_j1 R (e 0) (e 3)) _ (by kernel_rfl) (fun e => F4_j1_ok R e) (den_join Pg R 1 (pre 2 (cd Try.f4 [])) (cd Try.f4 [1,1,0]) e (setN (kont Pg R Try.f4) (fun e => F4_j1 R (e 0) (e 3))) (fun e => F4_j10 R (e 0) (e 3) (e 4)) _ (by kernel_rfl) (fun e => F4_j10_ok R e) (by kernel_rfl)))
  h _
theorem F4_calls {R : ER} {x0 : Value} {w : World} (h : F4 R x0 w) : Calls Pg 4 ⟨[x0]⟩ w R :=
  calls_of_den Try.func4 (by kernel_rfl) (by kernel_rfl) (F4_den R x0) h
/-! ### 5: orpimentlaw25_MqueueTimes -/
def F5_j6 (R : ER) (x5 x11 x13 : Value) : WP :=
  pv (bin .eql x13 (.int .i64 0)) fun v1 =>
  gd v1 true (pv (some x11)) fun v2 =>
  gd v1 true (pv (lenS v2)) fun v3 =>
  gd v1 true (pv (bin .eql v3 (.int .i64 1))) fun v4 =>
  pv (pickO v1 v4 (.bool false)) fun v5 =>
  gd v5 true (pv (some x11)) fun v6 =>
  gd v5 true (pv (ixS 4 v6 (.int .i64 0))) fun v7 =>
  gd v5 true (pv (faO 0 v7)) fun v8 =>
  gd v5 true (ld1 v8) fun v9 =>
  gd v5 true (pv (bin .eql v9 (.int .i64 2))) fun v10 =>
  pv (pickO v5 v10 (.bool false)) fun v11 =>
  gd v11 true (pv (some x11)) fun v12 =>
  gd v11 true (pv (ixS 4 v12 (.int .i64 0))) fun v13 =>
  gd v11 true (pv (faO 3 v13)) fun v14 =>
  gd v11 true (ld1 v14) fun v15 =>
  gd v11 true (pv (bin .eql v15 (.int .i64 37))) fun v16 =>
  pv (pickO v11 v16 (.bool false)) fun v17 =>
  gd v17 true (pv (some x5)) fun v18 =>
  gd v17 true (cal Pg R 16 ⟨[v18]⟩) fun v19 =>
  gd v17 true (pv (lenS v19)) fun v20 =>
  gd v17 true (pv (some x5)) fun v21 =>
  gd v17 true (cal Pg R 17 ⟨[v21]⟩) fun v22 =>
  gd v17 true (pv (lenS v22)) fun v23 =>
  gd v17 true (pv (bin .add v20 v23)) fun v24 =>
  gd v17 true (pv (bin .eql v24 (.int .i64 0))) fun v25 =>
  pv (pickO v17 v25 (.bool false)) fun v26 =>
  R (.returned v26)
theorem F5_j6_ok (R : ER) (e : Env) : den Pg R (cd Try.f5 [1,1,1,1,1,1,1,1,1,1]) e (kont Pg R Try.f5) = (F5_j6 R (e 5) (e 11) (e 13)) := by kernel_rfl
def F5_j5 (R : ER) (x0 x5 : Value) : WP :=
  cal Pg R 15 ⟨[x5, x0]⟩ fun v27 =>
  pv (extO 0 v27) fun v28 =>
  pv (extO 1 v27) fun v29 =>
  pv (extO 2 v27) fun v30 =>
  pv (bin .eql x0 (.int .i64 0)) fun v31 =>
  cnd v31 (
   pv (bin .eql v30 (.int .i64 0)) fun v32 =>
   gd v32 true (pv (some v28)) fun v33 =>
   gd v32 true (pv (lenS v33)) fun v34 =>
   gd v32 true (pv (bin .eql v34 (.int .i64 0))) fun v35 =>
   pv (pickO v32 v35 (.bool false)) fun v36 =>
   R (.returned v36)) (
   F5_j6 R x5 v28 v30)
theorem F5_j5_ok (R : ER) (e : Env) : den Pg R (cd Try.f5 [1,1,1,1,1,1,1,1]) e (kont Pg R Try.f5) = (F5_j5 R (e 0) (e 5)) := (den_join Pg R 1 (cd Try.f5 [1,1,1,1,1,1,1,1]) (cd Try.f5 [1,1,1,1,1,1,1,1,1,1]) e (kont Pg R Try.f5) (fun e => F5_j6 R (e 5) (e 11) (e 13)) _ (by kernel_rfl) (fun e => F5_j6_ok R e) (by kernel_rfl))
def F5_j9 (R : ER) (x0 x5 : Value) : WP :=
  pv (bin .sub x0 (.int .i64 1)) fun v37 =>
  cal Pg R 15 ⟨[x5, v37]⟩ fun v38 =>
  pv (extO 0 v38) fun v39 =>
  pv (extO 1 v38) fun v40 =>
  pv (extO 2 v38) fun v41 =>
  pv (lenS v39) fun v42 =>
  pv (bin .gtr v42 (.int .i64 0)) fun v43 =>
  gd v43 false (pv (some v41)) fun v44 =>
  gd v43 false (pv (bin .neq v44 (.int .i64 0))) fun v45 =>
  pv (pickO v43 (.bool true) v45) fun v46 =>
  cnd v46 (
   R (.returned (.bool false))) (
   F5_j5 R x0 x5)
theorem F5_j9_ok (R : ER) (e : Env) : den Pg R (cd Try.f5 [1,1,1,1,1,1,1,0,1,0]) e (setN (kont Pg R Try.f5) (fun e => F5_j5 R (e 0) (e 5))) = (F5_j9 R (e 0) (e 5)) := (by kernel_rfl)
def F5_j8 (R : ER) (x0 x5 x62 : Value) : WP :=
  cnd x62 (F5_j9 R x0 x5) (F5_j5 R x0 x5)
theorem F5_j8_ok (R : ER) (e : Env) : den Pg R (cd Try.f5 [1,1,1,1,1,1,1,0,1]) e (setN (kont Pg R Try.f5) (fun e => F5_j5 R (e 0) (e 5))) = (F5_j8 R (e 0) (e 5) (e 62)) := (den_if Pg R (cd Try.f5 [1,1,1,1,1,1,1,0,1]) (cd Try.f5 [1,1,1,1,1,1,1,0,1,0]) (cd Try.f5 [1,1,1,1,1,1,1,0,1,1]) e (setN (kont Pg R Try.f5) (fun e => F5_j5 R (e 0) (e 5))) (F5_j9 R (e 0) (e 5)) _ _ (by kernel_rfl) (F5_j9_ok R e) rfl (by kernel_rfl))
def F5_j7 (R : ER) (x0 x5 : Value) : WP :=
  pv (bin .gtr x0 (.int .i64 0)) fun v47 =>
  F5_j8 R x0 x5 v47
theorem F5_j7_ok (R : ER) (e : Env) : den Pg R (cd Try.f5 [1,1,1,1,1,1,1,0]) e (setN (kont Pg R Try.f5) (fun e => F5_j5 R (e 0) (e 5))) = (F5_j7 R (e 0) (e 5)) := (den_join Pg R 0 (cd Try.f5 [1,1,1,1,1,1,1,0]) (cd Try.f5 [1,1,1,1,1,1,1,0,1]) e (setN (kont Pg R Try.f5) (fun e => F5_j5 R (e 0) (e 5))) (fun e => F5_j8 R (e 0) (e 5) (e 62)) _ (by kernel_rfl) (fun e => F5_j8_ok R e) (by kernel_rfl))
def F5_j4 (R : ER) (x0 x5 : Value) : WP :=
  F5_j7 R x0 x5
theorem F5_j4_ok (R : ER) (e : Env) : den Pg R (cd Try.f5 [1,1,1,1,1,1,1]) e (kont Pg R Try.f5) = (F5_j4 R (e 0) (e 5)) := (den_join Pg R 0 (cd Try.f5 [1,1,1,1,1,1,1]) (cd Try.f5 [1,1,1,1,1,1,1,1]) e (kont Pg R Try.f5) (fun e => F5_j5 R (e 0) (e 5)) _ (by kernel_rfl) (fun e => F5_j5_ok R e) (den_conv Pg R (pre 0 (cd Try.f5 [1,1,1,1,1,1,1])) (cd Try.f5 [1,1,1,1,1,1,1,0]) e (setN (kont Pg R Try.f5) (fun e => F5_j5 R (e 0) (e 5))) _ (by kernel_rfl) (F5_j7_ok R e)))
def F5_j3 (R : ER) (x0 x5 x7 : Value) : WP :=
  pv (bin .neq x7 (.int .i64 0)) fun v48 =>
  cnd v48 (
   R (.returned (.bool false))) (
   F5_j4 R x0 x5)
theorem F5_j3_ok (R : ER) (e : Env) : den Pg R (cd Try.f5 [1,1,1,1,1,1]) e (kont Pg R Try.f5) = (F5_j3 R (e 0) (e 5) (e 7)) := (den_join Pg R 0 (cd Try.f5 [1,1,1,1,1,1]) (cd Try.f5 [1,1,1,1,1,1,1]) e (kont Pg R Try.f5) (fun e => F5_j4 R (e 0) (e 5)) _ (by kernel_rfl) (fun e => F5_j4_ok R e) (by kernel_rfl))
def F5_j2 (R : ER) (x0 x5 x7 : Value) : WP :=
  pv (bin .lss x0 (.int .i64 0)) fun v49 =>
  gd v49 false (pv (some x0)) fun v50 =>
  gd v49 false (pv (bin .gtr v50 (.int .i64 1099511627776))) fun v51 =>
  pv (pickO v49 (.bool true) v51) fun v52 =>
  cnd v52 (
   pv (bin .eql x7 (.int .i64 34)) fun v53 =>
   R (.returned v53)) (
   F5_j3 R x0 x5 x7)
theorem F5_j2_ok (R : ER) (e : Env) : den Pg R (cd Try.f5 [1,1,1,1,1]) e (kont Pg R Try.f5) = (F5_j2 R (e 0) (e 5) (e 7)) := (den_join Pg R 0 (cd Try.f5 [1,1,1,1,1]) (cd Try.f5 [1,1,1,1,1,1]) e (kont Pg R Try.f5) (fun e => F5_j3 R (e 0) (e 5) (e 7)) _ (by kernel_rfl) (fun e => F5_j3_ok R e) (by kernel_rfl))
def F5_j12 (R : ER) (x0 x5 : Value) : WP :=
  pv (bldO [.int .i64 0, .slice none 0 0] []) fun v54 =>
  cal Pg R 10 ⟨[x5, (.int .i64 1), v54, (.bool false), (.int .i64 0)]⟩ fun v55 =>
  pv (bldO [.int .i64 0, .slice none 0 0] []) fun v56 =>
  cal Pg R 10 ⟨[x5, (.int .i64 2), v56, (.bool true), x0]⟩ fun v57 =>
  pv (extO 0 v57) fun v58 =>
  pv (extO 1 v57) fun v59 =>
  pv (extO 2 v57) fun v60 =>
  pv (extO 3 v57) fun v61 =>
  F5_j2 R x0 x5 v61
theorem F5_j12_ok (R : ER) (e : Env) : den Pg R (cd Try.f5 [1,1,1,1,0,1,0]) e (setN (kont Pg R Try.f5) (fun e => F5_j2 R (e 0) (e 5) (e 7))) = (F5_j12 R (e 0) (e 5)) := by kernel_rfl
def F5_j13 (R : ER) (x0 x5 : Value) : WP :=
  cal Pg R 11 ⟨[x5, (.int .i64 2), (.bool true), x0]⟩ fun v62 =>
  pv (extO 0 v62) fun v63 =>
  pv (extO 1 v62) fun v64 =>
  pv (extO 2 v62) fun v65 =>
  pv (extO 3 v62) fun v66 =>
  pv (extO 4 v62) fun v67 =>
  F5_j2 R x0 x5 v67
theorem F5_j13_ok (R : ER) (e : Env) : den Pg R (cd Try.f5 [1,1,1,1,0,1,1]) e (setN (kont Pg R Try.f5) (fun e => F5_j2 R (e 0) (e 5) (e 7))) = (F5_j13 R (e 0) (e 5)) := by kernel_rfl
def F5_j11 (R : ER) (x0 x5 x29 : Value) : WP :=
  cnd x29 (F5_j12 R x0 x5) (F5_j13 R x0 x5)
theorem F5_j11_ok (R : ER) (e : Env) : den Pg R (cd Try.f5 [1,1,1,1,0,1]) e (setN (kont Pg R Try.f5) (fun e => F5_j2 R (e 0) (e 5) (e 7))) = (F5_j11 R (e 0) (e 5) (e 29)) := (den_if Pg R (cd Try.f5 [1,1,1,1,0,1]) (cd Try.f5 [1,1,1,1,0,1,0]) (cd Try.f5 [1,1,1,1,0,1,1]) e (setN (kont Pg R Try.f5) (fun e => F5_j2 R (e 0) (e 5) (e 7))) (F5_j12 R (e 0) (e 5)) (F5_j13 R (e 0) (e 5)) _ (by kernel_rfl) (F5_j12_ok R e) (F5_j13_ok R e) (by kernel_rfl))
def F5_j10 (R : ER) (x0 x1 x5 : Value) : WP :=
  F5_j11 R x0 x5 x1
theorem F5_j10_ok (R : ER) (e : Env) : den Pg R (cd Try.f5 [1,1,1,1,0]) e (setN (kont Pg R Try.f5) (fun e => F5_j2 R (e 0) (e 5) (e 7))) = (F5_j10 R (e 0) (e 1) (e 5)) := (den_join Pg R 0 (cd Try.f5 [1,1,1,1,0]) (cd Try.f5 [1,1,1,1,0,1]) e (setN (kont Pg R Try.f5) (fun e => F5_j2 R (e 0) (e 5) (e 7))) (fun e => F5_j11 R (e 0) (e 5) (e 29)) _ (by kernel_rfl) (fun e => F5_j11_ok R e) (by kernel_rfl))
def F5_j1 (R : ER) (x0 x1 x5 : Value) : WP :=
  F5_j10 R x0 x1 x5
theorem F5_j1_ok (R : ER) (e : Env) : den Pg R (cd Try.f5 [1,1,1]) e (kont Pg R Try.f5) = (F5_j1 R (e 0) (e 1) (e 5)) := (den_join Pg R 1 (cd Try.f5 [1,1,1]) (cd Try.f5 [1,1,1,1,1]) e (kont Pg R Try.f5) (fun e => F5_j2 R (e 0) (e 5) (e 7)) _ (by kernel_rfl) (fun e => F5_j2_ok R e) (den_join Pg R 0 (pre 1 (cd Try.f5 [1,1,1])) (cd Try.f5 [1,1,1,1,0]) e (setN (kont Pg R Try.f5) (fun e => F5_j2 R (e 0) (e 5) (e 7))) (fun e => F5_j10 R (e 0) (e 1) (e 5)) _ (by kernel_rfl) (fun e => F5_j10_ok R e) (by kernel_rfl)))
def F5 (R : ER) (x0 x1 : Value) : WP :=
  cal Pg R 7 ⟨[(.int .i64 1), (.int .i64 8)]⟩ fun v68 =>
  pv (extO 0 v68) fun v69 =>
  pv (extO 1 v68) fun v70 =>
  pv (bin .neq v70 (.int .i64 0)) fun v71 =>
  gd v71 false (cal Pg R 8 ⟨[]⟩) fun v72 =>
  gd v71 false (pv (unO .not v72)) fun v73 =>
  pv (pickO v71 (.bool true) v73) fun v74 =>
  cnd v74 (
   cal Pg R 8 ⟨[]⟩ fun v75 =>
   gd v75 true (pv (some v70)) fun v76 =>
   gd v75 true (pv (bin .eql v76 (.int .i64 0))) fun v77 =>
   pv (pickO v75 v77 (.bool false)) fun v78 =>
   R (.returned v78)) (
   F5_j1 R x0 x1 v69)
theorem F5_den (R : ER) (x0 x1 : Value) : den Pg R (cd Try.f5 []) (argsEnv [x0, x1]) (kont Pg R Try.f5) = F5 R x0 x1 :=
  have h : ∀ e, den Pg R (cd Try.f5 []) e (kont Pg R Try.f5) = F5 R (e 0) (e 1) := fun e => (den_join Pg R 2 (cd Try.f5 []) (cd Try.f5 [1,1,1]) e (kont Pg R Try.f5) (fun e => F5_j1 R (e 0) (e 1) (e 5)) _ (by kernel_rfl) (fun e => F5_j1_ok R e) (by kernel_rfl))
  h _
theorem F5_calls {R : ER} {x0 x1 : Value} {w : World} (h : F5 R x0 x1 w) : Calls Pg 5 ⟨[x0, x1]⟩ w R :=
  calls_of_den Try.func5 (by kernel_rfl) (by kernel_rfl) (F5_den R x0 x1) h
/-! ### 6: orpimentlaw25_MqueueNil -/
def F6 (R : ER) (x0 : Value) : WP :=
  bx 56 x0 fun v1 =>
  pv (faO 1 v1) fun v2 =>
  ld1 v2 fun v3 =>
  pv (faO 2 v1) fun v4 =>
  ld1 v4 fun v5 =>
  pv (faO 3 v1) fun v6 =>
  ld1 v6 fun v7 =>
  pv (bldO [.int .i64 0, .slice none 0 0] [(0,1, v5), (1,1, v7)]) fun v8 =>
  pv (faO 4 v1) fun v9 =>
  ld1 v9 fun v10 =>
  pv (faO 5 v1) fun v11 =>
  ld1 v11 fun v12 =>
  cal Pg R 10 ⟨[(.pointer none), v3, v8, v10, v12]⟩ fun v13 =>
  pv (extO 0 v13) fun v14 =>
  pv (extO 1 v13) fun v15 =>
  pv (extO 2 v13) fun v16 =>
  pv (extO 3 v13) fun v17 =>
  pv (faO 1 v1) fun v18 =>
  ld1 v18 fun v19 =>
  pv (faO 4 v1) fun v20 =>
  ld1 v20 fun v21 =>
  pv (faO 5 v1) fun v22 =>
  ld1 v22 fun v23 =>
  cal Pg R 11 ⟨[(.pointer none), v19, v21, v23]⟩ fun v24 =>
  pv (extO 0 v24) fun v25 =>
  pv (extO 1 v24) fun v26 =>
  pv (extO 2 v24) fun v27 =>
  pv (extO 3 v24) fun v28 =>
  pv (extO 4 v24) fun v29 =>
  al Pg 30 fun v30 =>
  stN 2 v30 v25 fun _ =>
  pv (faO 1 v1) fun v31 =>
  ld1 v31 fun v32 =>
  cal Pg R 18 ⟨[(.pointer none), v32]⟩ fun v33 =>
  pv (extO 0 v33) fun v34 =>
  pv (extO 1 v33) fun v35 =>
  pv (extO 2 v33) fun v36 =>
  pv (faO 5 v1) fun v37 =>
  ld1 v37 fun v38 =>
  cal Pg R 15 ⟨[(.pointer none), v38]⟩ fun v39 =>
  pv (extO 0 v39) fun v40 =>
  pv (extO 1 v39) fun v41 =>
  pv (extO 2 v39) fun v42 =>
  drewV (
  pv (faO 1 v1) fun v43 =>
  ld1 v43 fun v44 =>
  pv (faO 6 v1) fun v45 =>
  ldN 5 v45 fun v46 =>
  pv (bldO [.int .i64 0, .int .i64 0, .int .i64 0, .int .i64 0, .int .i64 0, .int .i64 0] [(0,1, v44), (1,5, v46)]) fun v47 =>
  mem fun w49 => cal Pg noR 19 ⟨[(.pointer none), v47]⟩ fun v48 =>
  pv (faO 1 v1) fun v50 =>
  ld1S [w49] v50 fun v51 =>
  mem fun w53 => cal Pg noR 20 ⟨[(.pointer none), v51]⟩ fun v52 =>
  mem fun w55 => valV Pg noR (Instr.buildSlice 62 6 ⟨[(0, v17), (1, v29), (2, v36), (3, v42), (4, v48), (5, v52)]⟩) fun v54 =>
  cal Pg R 8 ⟨[]⟩ fun v56 =>
  gd v56 true (pv (some (.pointer none))) fun v57 =>
  gd v56 true (cal Pg R 21 ⟨[v57]⟩) fun v58 =>
  gd v56 true (pv (bin .eql v58 (.int .i64 0))) fun v59 =>
  pv (pickO v56 v59 (.bool false)) fun v60 =>
  gd v60 true (pv (some (.pointer none))) fun v61 =>
  gd v60 true (cal Pg R 22 ⟨[v61]⟩) fun v62 =>
  gd v60 true (pv (lenS v62)) fun v63 =>
  gd v60 true (pv (some (.pointer none))) fun v64 =>
  gd v60 true (cal Pg R 16 ⟨[v64]⟩) fun v65 =>
  gd v60 true (pv (lenS v65)) fun v66 =>
  gd v60 true (pv (bin .add v63 v66)) fun v67 =>
  gd v60 true (pv (some (.pointer none))) fun v68 =>
  gd v60 true (cal Pg R 17 ⟨[v68]⟩) fun v69 =>
  gd v60 true (pv (lenS v69)) fun v70 =>
  gd v60 true (pv (bin .add v67 v70)) fun v71 =>
  gd v60 true (pv (bin .eql v71 (.int .i64 0))) fun v72 =>
  pv (pickO v60 v72 (.bool false)) fun v73 =>
  gd v73 true (pv (some v54)) fun v74 =>
  gd v73 true (cal Pg R 23 ⟨[v74, (.func (.func 24) ⟨[]⟩ ⟨[]⟩)]⟩) fun v75 =>
  gd v73 true (pv (unO .not v75)) fun v76 =>
  pv (pickO v73 v76 (.bool false)) fun v77 =>
  R (.returned v77))
theorem F6_den (R : ER) (x0 : Value) : den Pg R (cd Try.f6 []) (argsEnv [x0]) (kont Pg R Try.f6) = F6 R x0 :=
  have h : ∀ e, den Pg R (cd Try.f6 []) e (kont Pg R Try.f6) = F6 R (e 0) := fun e => by kernel_rfl
  h _
theorem F6_calls {R : ER} {x0 : Value} {w : World} (h : F6 R x0 w) : Calls Pg 6 ⟨[x0]⟩ w R :=
  calls_of_den Try.func6 (by kernel_rfl) (by kernel_rfl) (F6_den R x0) h
/-! ### 7: mqueue_New -/
def F7 (R : ER) (x0 x1 : Value) : WP :=
  pv (bin .lss x0 (.int .i64 1)) fun v1 =>
  gd v1 false (pv (some x0)) fun v2 =>
  gd v1 false (pv (bin .gtr v2 (.int .i64 64))) fun v3 =>
  pv (pickO v1 (.bool true) v3) fun v4 =>
  gd v4 false (pv (some x1)) fun v5 =>
  gd v4 false (pv (bin .lss v5 (.int .i64 1))) fun v6 =>
  pv (pickO v4 (.bool true) v6) fun v7 =>
  gd v7 false (pv (some x1)) fun v8 =>
  gd v7 false (pv (bin .gtr v8 (.int .i64 4096))) fun v9 =>
  pv (pickO v7 (.bool true) v9) fun v10 =>
  cnd v10 (
   R (.returned (.tuple ⟨[(.pointer none), (.int .i64 34)]⟩))) (
   pv (bldO [.slice none 0 0, .int .i64 0, .int .i64 0, .int .i64 0, .int .i64 0, .slice none 0 0, .slice none 0 0, .pointer none] [(1,1, x0), (2,1, x1)]) fun v11 =>
  bx 79 v11 fun v12 =>
  R (.returned (.tuple ⟨[v12, (.int .i64 0)]⟩)))
theorem F7_den (R : ER) (x0 x1 : Value) : den Pg R (cd Try.f7 []) (argsEnv [x0, x1]) (kont Pg R Try.f7) = F7 R x0 x1 :=
  have h : ∀ e, den Pg R (cd Try.f7 []) e (kont Pg R Try.f7) = F7 R (e 0) (e 1) := fun e => (by kernel_rfl)
  h _
theorem F7_calls {R : ER} {x0 x1 : Value} {w : World} (h : F7 R x0 x1 w) : Calls Pg 7 ⟨[x0, x1]⟩ w R :=
  calls_of_den Try.func7 (by kernel_rfl) (by kernel_rfl) (F7_den R x0 x1) h
/-! ### 8: orpimentlaw25_awake -/
def F8_j1 (R : ER) (x1 : Value) : WP :=
  valV Pg R (Instr.buildSlice 22 1 ⟨[(0, (.int .u8 97))]⟩) fun v1 =>
  valV Pg R (convert 22 22 v1) fun v2 =>
  pv (bldO [.int .i64 0, .slice none 0 0] [(0,1, (.int .i64 3)), (1,1, v2)]) fun v3 =>
  cal Pg R 10 ⟨[x1, (.int .i64 1), v3, (.bool false), (.int .i64 0)]⟩ fun v4 =>
  pv (extO 0 v4) fun v5 =>
  pv (extO 1 v4) fun v6 =>
  pv (extO 2 v4) fun v7 =>
  pv (extO 3 v4) fun v8 =>
  valV Pg R (Instr.buildSlice 22 1 ⟨[(0, (.int .u8 98))]⟩) fun v9 =>
  valV Pg R (convert 22 22 v9) fun v10 =>
  pv (bldO [.int .i64 0, .slice none 0 0] [(0,1, (.int .i64 5)), (1,1, v10)]) fun v11 =>
  cal Pg R 10 ⟨[x1, (.int .i64 1), v11, (.bool false), (.int .i64 0)]⟩ fun v12 =>
  pv (extO 0 v12) fun v13 =>
  pv (extO 1 v12) fun v14 =>
  pv (extO 2 v12) fun v15 =>
  pv (extO 3 v12) fun v16 =>
  cal Pg R 11 ⟨[x1, (.int .i64 2), (.bool false), (.int .i64 0)]⟩ fun v17 =>
  pv (extO 0 v17) fun v18 =>
  pv (extO 1 v17) fun v19 =>
  pv (extO 2 v17) fun v20 =>
  pv (extO 3 v17) fun v21 =>
  pv (extO 4 v17) fun v22 =>
  al Pg 30 fun v23 =>
  stN 2 v23 v18 fun _ =>
  pv (bin .eql v8 (.int .i64 0)) fun v24 =>
  gd v24 true (pv (some v16)) fun v25 =>
  gd v24 true (pv (bin .eql v25 (.int .i64 0))) fun v26 =>
  pv (pickO v24 v26 (.bool false)) fun v27 =>
  gd v27 true (pv (some v22)) fun v28 =>
  gd v27 true (pv (bin .eql v28 (.int .i64 0))) fun v29 =>
  pv (pickO v27 v29 (.bool false)) fun v30 =>
  gd v30 true (pv (faO 0 v23)) fun v31 =>
  gd v30 true (ld1 v31) fun v32 =>
  gd v30 true (pv (bin .eql v32 (.int .i64 5))) fun v33 =>
  pv (pickO v30 v33 (.bool false)) fun v34 =>
  gd v34 true (pv (faO 1 v23)) fun v35 =>
  gd v34 true (ld1 v35) fun v36 =>
  gd v34 true (valV Pg R (convert 22 9 v36)) fun v37 =>
  gd v34 true (pv (binS .eql v37 (.string ⟨⟨[98]⟩⟩))) fun v38 =>
  pv (pickO v34 v38 (.bool false)) fun v39 =>
  gd v39 true (pv (some x1)) fun v40 =>
  gd v39 true (cal Pg R 22 ⟨[v40]⟩) fun v41 =>
  gd v39 true (pv (lenS v41)) fun v42 =>
  gd v39 true (pv (bin .eql v42 (.int .i64 1))) fun v43 =>
  pv (pickO v39 v43 (.bool false)) fun v44 =>
  R (.returned v44)
theorem F8_j1_ok (R : ER) (e : Env) : den Pg R (cd Try.f8 [1,1,1]) e (kont Pg R Try.f8) = (F8_j1 R (e 1)) := by kernel_rfl
def F8 (R : ER) : WP :=
  cal Pg R 7 ⟨[(.int .i64 2), (.int .i64 10)]⟩ fun v45 =>
  pv (extO 0 v45) fun v46 =>
  pv (extO 1 v45) fun v47 =>
  pv (eqNilP v46) fun v48 =>
  gd v48 false (pv (some v47)) fun v49 =>
  gd v48 false (pv (bin .neq v49 (.int .i64 0))) fun v50 =>
  pv (pickO v48 (.bool true) v50) fun v51 =>
  cnd v51 (
   R (.returned (.bool false))) (
   F8_j1 R v46)
theorem F8_den (R : ER) : den Pg R (cd Try.f8 []) (argsEnv []) (kont Pg R Try.f8) = F8 R :=
  have h : ∀ e, den Pg R (cd Try.f8 []) e (kont Pg R Try.f8) = F8 R := fun e => (den_join Pg R 2 (cd Try.f8 []) (cd Try.f8 [1,1,1]) e (kont Pg R Try.f8) (fun e => F8_j1 R (e 1)) _ (by kernel_rfl) (fun e => F8_j1_ok R e) (by kernel_rfl))
  h _
theorem F8_calls {R : ER} {w : World} (h : F8 R w) : Calls Pg 8 ⟨[]⟩ w R :=
  calls_of_den Try.func8 (by kernel_rfl) (by kernel_rfl) (F8_den R) h
/-! ### 9: orpimentlaw25_MqueueOnce_1 -/
def F9 (R : ER) (x0 x1 : Value) : WP :=
  bx 30 x0 fun v1 =>
  ld1 x1 fun v2 =>
  pv (faO 1 v1) fun v3 =>
  ld1 v3 fun v4 =>
  valV Pg R (convert 22 9 v4) fun v5 =>
  valV Pg R (Instr.lookup 28 v2 v5 false) fun v6 =>
  pv (bin .add v6 (.int .i64 1)) fun v7 =>
  unitV Pg R (Instr.mapUpdate 28 v2 v5 v7) fun _ =>
  R (.returned (.tuple ⟨[]⟩))
theorem F9_den (R : ER) (x0 x1 : Value) : den Pg R (cd Try.f9 []) (argsEnv [x0, x1]) (kont Pg R Try.f9) = F9 R x0 x1 :=
  have h : ∀ e, den Pg R (cd Try.f9 []) e (kont Pg R Try.f9) = F9 R (e 0) (e 1) := fun e => by kernel_rfl
  h _
theorem F9_calls {R : ER} {x0 x1 : Value} {w : World} (h : F9 R x0 x1 w) : Calls Pg 9 ⟨[x0, x1]⟩ w R :=
  calls_of_den Try.func9 (by kernel_rfl) (by kernel_rfl) (F9_den R x0 x1) h
/-! ### 10: mqueue_Queue_Send -/
def F10_j3 (R : ER) (x0 x1 x4 x7 : Value) : WP :=
  drewV (
  pv (nilO x0) fun v1 =>
  pv (faO 6 v1) fun v2 =>
  pv (faO 0 v2) fun v3 =>
  ld1 v3 fun v4 =>
  ldN 2 x7 fun v5 =>
  mem fun w7 => cal Pg noR 30 ⟨[v5]⟩ fun v6 =>
  rd1 v3 v4 <|
  pv (bldO [.int .i64 0, .int .i64 0, .int .i64 0, .slice none 0 0] [(0,1, x1), (1,1, x4), (2,2, v6)]) fun v8 =>
  mem fun w10 => valV Pg noR (Instr.buildSlice 74 1 ⟨[(0, v8)]⟩) fun v9 =>
  rd1 v3 v4 <|
  mem fun w12 => blt Pg noR .append ⟨[74,74]⟩ 74 ⟨[false, false]⟩ ⟨[v4, v9]⟩ fun v11 =>
  pv (nilO x0) fun v13 =>
  pv (faO 6 v13) fun v14 =>
  pv (faO 0 v14) fun v15 =>
  mem fun w17 => st1 v15 v11 fun v16 =>
  R (.returned (.tuple ⟨[(.bool true), (.slice none 0 0), (.slice none 0 0), (.int .i64 0)]⟩)))
theorem F10_j3_ok (R : ER) (e : Env) : den Pg R (cd Try.f10 [1,1,1,1]) e (kont Pg R Try.f10) = (F10_j3 R (e 0) (e 1) (e 4) (e 7)) := by kernel_rfl
def F10_j4 (R : ER) (x0 x1 x3 x4 x7 : Value) : WP :=
  pv (nilO x0) fun v18 =>
  pv (faO 6 v18) fun v19 =>
  pv (faO 0 v19) fun v20 =>
  ld1 v20 fun v21 =>
  pv (lenS v21) fun v22 =>
  cal Pg R 29 ⟨[x0, x3, x4, v22]⟩ fun v23 =>
  pv (bin .neq v23 (.int .i64 0)) fun v24 =>
  cnd v24 (
   R (.returned (.tuple ⟨[(.bool false), (.slice none 0 0), (.slice none 0 0), v23]⟩))) (
   F10_j3 R x0 x1 x4 x7)
theorem F10_j4_ok (R : ER) (e : Env) : den Pg R (cd Try.f10 [1,1,1,0]) e (setN (kont Pg R Try.f10) (fun e => F10_j3 R (e 0) (e 1) (e 4) (e 7))) = (F10_j4 R (e 0) (e 1) (e 3) (e 4) (e 7)) := (by kernel_rfl)
def F10_j2 (R : ER) (x0 x1 x3 x4 x7 : Value) : WP :=
  F10_j4 R x0 x1 x3 x4 x7
theorem F10_j2_ok (R : ER) (e : Env) : den Pg R (cd Try.f10 [1,1,1]) e (kont Pg R Try.f10) = (F10_j2 R (e 0) (e 1) (e 3) (e 4) (e 7)) := (den_join Pg R 0 (cd Try.f10 [1,1,1]) (cd Try.f10 [1,1,1,1]) e (kont Pg R Try.f10) (fun e => F10_j3 R (e 0) (e 1) (e 4) (e 7)) _ (by kernel_rfl) (fun e => F10_j3_ok R e) (den_conv Pg R (pre 0 (cd Try.f10 [1,1,1])) (cd Try.f10 [1,1,1,0]) e (setN (kont Pg R Try.f10) (fun e => F10_j3 R (e 0) (e 1) (e 4) (e 7))) _ (by kernel_rfl) (F10_j4_ok R e)))
def F10_j7 (R : ER) (x0 x7 : Value) : WP :=
  ldN 2 x7 fun v25 =>
  cal Pg R 28 ⟨[x0, v25]⟩ fun v26 =>
  pv (extO 0 v26) fun v27 =>
  pv (extO 1 v26) fun v28 =>
  R (.returned (.tuple ⟨[(.bool false), v27, v28, (.int .i64 0)]⟩))
theorem F10_j7_ok (R : ER) (e : Env) : den Pg R (cd Try.f10 [1,1,0,1,0]) e (setN (kont Pg R Try.f10) (fun e => F10_j2 R (e 0) (e 1) (e 3) (e 4) (e 7))) = (F10_j7 R (e 0) (e 7)) := by kernel_rfl
def F10_j6 (R : ER) (x0 x1 x3 x4 x7 x57 : Value) : WP :=
  cnd x57 (F10_j7 R x0 x7) (F10_j2 R x0 x1 x3 x4 x7)
theorem F10_j6_ok (R : ER) (e : Env) : den Pg R (cd Try.f10 [1,1,0,1]) e (setN (kont Pg R Try.f10) (fun e => F10_j2 R (e 0) (e 1) (e 3) (e 4) (e 7))) = (F10_j6 R (e 0) (e 1) (e 3) (e 4) (e 7) (e 57)) := (den_if Pg R (cd Try.f10 [1,1,0,1]) (cd Try.f10 [1,1,0,1,0]) (cd Try.f10 [1,1,0,1,1]) e (setN (kont Pg R Try.f10) (fun e => F10_j2 R (e 0) (e 1) (e 3) (e 4) (e 7))) (F10_j7 R (e 0) (e 7)) _ _ (by kernel_rfl) (F10_j7_ok R e) rfl (by kernel_rfl))
def F10_j5 (R : ER) (x0 x1 x3 x4 x7 : Value) : WP :=
  drewV (
  pv (nilO x0) fun v29 =>
  pv (faO 0 v29) fun v30 =>
  ld1 v30 fun v31 =>
  mem fun w33 => cal Pg noR 27 ⟨[v31]⟩ fun v32 =>
  pv (nilO x0) fun v34 =>
  pv (faO 1 v34) fun v35 =>
  ld1S [w33] v35 fun v36 =>
  pv (bin .lss v32 v36) fun v37 =>
  F10_j6 R x0 x1 x3 x4 x7 v37)
theorem F10_j5_ok (R : ER) (e : Env) : den Pg R (cd Try.f10 [1,1,0]) e (setN (kont Pg R Try.f10) (fun e => F10_j2 R (e 0) (e 1) (e 3) (e 4) (e 7))) = (F10_j5 R (e 0) (e 1) (e 3) (e 4) (e 7)) := (den_join Pg R 0 (cd Try.f10 [1,1,0]) (cd Try.f10 [1,1,0,1]) e (setN (kont Pg R Try.f10) (fun e => F10_j2 R (e 0) (e 1) (e 3) (e 4) (e 7))) (fun e => F10_j6 R (e 0) (e 1) (e 3) (e 4) (e 7) (e 57)) _ (by kernel_rfl) (fun e => F10_j6_ok R e) (by kernel_rfl))
def F10_j1 (R : ER) (x0 x1 x3 x4 x7 : Value) : WP :=
  F10_j5 R x0 x1 x3 x4 x7
theorem F10_j1_ok (R : ER) (e : Env) : den Pg R (cd Try.f10 [1,1]) e (kont Pg R Try.f10) = (F10_j1 R (e 0) (e 1) (e 3) (e 4) (e 7)) := (den_join Pg R 0 (cd Try.f10 [1,1]) (cd Try.f10 [1,1,1]) e (kont Pg R Try.f10) (fun e => F10_j2 R (e 0) (e 1) (e 3) (e 4) (e 7)) _ (by kernel_rfl) (fun e => F10_j2_ok R e) (den_conv Pg R (pre 0 (cd Try.f10 [1,1])) (cd Try.f10 [1,1,0]) e (setN (kont Pg R Try.f10) (fun e => F10_j2 R (e 0) (e 1) (e 3) (e 4) (e 7))) _ (by kernel_rfl) (F10_j5_ok R e)))
def F10_j12 (R : ER) (x0 x1 x3 x4 x7 : Value) : WP :=
  drewV (
  pv (faO 1 x7) fun v38 =>
  ld1 v38 fun v39 =>
  pv (lenS v39) fun v40 =>
  pv (nilO x0) fun v41 =>
  pv (faO 2 v41) fun v42 =>
  ld1 v42 fun v43 =>
  pv (bin .gtr v40 v43) fun v44 =>
  cnd v44 (
   R (.returned (.tuple ⟨[(.bool false), (.slice none 0 0), (.slice none 0 0), (.int .i64 20)]⟩))) (
   cal Pg R 26 ⟨[x0, x1]⟩ fun v45 =>
   cnd v45 (
    R (.returned (.tuple ⟨[(.bool false), (.slice none 0 0), (.slice none 0 0), (.int .i64 5)]⟩))) (
    F10_j1 R x0 x1 x3 x4 x7)))
theorem F10_j12_ok (R : ER) (e : Env) : den Pg R (cd Try.f10 [1,0,0,1,1,1,1]) e (inB 0 (setN (kont Pg R Try.f10) (fun e => F10_j1 R (e 0) (e 1) (e 3) (e 4) (e 7)))) = (F10_j12 R (e 0) (e 1) (e 3) (e 4) (e 7)) := (by kernel_rfl)
def F10_j11 (R : ER) (x0 x1 x3 x4 x7 x20 : Value) : WP :=
  cnd x20 (R (.returned (.tuple ⟨[(.bool false), (.slice none 0 0), (.slice none 0 0), (.int .i64 34)]⟩))) (F10_j12 R x0 x1 x3 x4 x7)
theorem F10_j11_ok (R : ER) (e : Env) : den Pg R (cd Try.f10 [1,0,0,1,1,1]) e (inB 0 (setN (kont Pg R Try.f10) (fun e => F10_j1 R (e 0) (e 1) (e 3) (e 4) (e 7)))) = (F10_j11 R (e 0) (e 1) (e 3) (e 4) (e 7) (e 20)) := (den_if Pg R (cd Try.f10 [1,0,0,1,1,1]) (cd Try.f10 [1,0,0,1,1,1,0]) (cd Try.f10 [1,0,0,1,1,1,1]) e (inB 0 (setN (kont Pg R Try.f10) (fun e => F10_j1 R (e 0) (e 1) (e 3) (e 4) (e 7)))) _ (F10_j12 R (e 0) (e 1) (e 3) (e 4) (e 7)) _ (by kernel_rfl) rfl (F10_j12_ok R e) (by kernel_rfl))
def F10_j10 (R : ER) (x0 x1 x3 x4 x7 : Value) : WP :=
  cal Pg R 25 ⟨[x1, x4]⟩ fun v46 =>
  pv (unO .not v46) fun v47 =>
  gd v47 false (pv (faO 0 x7)) fun v48 =>
  gd v47 false (ld1 v48) fun v49 =>
  gd v47 false (pv (bin .lss v49 (.int .i64 0))) fun v50 =>
  pv (pickO v47 (.bool true) v50) fun v51 =>
  gd v51 false (pv (faO 0 x7)) fun v52 =>
  gd v51 false (ld1 v52) fun v53 =>
  gd v51 false (pv (bin .gtr v53 (.int .i64 31))) fun v54 =>
  pv (pickO v51 (.bool true) v54) fun v55 =>
  F10_j11 R x0 x1 x3 x4 x7 v55
theorem F10_j10_ok (R : ER) (e : Env) : den Pg R (cd Try.f10 [1,0,0,1,1]) e (inB 0 (setN (kont Pg R Try.f10) (fun e => F10_j1 R (e 0) (e 1) (e 3) (e 4) (e 7)))) = (F10_j10 R (e 0) (e 1) (e 3) (e 4) (e 7)) := (den_join Pg R 0 (cd Try.f10 [1,0,0,1,1]) (cd Try.f10 [1,0,0,1,1,1]) e (inB 0 (setN (kont Pg R Try.f10) (fun e => F10_j1 R (e 0) (e 1) (e 3) (e 4) (e 7)))) (fun e => F10_j11 R (e 0) (e 1) (e 3) (e 4) (e 7) (e 20)) _ (by kernel_rfl) (fun e => F10_j11_ok R e) (by kernel_rfl))
def F10_j9 (R : ER) (x0 x1 x3 x4 x7 x17 : Value) : WP :=
  cnd x17 (R (.returned (.tuple ⟨[(.bool false), (.slice none 0 0), (.slice none 0 0), (.int .i64 35)]⟩))) (F10_j10 R x0 x1 x3 x4 x7)
theorem F10_j9_ok (R : ER) (e : Env) : den Pg R (cd Try.f10 [1,0,0,1]) e (inB 0 (setN (kont Pg R Try.f10) (fun e => F10_j1 R (e 0) (e 1) (e 3) (e 4) (e 7)))) = (F10_j9 R (e 0) (e 1) (e 3) (e 4) (e 7) (e 17)) := (den_if Pg R (cd Try.f10 [1,0,0,1]) (cd Try.f10 [1,0,0,1,0]) (cd Try.f10 [1,0,0,1,1]) e (inB 0 (setN (kont Pg R Try.f10) (fun e => F10_j1 R (e 0) (e 1) (e 3) (e 4) (e 7)))) _ (F10_j10 R (e 0) (e 1) (e 3) (e 4) (e 7)) _ (by kernel_rfl) rfl (F10_j10_ok R e) (by kernel_rfl))
def F10_j8 (R : ER) (x0 x1 x3 x4 x7 : Value) : WP :=
  pv (eqNilP x0) fun v56 =>
  F10_j9 R x0 x1 x3 x4 x7 v56
theorem F10_j8_ok (R : ER) (e : Env) : den Pg R (cd Try.f10 [1,0]) e (setN (kont Pg R Try.f10) (fun e => F10_j1 R (e 0) (e 1) (e 3) (e 4) (e 7))) = (F10_j8 R (e 0) (e 1) (e 3) (e 4) (e 7)) := (den_block Pg R (cd Try.f10 [1,0]) 0 (cd Try.f10 [1,0,0]) e (setN (kont Pg R Try.f10) (fun e => F10_j1 R (e 0) (e 1) (e 3) (e 4) (e 7))) _ (by kernel_rfl) (den_join Pg R 0 (cd Try.f10 [1,0,0]) (cd Try.f10 [1,0,0,1]) e (inB 0 (setN (kont Pg R Try.f10) (fun e => F10_j1 R (e 0) (e 1) (e 3) (e 4) (e 7)))) (fun e => F10_j9 R (e 0) (e 1) (e 3) (e 4) (e 7) (e 17)) _ (by kernel_rfl) (fun e => F10_j9_ok R e) (by kernel_rfl)))
def F10 (R : ER) (x0 x1 x2 x3 x4 : Value) : WP :=
  bx 30 x2 fun v57 =>
  F10_j8 R x0 x1 x3 x4 v57
theorem F10_den (R : ER) (x0 x1 x2 x3 x4 : Value) : den Pg R (cd Try.f10 []) (argsEnv [x0, x1, x2, x3, x4]) (kont Pg R Try.f10) = F10 R x0 x1 x2 x3 x4 :=
  have h : ∀ e, den Pg R (cd Try.f10 []) e (kont Pg R Try.f10) = F10 R (e 0) (e 1) (e 2) (e 3) (e 4) := fun e => (den_join Pg R 1 (cd Try.f10 []) (cd Try.f10 [1,1]) e (kont Pg R Try.f10) (fun e => F10_j1 R (e 0) (e 1) (e 3) (e 4) (e 7)) _ (by kernel_rfl) (fun e => F10_j1_ok R e) (den_join Pg R 0 (pre 1 (cd Try.f10 [])) (cd Try.f10 [1,0]) e (setN (kont Pg R Try.f10) (fun e => F10_j1 R (e 0) (e 1) (e 3) (e 4) (e 7))) (fun e => F10_j8 R (e 0) (e 1) (e 3) (e 4) (e 7)) _ (by kernel_rfl) (fun e => F10_j8_ok R e) (by kernel_rfl)))
  h _
theorem F10_calls {R : ER} {x0 x1 x2 x3 x4 : Value} {w : World} (h : F10 R x0 x1 x2 x3 x4 w) : Calls Pg 10 ⟨[x0, x1, x2, x3, x4]⟩ w R :=
  calls_of_den Try.func10 (by kernel_rfl) (by kernel_rfl) (F10_den R x0 x1 x2 x3 x4) h
/-! ### 11: mqueue_Queue_Receive -/
def F11_j3 (R : ER) (x0 x8 x14 : Value) : WP :=
  pv (nilO x0) fun v1 =>
  pv (faO 6 v1) fun v2 =>
  cal Pg R 32 ⟨[v2]⟩ fun v3 =>
  al Pg 88 fun v4 =>
  stN 4 v4 v3 fun _ =>
  pv (faO 2 v4) fun v5 =>
  ldN 2 v5 fun v6 =>
  cal Pg R 28 ⟨[x0, v6]⟩ fun v7 =>
  pv (extO 0 v7) fun v8 =>
  pv (extO 1 v7) fun v9 =>
  drewV (
  ldN 2 x14 fun v10 =>
  pv (faO 0 v4) fun v11 =>
  ld1 v11 fun v12 =>
  pv (bldO [.int .i64 0, .int .i64 0, .slice none 0 0, .int .i64 0] [(0,1, v12)]) fun v13 =>
  allW [
  (mem fun w15 => valV Pg noR (Instr.buildSlice 32 1 ⟨[(0, v13)]⟩) fun v14 =>
   rdN 2 x14 v10 <|
   mem fun w17 => stN 2 x8 v10 fun v16 =>
   rd1 v11 v12 <|
   ldN 2 x8 fun v18 => R (.returned (.tuple ⟨[v18, (.bool false), v14, v9, (.int .i64 0)]⟩))),
  (mem fun w20 => stN 2 x8 v10 fun v19 =>
   rd1 v11 v12 <|
   mem fun w22 => valV Pg noR (Instr.buildSlice 32 1 ⟨[(0, v13)]⟩) fun v21 =>
   rdN 2 x14 v10 <|
   ldN 2 x8 fun v23 => R (.returned (.tuple ⟨[v23, (.bool false), v21, v9, (.int .i64 0)]⟩)))])
theorem F11_j3_ok (R : ER) (e : Env) : den Pg R (cd Try.f11 [1,1,1,1,1]) e (kont Pg R Try.f11) = (F11_j3 R (e 0) (e 8) (e 14)) := by kernel_rfl
def F11_j4 (R : ER) (x0 x8 x14 : Value) : WP :=
  pv (nilO x0) fun v24 =>
  pv (faO 6 v24) fun v25 =>
  pv (faO 0 v25) fun v26 =>
  ld1 v26 fun v27 =>
  pv (lenS v27) fun v28 =>
  pv (bin .eql v28 (.int .i64 0)) fun v29 =>
  cnd v29 (
   ldN 2 x14 fun v30 =>
   stN 2 x8 v30 fun _ =>
   ldN 2 x8 fun v31 => R (.returned (.tuple ⟨[v31, (.bool false), (.slice none 0 0), (.slice none 0 0), (.int .i64 0)]⟩))) (
   F11_j3 R x0 x8 x14)
theorem F11_j4_ok (R : ER) (e : Env) : den Pg R (cd Try.f11 [1,1,1,1,0]) e (setN (kont Pg R Try.f11) (fun e => F11_j3 R (e 0) (e 8) (e 14))) = (F11_j4 R (e 0) (e 8) (e 14)) := (by kernel_rfl)
def F11_j2 (R : ER) (x0 x8 : Value) : WP :=
  cal Pg R 31 ⟨[(.iface 23 x0)]⟩ fun v32 =>
  valV Pg R (Instr.typeAssert v32 20 93 false) fun v33 =>
  pv (fldN 0 2 v33) fun v34 =>
  al Pg 30 fun v35 =>
  stN 2 v35 v34 fun _ =>
  F11_j4 R x0 x8 v35
theorem F11_j2_ok (R : ER) (e : Env) : den Pg R (cd Try.f11 [1,1,1]) e (kont Pg R Try.f11) = (F11_j2 R (e 0) (e 8)) := (den_join Pg R 1 (cd Try.f11 [1,1,1]) (cd Try.f11 [1,1,1,1,1]) e (kont Pg R Try.f11) (fun e => F11_j3 R (e 0) (e 8) (e 14)) _ (by kernel_rfl) (fun e => F11_j3_ok R e) (den_join Pg R 0 (pre 1 (cd Try.f11 [1,1,1])) (cd Try.f11 [1,1,1,1,0]) e (setN (kont Pg R Try.f11) (fun e => F11_j3 R (e 0) (e 8) (e 14))) (fun e => F11_j4 R (e 0) (e 8) (e 14)) _ (by kernel_rfl) (fun e => F11_j4_ok R e) (by kernel_rfl)))
def F11_j8 (R : ER) (x0 x1 x3 x8 : Value) : WP :=
  pv (nilO x0) fun v36 =>
  pv (faO 5 v36) fun v37 =>
  pv (faO 0 v37) fun v38 =>
  ld1 v38 fun v39 =>
  pv (bldO [.int .i64 0, .int .i64 0] [(0,1, x1), (1,1, x3)]) fun v40 =>
  valV Pg R (Instr.buildSlice 71 1 ⟨[(0, v40)]⟩) fun v41 =>
  blt Pg R .append ⟨[71,71]⟩ 71 ⟨[false, false]⟩ ⟨[v39, v41]⟩ fun v42 =>
  pv (nilO x0) fun v43 =>
  pv (faO 5 v43) fun v44 =>
  pv (faO 0 v44) fun v45 =>
  st1 v45 v42 fun _ =>
  pv (bldO [.int .i64 0, .slice none 0 0] []) fun v46 =>
  stN 2 x8 v46 fun _ =>
  ldN 2 x8 fun v47 => R (.returned (.tuple ⟨[v47, (.bool true), (.slice none 0 0), (.slice none 0 0), (.int .i64 0)]⟩))
theorem F11_j8_ok (R : ER) (e : Env) : den Pg R (cd Try.f11 [1,1,0,1,0,1]) e (setN (kont Pg R Try.f11) (fun e => F11_j2 R (e 0) (e 8))) = (F11_j8 R (e 0) (e 1) (e 3) (e 8)) := by kernel_rfl
def F11_j9 (R : ER) (x0 x1 x2 x3 x8 : Value) : WP :=
  pv (nilO x0) fun v48 =>
  pv (faO 5 v48) fun v49 =>
  pv (faO 0 v49) fun v50 =>
  ld1 v50 fun v51 =>
  pv (lenS v51) fun v52 =>
  cal Pg R 29 ⟨[x0, x2, x3, v52]⟩ fun v53 =>
  pv (bin .neq v53 (.int .i64 0)) fun v54 =>
  cnd v54 (
   pv (bldO [.int .i64 0, .slice none 0 0] []) fun v55 =>
   stN 2 x8 v55 fun _ =>
   ldN 2 x8 fun v56 => R (.returned (.tuple ⟨[v56, (.bool false), (.slice none 0 0), (.slice none 0 0), v53]⟩))) (
   F11_j8 R x0 x1 x3 x8)
theorem F11_j9_ok (R : ER) (e : Env) : den Pg R (cd Try.f11 [1,1,0,1,0,0]) e (setN (setN (kont Pg R Try.f11) (fun e => F11_j2 R (e 0) (e 8))) (fun e => F11_j8 R (e 0) (e 1) (e 3) (e 8))) = (F11_j9 R (e 0) (e 1) (e 2) (e 3) (e 8)) := (by kernel_rfl)
def F11_j7 (R : ER) (x0 x1 x2 x3 x8 : Value) : WP :=
  F11_j9 R x0 x1 x2 x3 x8
theorem F11_j7_ok (R : ER) (e : Env) : den Pg R (cd Try.f11 [1,1,0,1,0]) e (setN (kont Pg R Try.f11) (fun e => F11_j2 R (e 0) (e 8))) = (F11_j7 R (e 0) (e 1) (e 2) (e 3) (e 8)) := (den_join Pg R 0 (cd Try.f11 [1,1,0,1,0]) (cd Try.f11 [1,1,0,1,0,1]) e (setN (kont Pg R Try.f11) (fun e => F11_j2 R (e 0) (e 8))) (fun e => F11_j8 R (e 0) (e 1) (e 3) (e 8)) _ (by kernel_rfl) (fun e => F11_j8_ok R e) (den_conv Pg R (pre 0 (cd Try.f11 [1,1,0,1,0])) (cd Try.f11 [1,1,0,1,0,0]) e (setN (setN (kont Pg R Try.f11) (fun e => F11_j2 R (e 0) (e 8))) (fun e => F11_j8 R (e 0) (e 1) (e 3) (e 8))) _ (by kernel_rfl) (F11_j9_ok R e)))
def F11_j6 (R : ER) (x0 x1 x2 x3 x8 x38 : Value) : WP :=
  cnd x38 (F11_j7 R x0 x1 x2 x3 x8) (F11_j2 R x0 x8)
theorem F11_j6_ok (R : ER) (e : Env) : den Pg R (cd Try.f11 [1,1,0,1]) e (setN (kont Pg R Try.f11) (fun e => F11_j2 R (e 0) (e 8))) = (F11_j6 R (e 0) (e 1) (e 2) (e 3) (e 8) (e 38)) := (den_if Pg R (cd Try.f11 [1,1,0,1]) (cd Try.f11 [1,1,0,1,0]) (cd Try.f11 [1,1,0,1,1]) e (setN (kont Pg R Try.f11) (fun e => F11_j2 R (e 0) (e 8))) (F11_j7 R (e 0) (e 1) (e 2) (e 3) (e 8)) _ _ (by kernel_rfl) (F11_j7_ok R e) rfl (by kernel_rfl))
def F11_j5 (R : ER) (x0 x1 x2 x3 x8 : Value) : WP :=
  pv (nilO x0) fun v57 =>
  pv (faO 0 v57) fun v58 =>
  ld1 v58 fun v59 =>
  cal Pg R 27 ⟨[v59]⟩ fun v60 =>
  pv (bin .eql v60 (.int .i64 0)) fun v61 =>
  F11_j6 R x0 x1 x2 x3 x8 v61
theorem F11_j5_ok (R : ER) (e : Env) : den Pg R (cd Try.f11 [1,1,0]) e (setN (kont Pg R Try.f11) (fun e => F11_j2 R (e 0) (e 8))) = (F11_j5 R (e 0) (e 1) (e 2) (e 3) (e 8)) := (den_join Pg R 0 (cd Try.f11 [1,1,0]) (cd Try.f11 [1,1,0,1]) e (setN (kont Pg R Try.f11) (fun e => F11_j2 R (e 0) (e 8))) (fun e => F11_j6 R (e 0) (e 1) (e 2) (e 3) (e 8) (e 38)) _ (by kernel_rfl) (fun e => F11_j6_ok R e) (by kernel_rfl))
def F11_j1 (R : ER) (x0 x1 x2 x3 x8 : Value) : WP :=
  F11_j5 R x0 x1 x2 x3 x8
theorem F11_j1_ok (R : ER) (e : Env) : den Pg R (cd Try.f11 [1,1]) e (kont Pg R Try.f11) = (F11_j1 R (e 0) (e 1) (e 2) (e 3) (e 8)) := (den_join Pg R 0 (cd Try.f11 [1,1]) (cd Try.f11 [1,1,1]) e (kont Pg R Try.f11) (fun e => F11_j2 R (e 0) (e 8)) _ (by kernel_rfl) (fun e => F11_j2_ok R e) (den_conv Pg R (pre 0 (cd Try.f11 [1,1])) (cd Try.f11 [1,1,0]) e (setN (kont Pg R Try.f11) (fun e => F11_j2 R (e 0) (e 8))) _ (by kernel_rfl) (F11_j5_ok R e)))
def F11_j14 (R : ER) (x0 x1 x2 x3 x8 : Value) : WP :=
  cal Pg R 26 ⟨[x0, x1]⟩ fun v62 =>
  cnd v62 (
   pv (bldO [.int .i64 0, .slice none 0 0] []) fun v63 =>
   stN 2 x8 v63 fun _ =>
   ldN 2 x8 fun v64 => R (.returned (.tuple ⟨[v64, (.bool false), (.slice none 0 0), (.slice none 0 0), (.int .i64 5)]⟩))) (
   F11_j1 R x0 x1 x2 x3 x8)
theorem F11_j14_ok (R : ER) (e : Env) : den Pg R (cd Try.f11 [1,0,0,1,1,1,1]) e (inB 0 (setN (kont Pg R Try.f11) (fun e => F11_j1 R (e 0) (e 1) (e 2) (e 3) (e 8)))) = (F11_j14 R (e 0) (e 1) (e 2) (e 3) (e 8)) := by kernel_rfl
def F11_j13 (R : ER) (x0 x1 x2 x3 x8 x22 : Value) : WP :=
  cnd x22 (pv (bldO [.int .i64 0, .slice none 0 0] []) fun v65 =>
  stN 2 x8 v65 fun _ =>
  ldN 2 x8 fun v66 => R (.returned (.tuple ⟨[v66, (.bool false), (.slice none 0 0), (.slice none 0 0), (.int .i64 34)]⟩))) (F11_j14 R x0 x1 x2 x3 x8)
theorem F11_j13_ok (R : ER) (e : Env) : den Pg R (cd Try.f11 [1,0,0,1,1,1]) e (inB 0 (setN (kont Pg R Try.f11) (fun e => F11_j1 R (e 0) (e 1) (e 2) (e 3) (e 8)))) = (F11_j13 R (e 0) (e 1) (e 2) (e 3) (e 8) (e 22)) := (den_if Pg R (cd Try.f11 [1,0,0,1,1,1]) (cd Try.f11 [1,0,0,1,1,1,0]) (cd Try.f11 [1,0,0,1,1,1,1]) e (inB 0 (setN (kont Pg R Try.f11) (fun e => F11_j1 R (e 0) (e 1) (e 2) (e 3) (e 8)))) _ (F11_j14 R (e 0) (e 1) (e 2) (e 3) (e 8)) _ (by kernel_rfl) rfl (F11_j14_ok R e) (by kernel_rfl))
def F11_j12 (R : ER) (x0 x1 x2 x3 x8 : Value) : WP :=
  cal Pg R 25 ⟨[x1, x3]⟩ fun v67 =>
  pv (unO .not v67) fun v68 =>
  F11_j13 R x0 x1 x2 x3 x8 v68
theorem F11_j12_ok (R : ER) (e : Env) : den Pg R (cd Try.f11 [1,0,0,1,1]) e (inB 0 (setN (kont Pg R Try.f11) (fun e => F11_j1 R (e 0) (e 1) (e 2) (e 3) (e 8)))) = (F11_j12 R (e 0) (e 1) (e 2) (e 3) (e 8)) := (den_join Pg R 0 (cd Try.f11 [1,0,0,1,1]) (cd Try.f11 [1,0,0,1,1,1]) e (inB 0 (setN (kont Pg R Try.f11) (fun e => F11_j1 R (e 0) (e 1) (e 2) (e 3) (e 8)))) (fun e => F11_j13 R (e 0) (e 1) (e 2) (e 3) (e 8) (e 22)) _ (by kernel_rfl) (fun e => F11_j13_ok R e) (by kernel_rfl))
def F11_j11 (R : ER) (x0 x1 x2 x3 x8 x18 : Value) : WP :=
  cnd x18 (pv (bldO [.int .i64 0, .slice none 0 0] []) fun v69 =>
  stN 2 x8 v69 fun _ =>
  ldN 2 x8 fun v70 => R (.returned (.tuple ⟨[v70, (.bool false), (.slice none 0 0), (.slice none 0 0), (.int .i64 35)]⟩))) (F11_j12 R x0 x1 x2 x3 x8)
theorem F11_j11_ok (R : ER) (e : Env) : den Pg R (cd Try.f11 [1,0,0,1]) e (inB 0 (setN (kont Pg R Try.f11) (fun e => F11_j1 R (e 0) (e 1) (e 2) (e 3) (e 8)))) = (F11_j11 R (e 0) (e 1) (e 2) (e 3) (e 8) (e 18)) := (den_if Pg R (cd Try.f11 [1,0,0,1]) (cd Try.f11 [1,0,0,1,0]) (cd Try.f11 [1,0,0,1,1]) e (inB 0 (setN (kont Pg R Try.f11) (fun e => F11_j1 R (e 0) (e 1) (e 2) (e 3) (e 8)))) _ (F11_j12 R (e 0) (e 1) (e 2) (e 3) (e 8)) _ (by kernel_rfl) rfl (F11_j12_ok R e) (by kernel_rfl))
def F11_j10 (R : ER) (x0 x1 x2 x3 x8 : Value) : WP :=
  pv (eqNilP x0) fun v71 =>
  F11_j11 R x0 x1 x2 x3 x8 v71
theorem F11_j10_ok (R : ER) (e : Env) : den Pg R (cd Try.f11 [1,0]) e (setN (kont Pg R Try.f11) (fun e => F11_j1 R (e 0) (e 1) (e 2) (e 3) (e 8))) = (F11_j10 R (e 0) (e 1) (e 2) (e 3) (e 8)) := (den_block Pg R (cd Try.f11 [1,0]) 0 (cd Try.f11 [1,0,0]) e (setN (kont Pg R Try.f11) (fun e => F11_j1 R (e 0) (e 1) (e 2) (e 3) (e 8))) _ (by kernel_rfl) (den_join Pg R 0 (cd Try.f11 [1,0,0]) (cd Try.f11 [1,0,0,1]) e (inB 0 (setN (kont Pg R Try.f11) (fun e => F11_j1 R (e 0) (e 1) (e 2) (e 3) (e 8)))) (fun e => F11_j11 R (e 0) (e 1) (e 2) (e 3) (e 8) (e 18)) _ (by kernel_rfl) (fun e => F11_j11_ok R e) (by kernel_rfl)))
def F11 (R : ER) (x0 x1 x2 x3 : Value) : WP :=
  al Pg 30 fun v72 =>
  F11_j10 R x0 x1 x2 x3 v72
theorem F11_den (R : ER) (x0 x1 x2 x3 : Value) : den Pg R (cd Try.f11 []) (argsEnv [x0, x1, x2, x3]) (kont Pg R Try.f11) = F11 R x0 x1 x2 x3 :=
  have h : ∀ e, den Pg R (cd Try.f11 []) e (kont Pg R Try.f11) = F11 R (e 0) (e 1) (e 2) (e 3) := fun e => (den_join Pg R 1 (cd Try.f11 []) (cd Try.f11 [1,1]) e (kont Pg R Try.f11) (fun e => F11_j1 R (e 0) (e 1) (e 2) (e 3) (e 8)) _ (by kernel_rfl) (fun e => F11_j1_ok R e) (den_join Pg R 0 (pre 1 (cd Try.f11 [])) (cd Try.f11 [1,0]) e (setN (kont Pg R Try.f11) (fun e => F11_j1 R (e 0) (e 1) (e 2) (e 3) (e 8))) (fun e => F11_j10 R (e 0) (e 1) (e 2) (e 3) (e 8)) _ (by kernel_rfl) (fun e => F11_j10_ok R e) (by kernel_rfl)))
  h _
theorem F11_calls {R : ER} {x0 x1 x2 x3 : Value} {w : World} (h : F11 R x0 x1 x2 x3 w) : Calls Pg 11 ⟨[x0, x1, x2, x3]⟩ w R :=
  calls_of_den Try.func11 (by kernel_rfl) (by kernel_rfl) (F11_den R x0 x1 x2 x3) h
/-! ### 12: slices_SortStableFunc -/
def F12 (R : ER) (x0 x1 : Value) : WP :=
  pv (lenS x0) fun v1 =>
  cal Pg R 33 ⟨[x0, v1, x1]⟩ fun v2 =>
  R (.returned (.tuple ⟨[]⟩))
theorem F12_den (R : ER) (x0 x1 : Value) : den Pg R (cd Try.f12 []) (argsEnv [x0, x1]) (kont Pg R Try.f12) = F12 R x0 x1 :=
  have h : ∀ e, den Pg R (cd Try.f12 []) e (kont Pg R Try.f12) = F12 R (e 0) (e 1) := fun e => by kernel_rfl
  h _
theorem F12_calls {R : ER} {x0 x1 : Value} {w : World} (h : F12 R x0 x1 w) : Calls Pg 12 ⟨[x0, x1]⟩ w R :=
  calls_of_den Try.func12 (by kernel_rfl) (by kernel_rfl) (F12_den R x0 x1) h
/-! ### 13: orpimentlaw25_MqueueOrders_1 -/
def F13 (R : ER) (x0 x1 : Value) : WP :=
  bx 43 x0 fun v1 =>
  bx 43 x1 fun v2 =>
  pv (faO 0 v2) fun v3 =>
  ld1 v3 fun v4 =>
  pv (faO 0 v1) fun v5 =>
  ld1 v5 fun v6 =>
  pv (bin .sub v4 v6) fun v7 =>
  R (.returned v7)
theorem F13_den (R : ER) (x0 x1 : Value) : den Pg R (cd Try.f13 []) (argsEnv [x0, x1]) (kont Pg R Try.f13) = F13 R x0 x1 :=
  have h : ∀ e, den Pg R (cd Try.f13 []) e (kont Pg R Try.f13) = F13 R (e 0) (e 1) := fun e => by kernel_rfl
  h _
theorem F13_calls {R : ER} {x0 x1 : Value} {w : World} (h : F13 R x0 x1 w) : Calls Pg 13 ⟨[x0, x1]⟩ w R :=
  calls_of_den Try.func13 (by kernel_rfl) (by kernel_rfl) (F13_den R x0 x1) h
/-! ### 14: bytes_Equal -/
def F14 (R : ER) (x0 x1 : Value) : WP :=
  valV Pg R (convert 22 9 x0) fun v1 =>
  valV Pg R (convert 22 9 x1) fun v2 =>
  pv (binS .eql v1 v2) fun v3 =>
  R (.returned v3)
theorem F14_den (R : ER) (x0 x1 : Value) : den Pg R (cd Try.f14 []) (argsEnv [x0, x1]) (kont Pg R Try.f14) = F14 R x0 x1 :=
  have h : ∀ e, den Pg R (cd Try.f14 []) e (kont Pg R Try.f14) = F14 R (e 0) (e 1) := fun e => by kernel_rfl
  h _
theorem F14_calls {R : ER} {x0 x1 : Value} {w : World} (h : F14 R x0 x1 w) : Calls Pg 14 ⟨[x0, x1]⟩ w R :=
  calls_of_den Try.func14 (by kernel_rfl) (by kernel_rfl) (F14_den R x0 x1) h
/-! ### 15: mqueue_Queue_Advance -/
def F15_j4 (R : ER) (x12 : Value) : WP :=
  R (.returned (.tuple ⟨[x12, (.slice none 0 0), (.int .i64 0)]⟩))
theorem F15_j4_ok (R : ER) (e : Env) : den Pg R (cd Try.f15 [1,1,1,1,1,1,1,1,1]) e (kont Pg R Try.f15) = (F15_j4 R (e 12)) := by kernel_rfl
def F15_j7 (R : ER) (k1 : V4) (x12 x76 x77 x78 : Value) : WP :=
  pv (ixS 2 x76 x78) fun v1 =>
  ldN 2 v1 fun v2 =>
  al Pg 100 fun v3 =>
  stN 2 v3 v2 fun _ =>
  pv (faO 0 v3) fun v4 =>
  ld1 v4 fun v5 =>
  pv (bldO [.int .i64 0, .int .i64 0, .slice none 0 0, .int .i64 0] [(0,1, v5), (3,1, (.int .i64 37))]) fun v6 =>
  valV Pg R (Instr.buildSlice 32 1 ⟨[(0, v6)]⟩) fun v7 =>
  blt Pg R .append ⟨[32,32]⟩ 32 ⟨[false, false]⟩ ⟨[x12, v7]⟩ fun v8 =>
  pv (bin .add x78 (.int .i64 1)) fun v9 =>
  k1 v8 x76 x77 v9
theorem F15_j7_ok (R : ER) (k1 : V4) (e : Env) : den Pg R (cd Try.f15 [1,1,1,1,1,1,1,1,0,1,0,0,1,1]) e (setN (inB 5 (setN (kont Pg R Try.f15) (fun e => F15_j4 R (e 12)))) (fun e => k1 (e 12) (e 76) (e 77) (e 78))) = (F15_j7 R k1 (e 12) (e 76) (e 77) (e 78)) := by kernel_rfl
def F15_b1 (R : ER) (k1 : V4) (x12 x76 x77 x78 : Value) : WP :=
  pv (bin .lss x78 x77) fun v10 =>
  cnd v10 (
   F15_j7 R k1 x12 x76 x77 x78) (
   F15_j4 R x12)
theorem F15_b1_ok (R : ER) (k1 : V4) (e : Env) : den Pg R (cd Try.f15 [1,1,1,1,1,1,1,1,0,1,0,0]) e (setN (inB 5 (setN (kont Pg R Try.f15) (fun e => F15_j4 R (e 12)))) (fun e => k1 (e 12) (e 76) (e 77) (e 78))) = (F15_b1 R k1 (e 12) (e 76) (e 77) (e 78)) := (den_join Pg R 1 (cd Try.f15 [1,1,1,1,1,1,1,1,0,1,0,0]) (cd Try.f15 [1,1,1,1,1,1,1,1,0,1,0,0,1,1]) e (setN (inB 5 (setN (kont Pg R Try.f15) (fun e => F15_j4 R (e 12)))) (fun e => k1 (e 12) (e 76) (e 77) (e 78))) (fun e => F15_j7 R k1 (e 12) (e 76) (e 77) (e 78)) _ (by kernel_rfl) (fun e => F15_j7_ok R k1 e) (by kernel_rfl))
noncomputable def F15_l1 (R : ER) (n : Nat) : V4 := Nat.rec (motive := fun _ => V4) (fun _ _ _ _ => fun _ => False) (fun _ ih => fun x12 x76 x77 x78 => F15_b1 R ih x12 x76 x77 x78) n
theorem F15_l1_succ (R : ER) (n : Nat) (x12 x76 x77 x78 : Value) : F15_l1 R (n + 1) x12 x76 x77 x78 = F15_b1 R (F15_l1 R n) x12 x76 x77 x78 := rfl
theorem F15_l1_ok (R : ER) : ∀ (n : Nat) (e : Env), iterL (den Pg R (cd Try.f15 [1,1,1,1,1,1,1,1,0,1,0,0])) n e (inB 5 (setN (kont Pg R Try.f15) (fun e => F15_j4 R (e 12)))) = F15_l1 R n (e 12) (e 76) (e 77) (e 78) :=
  iterL_join (den Pg R (cd Try.f15 [1,1,1,1,1,1,1,1,0,1,0,0])) (inB 5 (setN (kont Pg R Try.f15) (fun e => F15_j4 R (e 12)))) (fun n e => F15_l1 R n (e 12) (e 76) (e 77) (e 78)) (fun _ => rfl) (fun n e => (F15_b1_ok R (F15_l1 R n) e).trans (F15_l1_succ R n (e 12) (e 76) (e 77) (e 78)).symm)
def F15_j6 (R : ER) (x12 x76 x77 x78 : Value) : WP :=
  exN fun n => F15_l1 R n x12 x76 x77 x78
theorem F15_j6_ok (R : ER) (e : Env) : den Pg R (cd Try.f15 [1,1,1,1,1,1,1,1,0,1]) e (setN (kont Pg R Try.f15) (fun e => F15_j4 R (e 12))) = (F15_j6 R (e 12) (e 76) (e 77) (e 78)) := (den_block Pg R (cd Try.f15 [1,1,1,1,1,1,1,1,0,1]) 5 (cd Try.f15 [1,1,1,1,1,1,1,1,0,1,0]) e (setN (kont Pg R Try.f15) (fun e => F15_j4 R (e 12))) _ (by kernel_rfl) (den_loop Pg R (cd Try.f15 [1,1,1,1,1,1,1,1,0,1,0]) (cd Try.f15 [1,1,1,1,1,1,1,1,0,1,0,0]) e (inB 5 (setN (kont Pg R Try.f15) (fun e => F15_j4 R (e 12)))) (fun n e => F15_l1 R n (e 12) (e 76) (e 77) (e 78)) _ (by kernel_rfl) (F15_l1_ok R) (by kernel_rfl)))
def F15_j5 (R : ER) (x7 x12 : Value) : WP :=
  pv (lenS x7) fun v11 =>
  F15_j6 R x12 x7 v11 (.int .i64 0)
theorem F15_j5_ok (R : ER) (e : Env) : den Pg R (cd Try.f15 [1,1,1,1,1,1,1,1,0]) e (setN (kont Pg R Try.f15) (fun e => F15_j4 R (e 12))) = (F15_j5 R (e 7) (e 12)) := (den_join Pg R 0 (cd Try.f15 [1,1,1,1,1,1,1,1,0]) (cd Try.f15 [1,1,1,1,1,1,1,1,0,1]) e (setN (kont Pg R Try.f15) (fun e => F15_j4 R (e 12))) (fun e => F15_j6 R (e 12) (e 76) (e 77) (e 78)) _ (by kernel_rfl) (fun e => F15_j6_ok R e) (by kernel_rfl))
def F15_j3 (R : ER) (x7 : Value) : WP :=
  cal Pg R 36 ⟨[x7, (.func (.func 37) ⟨[]⟩ ⟨[]⟩)]⟩ fun v12 =>
  F15_j5 R x7 (.slice none 0 0)
theorem F15_j3_ok (R : ER) (e : Env) : den Pg R (cd Try.f15 [1,1,1,1,1,1]) e (kont Pg R Try.f15) = (F15_j3 R (e 7)) := (den_join Pg R 2 (cd Try.f15 [1,1,1,1,1,1]) (cd Try.f15 [1,1,1,1,1,1,1,1,1]) e (kont Pg R Try.f15) (fun e => F15_j4 R (e 12)) _ (by kernel_rfl) (fun e => F15_j4_ok R e) (den_join Pg R 1 (pre 2 (cd Try.f15 [1,1,1,1,1,1])) (cd Try.f15 [1,1,1,1,1,1,1,1,0]) e (setN (kont Pg R Try.f15) (fun e => F15_j4 R (e 12))) (fun e => F15_j5 R (e 7) (e 12)) _ (by kernel_rfl) (fun e => F15_j5_ok R e) (by kernel_rfl)))
def F15_j10 (R : ER) (k1 : V4) (x7 x59 x60 x61 : Value) : WP :=
  pv (ixS 2 x59 x61) fun v13 =>
  ldN 2 v13 fun v14 =>
  al Pg 91 fun v15 =>
  stN 2 v15 v14 fun _ =>
  pv (faO 0 v15) fun v16 =>
  ld1 v16 fun v17 =>
  pv (faO 1 v15) fun v18 =>
  ld1 v18 fun v19 =>
  pv (bldO [.int .i64 0, .int .i64 0] [(0,1, v17), (1,1, v19)]) fun v20 =>
  valV Pg R (Instr.buildSlice 97 1 ⟨[(0, v20)]⟩) fun v21 =>
  blt Pg R .append ⟨[97,97]⟩ 97 ⟨[false, false]⟩ ⟨[x7, v21]⟩ fun v22 =>
  pv (bin .add x61 (.int .i64 1)) fun v23 =>
  k1 v22 x59 x60 v23
theorem F15_j10_ok (R : ER) (k1 : V4) (e : Env) : den Pg R (cd Try.f15 [1,1,1,1,1,0,1,0,0,1,1]) e (setN (inB 3 (setN (kont Pg R Try.f15) (fun e => F15_j3 R (e 7)))) (fun e => k1 (e 7) (e 59) (e 60) (e 61))) = (F15_j10 R k1 (e 7) (e 59) (e 60) (e 61)) := by kernel_rfl
def F15_b2 (R : ER) (k1 : V4) (x7 x59 x60 x61 : Value) : WP :=
  pv (bin .lss x61 x60) fun v24 =>
  cnd v24 (
   F15_j10 R k1 x7 x59 x60 x61) (
   F15_j3 R x7)
theorem F15_b2_ok (R : ER) (k1 : V4) (e : Env) : den Pg R (cd Try.f15 [1,1,1,1,1,0,1,0,0]) e (setN (inB 3 (setN (kont Pg R Try.f15) (fun e => F15_j3 R (e 7)))) (fun e => k1 (e 7) (e 59) (e 60) (e 61))) = (F15_b2 R k1 (e 7) (e 59) (e 60) (e 61)) := (den_join Pg R 1 (cd Try.f15 [1,1,1,1,1,0,1,0,0]) (cd Try.f15 [1,1,1,1,1,0,1,0,0,1,1]) e (setN (inB 3 (setN (kont Pg R Try.f15) (fun e => F15_j3 R (e 7)))) (fun e => k1 (e 7) (e 59) (e 60) (e 61))) (fun e => F15_j10 R k1 (e 7) (e 59) (e 60) (e 61)) _ (by kernel_rfl) (fun e => F15_j10_ok R k1 e) (by kernel_rfl))
noncomputable def F15_l2 (R : ER) (n : Nat) : V4 := Nat.rec (motive := fun _ => V4) (fun _ _ _ _ => fun _ => False) (fun _ ih => fun x7 x59 x60 x61 => F15_b2 R ih x7 x59 x60 x61) n
theorem F15_l2_succ (R : ER) (n : Nat) (x7 x59 x60 x61 : Value) : F15_l2 R (n + 1) x7 x59 x60 x61 = F15_b2 R (F15_l2 R n) x7 x59 x60 x61 := rfl
theorem F15_l2_ok (R : ER) : ∀ (n : Nat) (e : Env), iterL (den Pg R (cd Try.f15 [1,1,1,1,1,0,1,0,0])) n e (inB 3 (setN (kont Pg R Try.f15) (fun e => F15_j3 R (e 7)))) = F15_l2 R n (e 7) (e 59) (e 60) (e 61) :=
  iterL_join (den Pg R (cd Try.f15 [1,1,1,1,1,0,1,0,0])) (inB 3 (setN (kont Pg R Try.f15) (fun e => F15_j3 R (e 7)))) (fun n e => F15_l2 R n (e 7) (e 59) (e 60) (e 61)) (fun _ => rfl) (fun n e => (F15_b2_ok R (F15_l2 R n) e).trans (F15_l2_succ R n (e 7) (e 59) (e 60) (e 61)).symm)
def F15_j9 (R : ER) (x7 x59 x60 x61 : Value) : WP :=
  exN fun n => F15_l2 R n x7 x59 x60 x61
theorem F15_j9_ok (R : ER) (e : Env) : den Pg R (cd Try.f15 [1,1,1,1,1,0,1]) e (setN (kont Pg R Try.f15) (fun e => F15_j3 R (e 7))) = (F15_j9 R (e 7) (e 59) (e 60) (e 61)) := (den_block Pg R (cd Try.f15 [1,1,1,1,1,0,1]) 3 (cd Try.f15 [1,1,1,1,1,0,1,0]) e (setN (kont Pg R Try.f15) (fun e => F15_j3 R (e 7))) _ (by kernel_rfl) (den_loop Pg R (cd Try.f15 [1,1,1,1,1,0,1,0]) (cd Try.f15 [1,1,1,1,1,0,1,0,0]) e (inB 3 (setN (kont Pg R Try.f15) (fun e => F15_j3 R (e 7)))) (fun n e => F15_l2 R n (e 7) (e 59) (e 60) (e 61)) _ (by kernel_rfl) (F15_l2_ok R) (by kernel_rfl)))
def F15_j8 (R : ER) (x0 x1 x7 : Value) : WP :=
  pv (nilO x0) fun v25 =>
  pv (faO 5 v25) fun v26 =>
  cal Pg R 35 ⟨[v26, x1]⟩ fun v27 =>
  pv (lenS v27) fun v28 =>
  F15_j9 R x7 v27 v28 (.int .i64 0)
theorem F15_j8_ok (R : ER) (e : Env) : den Pg R (cd Try.f15 [1,1,1,1,1,0]) e (setN (kont Pg R Try.f15) (fun e => F15_j3 R (e 7))) = (F15_j8 R (e 0) (e 1) (e 7)) := (den_join Pg R 0 (cd Try.f15 [1,1,1,1,1,0]) (cd Try.f15 [1,1,1,1,1,0,1]) e (setN (kont Pg R Try.f15) (fun e => F15_j3 R (e 7))) (fun e => F15_j9 R (e 7) (e 59) (e 60) (e 61)) _ (by kernel_rfl) (fun e => F15_j9_ok R e) (by kernel_rfl))
def F15_j2 (R : ER) (x0 x1 x7 : Value) : WP :=
  F15_j8 R x0 x1 x7
theorem F15_j2_ok (R : ER) (e : Env) : den Pg R (cd Try.f15 [1,1,1,1,1]) e (kont Pg R Try.f15) = (F15_j2 R (e 0) (e 1) (e 7)) := (den_join Pg R 0 (cd Try.f15 [1,1,1,1,1]) (cd Try.f15 [1,1,1,1,1,1]) e (kont Pg R Try.f15) (fun e => F15_j3 R (e 7)) _ (by kernel_rfl) (fun e => F15_j3_ok R e) (den_conv Pg R (pre 0 (cd Try.f15 [1,1,1,1,1])) (cd Try.f15 [1,1,1,1,1,0]) e (setN (kont Pg R Try.f15) (fun e => F15_j3 R (e 7))) _ (by kernel_rfl) (F15_j8_ok R e)))
def F15_j13 (R : ER) (k1 : V6) (x0 x1 x7 x40 x41 x42 : Value) : WP :=
  pv (ixS 4 x40 x42) fun v29 =>
  ldN 4 v29 fun v30 =>
  al Pg 88 fun v31 =>
  stN 4 v31 v30 fun _ =>
  pv (faO 0 v31) fun v32 =>
  ld1 v32 fun v33 =>
  pv (faO 1 v31) fun v34 =>
  ld1 v34 fun v35 =>
  pv (bldO [.int .i64 0, .int .i64 0] [(0,1, v33), (1,1, v35)]) fun v36 =>
  valV Pg R (Instr.buildSlice 97 1 ⟨[(0, v36)]⟩) fun v37 =>
  blt Pg R .append ⟨[97,97]⟩ 97 ⟨[false, false]⟩ ⟨[x7, v37]⟩ fun v38 =>
  pv (bin .add x42 (.int .i64 1)) fun v39 =>
  k1 x0 x1 v38 x40 x41 v39
theorem F15_j13_ok (R : ER) (k1 : V6) (e : Env) : den Pg R (cd Try.f15 [1,1,1,1,0,1,0,0,1,1]) e (setN (inB 1 (setN (kont Pg R Try.f15) (fun e => F15_j2 R (e 0) (e 1) (e 7)))) (fun e => k1 (e 0) (e 1) (e 7) (e 40) (e 41) (e 42))) = (F15_j13 R k1 (e 0) (e 1) (e 7) (e 40) (e 41) (e 42)) := by kernel_rfl
def F15_b3 (R : ER) (k1 : V6) (x0 x1 x7 x40 x41 x42 : Value) : WP :=
  pv (bin .lss x42 x41) fun v40 =>
  cnd v40 (
   F15_j13 R k1 x0 x1 x7 x40 x41 x42) (
   F15_j2 R x0 x1 x7)
theorem F15_b3_ok (R : ER) (k1 : V6) (e : Env) : den Pg R (cd Try.f15 [1,1,1,1,0,1,0,0]) e (setN (inB 1 (setN (kont Pg R Try.f15) (fun e => F15_j2 R (e 0) (e 1) (e 7)))) (fun e => k1 (e 0) (e 1) (e 7) (e 40) (e 41) (e 42))) = (F15_b3 R k1 (e 0) (e 1) (e 7) (e 40) (e 41) (e 42)) := (den_join Pg R 1 (cd Try.f15 [1,1,1,1,0,1,0,0]) (cd Try.f15 [1,1,1,1,0,1,0,0,1,1]) e (setN (inB 1 (setN (kont Pg R Try.f15) (fun e => F15_j2 R (e 0) (e 1) (e 7)))) (fun e => k1 (e 0) (e 1) (e 7) (e 40) (e 41) (e 42))) (fun e => F15_j13 R k1 (e 0) (e 1) (e 7) (e 40) (e 41) (e 42)) _ (by kernel_rfl) (fun e => F15_j13_ok R k1 e) (by kernel_rfl))
noncomputable def F15_l3 (R : ER) (n : Nat) : V6 := Nat.rec (motive := fun _ => V6) (fun _ _ _ _ _ _ => fun _ => False) (fun _ ih => fun x0 x1 x7 x40 x41 x42 => F15_b3 R ih x0 x1 x7 x40 x41 x42) n
theorem F15_l3_succ (R : ER) (n : Nat) (x0 x1 x7 x40 x41 x42 : Value) : F15_l3 R (n + 1) x0 x1 x7 x40 x41 x42 = F15_b3 R (F15_l3 R n) x0 x1 x7 x40 x41 x42 := rfl
theorem F15_l3_ok (R : ER) : ∀ (n : Nat) (e : Env), iterL (den Pg R (cd Try.f15 [1,1,1,1,0,1,0,0])) n e (inB 1 (setN (kont Pg R Try.f15) (fun e => F15_j2 R (e 0) (e 1) (e 7)))) = F15_l3 R n (e 0) (e 1) (e 7) (e 40) (e 41) (e 42) :=
  iterL_join (den Pg R (cd Try.f15 [1,1,1,1,0,1,0,0])) (inB 1 (setN (kont Pg R Try.f15) (fun e => F15_j2 R (e 0) (e 1) (e 7)))) (fun n e => F15_l3 R n (e 0) (e 1) (e 7) (e 40) (e 41) (e 42)) (fun _ => rfl) (fun n e => (F15_b3_ok R (F15_l3 R n) e).trans (F15_l3_succ R n (e 0) (e 1) (e 7) (e 40) (e 41) (e 42)).symm)
def F15_j12 (R : ER) (x0 x1 x7 x40 x41 x42 : Value) : WP :=
  exN fun n => F15_l3 R n x0 x1 x7 x40 x41 x42
theorem F15_j12_ok (R : ER) (e : Env) : den Pg R (cd Try.f15 [1,1,1,1,0,1]) e (setN (kont Pg R Try.f15) (fun e => F15_j2 R (e 0) (e 1) (e 7))) = (F15_j12 R (e 0) (e 1) (e 7) (e 40) (e 41) (e 42)) := (den_block Pg R (cd Try.f15 [1,1,1,1,0,1]) 1 (cd Try.f15 [1,1,1,1,0,1,0]) e (setN (kont Pg R Try.f15) (fun e => F15_j2 R (e 0) (e 1) (e 7))) _ (by kernel_rfl) (den_loop Pg R (cd Try.f15 [1,1,1,1,0,1,0]) (cd Try.f15 [1,1,1,1,0,1,0,0]) e (inB 1 (setN (kont Pg R Try.f15) (fun e => F15_j2 R (e 0) (e 1) (e 7)))) (fun n e => F15_l3 R n (e 0) (e 1) (e 7) (e 40) (e 41) (e 42)) _ (by kernel_rfl) (F15_l3_ok R) (by kernel_rfl)))
def F15_j11 (R : ER) (x0 x1 x7 : Value) : WP :=
  pv (nilO x0) fun v41 =>
  pv (faO 6 v41) fun v42 =>
  cal Pg R 34 ⟨[v42, x1]⟩ fun v43 =>
  pv (lenS v43) fun v44 =>
  F15_j12 R x0 x1 x7 v43 v44 (.int .i64 0)
theorem F15_j11_ok (R : ER) (e : Env) : den Pg R (cd Try.f15 [1,1,1,1,0]) e (setN (kont Pg R Try.f15) (fun e => F15_j2 R (e 0) (e 1) (e 7))) = (F15_j11 R (e 0) (e 1) (e 7)) := (den_join Pg R 0 (cd Try.f15 [1,1,1,1,0]) (cd Try.f15 [1,1,1,1,0,1]) e (setN (kont Pg R Try.f15) (fun e => F15_j2 R (e 0) (e 1) (e 7))) (fun e => F15_j12 R (e 0) (e 1) (e 7) (e 40) (e 41) (e 42)) _ (by kernel_rfl) (fun e => F15_j12_ok R e) (by kernel_rfl))
def F15_j1 (R : ER) (x0 x1 : Value) : WP :=
  pv (nilO x0) fun v45 =>
  pv (faO 4 v45) fun v46 =>
  st1 v46 x1 fun _ =>
  F15_j11 R x0 x1 (.slice none 0 0)
theorem F15_j1_ok (R : ER) (e : Env) : den Pg R (cd Try.f15 [1,1]) e (kont Pg R Try.f15) = (F15_j1 R (e 0) (e 1)) := (den_join Pg R 2 (cd Try.f15 [1,1]) (cd Try.f15 [1,1,1,1,1]) e (kont Pg R Try.f15) (fun e => F15_j2 R (e 0) (e 1) (e 7)) _ (by kernel_rfl) (fun e => F15_j2_ok R e) (den_join Pg R 1 (pre 2 (cd Try.f15 [1,1])) (cd Try.f15 [1,1,1,1,0]) e (setN (kont Pg R Try.f15) (fun e => F15_j2 R (e 0) (e 1) (e 7))) (fun e => F15_j11 R (e 0) (e 1) (e 7)) _ (by kernel_rfl) (fun e => F15_j11_ok R e) (by kernel_rfl)))
def F15_j18 (R : ER) (x0 x1 : Value) : WP :=
  pv (nilO x0) fun v47 =>
  pv (faO 4 v47) fun v48 =>
  ld1 v48 fun v49 =>
  pv (bin .lss x1 v49) fun v50 =>
  cnd v50 (
   R (.returned (.tuple ⟨[(.slice none 0 0), (.slice none 0 0), (.int .i64 30)]⟩))) (
   F15_j1 R x0 x1)
theorem F15_j18_ok (R : ER) (e : Env) : den Pg R (cd Try.f15 [1,0,0,1,1,1,1]) e (inB 0 (setN (kont Pg R Try.f15) (fun e => F15_j1 R (e 0) (e 1)))) = (F15_j18 R (e 0) (e 1)) := by kernel_rfl
def F15_j17 (R : ER) (x0 x1 x18 : Value) : WP :=
  cnd x18 (R (.returned (.tuple ⟨[(.slice none 0 0), (.slice none 0 0), (.int .i64 34)]⟩))) (F15_j18 R x0 x1)
theorem F15_j17_ok (R : ER) (e : Env) : den Pg R (cd Try.f15 [1,0,0,1,1,1]) e (inB 0 (setN (kont Pg R Try.f15) (fun e => F15_j1 R (e 0) (e 1)))) = (F15_j17 R (e 0) (e 1) (e 18)) := (den_if Pg R (cd Try.f15 [1,0,0,1,1,1]) (cd Try.f15 [1,0,0,1,1,1,0]) (cd Try.f15 [1,0,0,1,1,1,1]) e (inB 0 (setN (kont Pg R Try.f15) (fun e => F15_j1 R (e 0) (e 1)))) _ (F15_j18 R (e 0) (e 1)) _ (by kernel_rfl) rfl (F15_j18_ok R e) (by kernel_rfl))
def F15_j16 (R : ER) (x0 x1 : Value) : WP :=
  pv (bin .lss x1 (.int .i64 0)) fun v51 =>
  gd v51 false (pv (some x1)) fun v52 =>
  gd v51 false (pv (bin .gtr v52 (.int .i64 1099511627776))) fun v53 =>
  pv (pickO v51 (.bool true) v53) fun v54 =>
  F15_j17 R x0 x1 v54
theorem F15_j16_ok (R : ER) (e : Env) : den Pg R (cd Try.f15 [1,0,0,1,1]) e (inB 0 (setN (kont Pg R Try.f15) (fun e => F15_j1 R (e 0) (e 1)))) = (F15_j16 R (e 0) (e 1)) := (den_join Pg R 0 (cd Try.f15 [1,0,0,1,1]) (cd Try.f15 [1,0,0,1,1,1]) e (inB 0 (setN (kont Pg R Try.f15) (fun e => F15_j1 R (e 0) (e 1)))) (fun e => F15_j17 R (e 0) (e 1) (e 18)) _ (by kernel_rfl) (fun e => F15_j17_ok R e) (by kernel_rfl))
def F15_j15 (R : ER) (x0 x1 x15 : Value) : WP :=
  cnd x15 (R (.returned (.tuple ⟨[(.slice none 0 0), (.slice none 0 0), (.int .i64 35)]⟩))) (F15_j16 R x0 x1)
theorem F15_j15_ok (R : ER) (e : Env) : den Pg R (cd Try.f15 [1,0,0,1]) e (inB 0 (setN (kont Pg R Try.f15) (fun e => F15_j1 R (e 0) (e 1)))) = (F15_j15 R (e 0) (e 1) (e 15)) := (den_if Pg R (cd Try.f15 [1,0,0,1]) (cd Try.f15 [1,0,0,1,0]) (cd Try.f15 [1,0,0,1,1]) e (inB 0 (setN (kont Pg R Try.f15) (fun e => F15_j1 R (e 0) (e 1)))) _ (F15_j16 R (e 0) (e 1)) _ (by kernel_rfl) rfl (F15_j16_ok R e) (by kernel_rfl))
def F15_j14 (R : ER) (x0 x1 : Value) : WP :=
  pv (eqNilP x0) fun v55 =>
  F15_j15 R x0 x1 v55
theorem F15_j14_ok (R : ER) (e : Env) : den Pg R (cd Try.f15 [1,0]) e (setN (kont Pg R Try.f15) (fun e => F15_j1 R (e 0) (e 1))) = (F15_j14 R (e 0) (e 1)) := (den_block Pg R (cd Try.f15 [1,0]) 0 (cd Try.f15 [1,0,0]) e (setN (kont Pg R Try.f15) (fun e => F15_j1 R (e 0) (e 1))) _ (by kernel_rfl) (den_join Pg R 0 (cd Try.f15 [1,0,0]) (cd Try.f15 [1,0,0,1]) e (inB 0 (setN (kont Pg R Try.f15) (fun e => F15_j1 R (e 0) (e 1)))) (fun e => F15_j15 R (e 0) (e 1) (e 15)) _ (by kernel_rfl) (fun e => F15_j15_ok R e) (by kernel_rfl)))
def F15 (R : ER) (x0 x1 : Value) : WP :=
  F15_j14 R x0 x1
theorem F15_den (R : ER) (x0 x1 : Value) : den Pg R (cd Try.f15 []) (argsEnv [x0, x1]) (kont Pg R Try.f15) = F15 R x0 x1 :=
  have h : ∀ e, den Pg R (cd Try.f15 []) e (kont Pg R Try.f15) = F15 R (e 0) (e 1) := fun e => (den_join Pg R 1 (cd Try.f15 []) (cd Try.f15 [1,1]) e (kont Pg R Try.f15) (fun e => F15_j1 R (e 0) (e 1)) _ (by kernel_rfl) (fun e => F15_j1_ok R e) (den_join Pg R 0 (pre 1 (cd Try.f15 [])) (cd Try.f15 [1,0]) e (setN (kont Pg R Try.f15) (fun e => F15_j1 R (e 0) (e 1))) (fun e => F15_j14 R (e 0) (e 1)) _ (by kernel_rfl) (fun e => F15_j14_ok R e) (by kernel_rfl)))
  h _
theorem F15_calls {R : ER} {x0 x1 : Value} {w : World} (h : F15 R x0 x1 w) : Calls Pg 15 ⟨[x0, x1]⟩ w R :=
  calls_of_den Try.func15 (by kernel_rfl) (by kernel_rfl) (F15_den R x0 x1) h
/-! ### 16: mqueue_Queue_Senders -/
def F16 (R : ER) (x0 : Value) : WP :=
  pv (eqNilP x0) fun v1 =>
  cnd v1 (
   R (.returned (.slice none 0 0))) (
   pv (nilO x0) fun v2 =>
  pv (faO 6 v2) fun v3 =>
  cal Pg R 39 ⟨[v3]⟩ fun v4 =>
  R (.returned v4))
theorem F16_den (R : ER) (x0 : Value) : den Pg R (cd Try.f16 []) (argsEnv [x0]) (kont Pg R Try.f16) = F16 R x0 :=
  have h : ∀ e, den Pg R (cd Try.f16 []) e (kont Pg R Try.f16) = F16 R (e 0) := fun e => by kernel_rfl
  h _
theorem F16_calls {R : ER} {x0 : Value} {w : World} (h : F16 R x0 w) : Calls Pg 16 ⟨[x0]⟩ w R :=
  calls_of_den Try.func16 (by kernel_rfl) (by kernel_rfl) (F16_den R x0) h
/-! ### 17: mqueue_Queue_Receivers -/
def F17 (R : ER) (x0 : Value) : WP :=
  pv (eqNilP x0) fun v1 =>
  cnd v1 (
   R (.returned (.slice none 0 0))) (
   pv (nilO x0) fun v2 =>
  pv (faO 5 v2) fun v3 =>
  cal Pg R 40 ⟨[v3]⟩ fun v4 =>
  R (.returned v4))
theorem F17_den (R : ER) (x0 : Value) : den Pg R (cd Try.f17 []) (argsEnv [x0]) (kont Pg R Try.f17) = F17 R x0 :=
  have h : ∀ e, den Pg R (cd Try.f17 []) e (kont Pg R Try.f17) = F17 R (e 0) := fun e => by kernel_rfl
  h _
theorem F17_calls {R : ER} {x0 : Value} {w : World} (h : F17 R x0 w) : Calls Pg 17 ⟨[x0]⟩ w R :=
  calls_of_den Try.func17 (by kernel_rfl) (by kernel_rfl) (F17_den R x0) h
/-! ### 18: mqueue_Queue_Cancel -/
def F18 (R : ER) (x0 x1 : Value) : WP :=
  pv (eqNilP x0) fun v1 =>
  cnd v1 (
   R (.returned (.tuple ⟨[(.slice none 0 0), (.slice none 0 0), (.int .i64 35)]⟩))) (
   pv (nilO x0) fun v2 =>
   pv (faO 6 v2) fun v3 =>
   cal Pg R 41 ⟨[v3, x1]⟩ fun v4 =>
   pv (unO .not v4) fun v5 =>
   gd v5 true (pv (some x0)) fun v6 =>
   gd v5 true (pv (nilO v6)) fun v7 =>
   gd v5 true (pv (faO 5 v7)) fun v8 =>
   gd v5 true (pv (some x1)) fun v9 =>
   gd v5 true (cal Pg R 42 ⟨[v8, v9]⟩) fun v10 =>
   gd v5 true (pv (unO .not v10)) fun v11 =>
   pv (pickO v5 v11 (.bool false)) fun v12 =>
   cnd v12 (
    R (.returned (.tuple ⟨[(.slice none 0 0), (.slice none 0 0), (.int .i64 22)]⟩))) (
    pv (bldO [.int .i64 0, .int .i64 0, .slice none 0 0, .int .i64 0] [(0,1, x1), (3,1, (.int .i64 13))]) fun v13 =>
  valV Pg R (Instr.buildSlice 32 1 ⟨[(0, v13)]⟩) fun v14 =>
  R (.returned (.tuple ⟨[v14, (.slice none 0 0), (.int .i64 0)]⟩))))
theorem F18_den (R : ER) (x0 x1 : Value) : den Pg R (cd Try.f18 []) (argsEnv [x0, x1]) (kont Pg R Try.f18) = F18 R x0 x1 :=
  have h : ∀ e, den Pg R (cd Try.f18 []) e (kont Pg R Try.f18) = F18 R (e 0) (e 1) := fun e => (by kernel_rfl)
  h _
theorem F18_calls {R : ER} {x0 x1 : Value} {w : World} (h : F18 R x0 x1 w) : Calls Pg 18 ⟨[x0, x1]⟩ w R :=
  calls_of_den Try.func18 (by kernel_rfl) (by kernel_rfl) (F18_den R x0 x1) h
/-! ### 19: mqueue_Queue_Register -/
def F19 (R : ER) (x0 x1 : Value) : WP :=
  bx 60 x1 fun v1 =>
  pv (eqNilP x0) fun v2 =>
  cnd v2 (
   R (.returned (.int .i64 35))) (
   pv (faO 0 v1) fun v3 =>
   ld1 v3 fun v4 =>
   pv (bin .lss v4 (.int .i64 0)) fun v5 =>
   gd v5 false (pv (faO 0 v1)) fun v6 =>
   gd v5 false (ld1 v6) fun v7 =>
   gd v5 false (pv (bin .geq v7 (.int .i64 256))) fun v8 =>
   pv (pickO v5 (.bool true) v8) fun v9 =>
   cnd v9 (
    R (.returned (.int .i64 34))) (
    pv (faO 1 v1) fun v10 =>
    pv (faO 0 v10) fun v11 =>
    ld1 v11 fun v12 =>
    pv (bin .lss v12 (.int .i64 0)) fun v13 =>
    gd v13 false (pv (faO 1 v1)) fun v14 =>
    gd v13 false (pv (faO 0 v14)) fun v15 =>
    gd v13 false (ld1 v15) fun v16 =>
    gd v13 false (pv (bin .geq v16 (.int .i64 5))) fun v17 =>
    pv (pickO v13 (.bool true) v17) fun v18 =>
    cnd v18 (
     R (.returned (.int .i64 17))) (
     pv (nilO x0) fun v19 =>
     pv (faO 7 v19) fun v20 =>
     ld1 v20 fun v21 =>
     pv (neNilP v21) fun v22 =>
     cnd v22 (
      R (.returned (.int .i64 5))) (
      pv (nilO x0) fun v23 =>
  pv (faO 7 v23) fun v24 =>
  st1 v24 v1 fun _ =>
  R (.returned (.int .i64 0))))))
theorem F19_den (R : ER) (x0 x1 : Value) : den Pg R (cd Try.f19 []) (argsEnv [x0, x1]) (kont Pg R Try.f19) = F19 R x0 x1 :=
  have h : ∀ e, den Pg R (cd Try.f19 []) e (kont Pg R Try.f19) = F19 R (e 0) (e 1) := fun e => (by kernel_rfl)
  h _
theorem F19_calls {R : ER} {x0 x1 : Value} {w : World} (h : F19 R x0 x1 w) : Calls Pg 19 ⟨[x0, x1]⟩ w R :=
  calls_of_den Try.func19 (by kernel_rfl) (by kernel_rfl) (F19_den R x0 x1) h
/-! ### 20: mqueue_Queue_Unregister -/
def F20 (R : ER) (x0 x1 : Value) : WP :=
  pv (eqNilP x0) fun v1 =>
  cnd v1 (
   R (.returned (.int .i64 35))) (
   pv (nilO x0) fun v2 =>
   pv (faO 7 v2) fun v3 =>
   ld1 v3 fun v4 =>
   pv (eqNilP v4) fun v5 =>
   gd v5 false (pv (some x0)) fun v6 =>
   gd v5 false (pv (nilO v6)) fun v7 =>
   gd v5 false (pv (faO 7 v7)) fun v8 =>
   gd v5 false (ld1 v8) fun v9 =>
   gd v5 false (pv (nilO v9)) fun v10 =>
   gd v5 false (pv (faO 0 v10)) fun v11 =>
   gd v5 false (ld1 v11) fun v12 =>
   gd v5 false (pv (some x1)) fun v13 =>
   gd v5 false (pv (bin .neq v12 v13)) fun v14 =>
   pv (pickO v5 (.bool true) v14) fun v15 =>
   cnd v15 (
    R (.returned (.int .i64 22))) (
    pv (nilO x0) fun v16 =>
  pv (faO 7 v16) fun v17 =>
  st1 v17 (.pointer none) fun _ =>
  R (.returned (.int .i64 0))))
theorem F20_den (R : ER) (x0 x1 : Value) : den Pg R (cd Try.f20 []) (argsEnv [x0, x1]) (kont Pg R Try.f20) = F20 R x0 x1 :=
  have h : ∀ e, den Pg R (cd Try.f20 []) e (kont Pg R Try.f20) = F20 R (e 0) (e 1) := fun e => (by kernel_rfl)
  h _
theorem F20_calls {R : ER} {x0 x1 : Value} {w : World} (h : F20 R x0 x1 w) : Calls Pg 20 ⟨[x0, x1]⟩ w R :=
  calls_of_den Try.func20 (by kernel_rfl) (by kernel_rfl) (F20_den R x0 x1) h
/-! ### 21: mqueue_Queue_Now -/
def F21 (R : ER) (x0 : Value) : WP :=
  pv (eqNilP x0) fun v1 =>
  cnd v1 (
   R (.returned (.int .i64 0))) (
   pv (nilO x0) fun v2 =>
  pv (faO 4 v2) fun v3 =>
  ld1 v3 fun v4 =>
  R (.returned v4))
theorem F21_den (R : ER) (x0 : Value) : den Pg R (cd Try.f21 []) (argsEnv [x0]) (kont Pg R Try.f21) = F21 R x0 :=
  have h : ∀ e, den Pg R (cd Try.f21 []) e (kont Pg R Try.f21) = F21 R (e 0) := fun e => by kernel_rfl
  h _
theorem F21_calls {R : ER} {x0 : Value} {w : World} (h : F21 R x0 w) : Calls Pg 21 ⟨[x0]⟩ w R :=
  calls_of_den Try.func21 (by kernel_rfl) (by kernel_rfl) (F21_den R x0) h
/-! ### 22: mqueue_Queue_Messages -/
def F22_j2 (R : ER) (x4 : Value) : WP :=
  R (.returned x4)
theorem F22_j2_ok (R : ER) (e : Env) : den Pg R (cd Try.f22 [1,1,1,1,1,1]) e (kont Pg R Try.f22) = (F22_j2 R (e 4)) := by kernel_rfl
def F22_j5 (R : ER) (k1 : V4) (x4 x16 x17 x18 : Value) : WP :=
  pv (ixS 3 x16 x18) fun v1 =>
  ldN 3 v1 fun v2 =>
  al Pg 93 fun v3 =>
  stN 3 v3 v2 fun _ =>
  pv (faO 0 v3) fun v4 =>
  ldN 2 v4 fun v5 =>
  cal Pg R 30 ⟨[v5]⟩ fun v6 =>
  valV Pg R (Instr.buildSlice 64 1 ⟨[(0, v6)]⟩) fun v7 =>
  blt Pg R .append ⟨[64,64]⟩ 64 ⟨[false, false]⟩ ⟨[x4, v7]⟩ fun v8 =>
  pv (bin .add x18 (.int .i64 1)) fun v9 =>
  k1 v8 x16 x17 v9
theorem F22_j5_ok (R : ER) (k1 : V4) (e : Env) : den Pg R (cd Try.f22 [1,1,1,1,1,0,1,0,0,1,1]) e (setN (inB 0 (setN (kont Pg R Try.f22) (fun e => F22_j2 R (e 4)))) (fun e => k1 (e 4) (e 16) (e 17) (e 18))) = (F22_j5 R k1 (e 4) (e 16) (e 17) (e 18)) := by kernel_rfl
def F22_b1 (R : ER) (k1 : V4) (x4 x16 x17 x18 : Value) : WP :=
  pv (bin .lss x18 x17) fun v10 =>
  cnd v10 (
   F22_j5 R k1 x4 x16 x17 x18) (
   F22_j2 R x4)
theorem F22_b1_ok (R : ER) (k1 : V4) (e : Env) : den Pg R (cd Try.f22 [1,1,1,1,1,0,1,0,0]) e (setN (inB 0 (setN (kont Pg R Try.f22) (fun e => F22_j2 R (e 4)))) (fun e => k1 (e 4) (e 16) (e 17) (e 18))) = (F22_b1 R k1 (e 4) (e 16) (e 17) (e 18)) := (den_join Pg R 1 (cd Try.f22 [1,1,1,1,1,0,1,0,0]) (cd Try.f22 [1,1,1,1,1,0,1,0,0,1,1]) e (setN (inB 0 (setN (kont Pg R Try.f22) (fun e => F22_j2 R (e 4)))) (fun e => k1 (e 4) (e 16) (e 17) (e 18))) (fun e => F22_j5 R k1 (e 4) (e 16) (e 17) (e 18)) _ (by kernel_rfl) (fun e => F22_j5_ok R k1 e) (by kernel_rfl))
noncomputable def F22_l1 (R : ER) (n : Nat) : V4 := Nat.rec (motive := fun _ => V4) (fun _ _ _ _ => fun _ => False) (fun _ ih => fun x4 x16 x17 x18 => F22_b1 R ih x4 x16 x17 x18) n
theorem F22_l1_succ (R : ER) (n : Nat) (x4 x16 x17 x18 : Value) : F22_l1 R (n + 1) x4 x16 x17 x18 = F22_b1 R (F22_l1 R n) x4 x16 x17 x18 := rfl
theorem F22_l1_ok (R : ER) : ∀ (n : Nat) (e : Env), iterL (den Pg R (cd Try.f22 [1,1,1,1,1,0,1,0,0])) n e (inB 0 (setN (kont Pg R Try.f22) (fun e => F22_j2 R (e 4)))) = F22_l1 R n (e 4) (e 16) (e 17) (e 18) :=
  iterL_join (den Pg R (cd Try.f22 [1,1,1,1,1,0,1,0,0])) (inB 0 (setN (kont Pg R Try.f22) (fun e => F22_j2 R (e 4)))) (fun n e => F22_l1 R n (e 4) (e 16) (e 17) (e 18)) (fun _ => rfl) (fun n e => (F22_b1_ok R (F22_l1 R n) e).trans (F22_l1_succ R n (e 4) (e 16) (e 17) (e 18)).symm)
def F22_j4 (R : ER) (x4 x16 x17 x18 : Value) : WP :=
  exN fun n => F22_l1 R n x4 x16 x17 x18
theorem F22_j4_ok (R : ER) (e : Env) : den Pg R (cd Try.f22 [1,1,1,1,1,0,1]) e (setN (kont Pg R Try.f22) (fun e => F22_j2 R (e 4))) = (F22_j4 R (e 4) (e 16) (e 17) (e 18)) := (den_block Pg R (cd Try.f22 [1,1,1,1,1,0,1]) 0 (cd Try.f22 [1,1,1,1,1,0,1,0]) e (setN (kont Pg R Try.f22) (fun e => F22_j2 R (e 4))) _ (by kernel_rfl) (den_loop Pg R (cd Try.f22 [1,1,1,1,1,0,1,0]) (cd Try.f22 [1,1,1,1,1,0,1,0,0]) e (inB 0 (setN (kont Pg R Try.f22) (fun e => F22_j2 R (e 4)))) (fun n e => F22_l1 R n (e 4) (e 16) (e 17) (e 18)) _ (by kernel_rfl) (F22_l1_ok R) (by kernel_rfl)))
def F22_j3 (R : ER) (x3 x4 : Value) : WP :=
  pv (lenS x3) fun v11 =>
  F22_j4 R x4 x3 v11 (.int .i64 0)
theorem F22_j3_ok (R : ER) (e : Env) : den Pg R (cd Try.f22 [1,1,1,1,1,0]) e (setN (kont Pg R Try.f22) (fun e => F22_j2 R (e 4))) = (F22_j3 R (e 3) (e 4)) := (den_join Pg R 0 (cd Try.f22 [1,1,1,1,1,0]) (cd Try.f22 [1,1,1,1,1,0,1]) e (setN (kont Pg R Try.f22) (fun e => F22_j2 R (e 4))) (fun e => F22_j4 R (e 4) (e 16) (e 17) (e 18)) _ (by kernel_rfl) (fun e => F22_j4_ok R e) (by kernel_rfl))
def F22_j1 (R : ER) (x0 : Value) : WP :=
  pv (nilO x0) fun v12 =>
  pv (faO 0 v12) fun v13 =>
  ld1 v13 fun v14 =>
  cal Pg R 43 ⟨[v14]⟩ fun v15 =>
  cal Pg R 44 ⟨[v15, (.func (.func 45) ⟨[]⟩ ⟨[]⟩)]⟩ fun v16 =>
  F22_j3 R v15 (.slice none 0 0)
theorem F22_j1_ok (R : ER) (e : Env) : den Pg R (cd Try.f22 [1,1]) e (kont Pg R Try.f22) = (F22_j1 R (e 0)) := (den_join Pg R 3 (cd Try.f22 [1,1]) (cd Try.f22 [1,1,1,1,1,1]) e (kont Pg R Try.f22) (fun e => F22_j2 R (e 4)) _ (by kernel_rfl) (fun e => F22_j2_ok R e) (den_join Pg R 2 (pre 3 (cd Try.f22 [1,1])) (cd Try.f22 [1,1,1,1,1,0]) e (setN (kont Pg R Try.f22) (fun e => F22_j2 R (e 4))) (fun e => F22_j3 R (e 3) (e 4)) _ (by kernel_rfl) (fun e => F22_j3_ok R e) (by kernel_rfl)))
def F22 (R : ER) (x0 : Value) : WP :=
  pv (eqNilP x0) fun v17 =>
  cnd v17 (
   R (.returned (.slice none 0 0))) (
   F22_j1 R x0)
theorem F22_den (R : ER) (x0 : Value) : den Pg R (cd Try.f22 []) (argsEnv [x0]) (kont Pg R Try.f22) = F22 R x0 :=
  have h : ∀ e, den Pg R (cd Try.f22 []) e (kont Pg R Try.f22) = F22 R (e 0) := fun e => (den_join Pg R 1 (cd Try.f22 []) (cd Try.f22 [1,1]) e (kont Pg R Try.f22) (fun e => F22_j1 R (e 0)) _ (by kernel_rfl) (fun e => F22_j1_ok R e) (by kernel_rfl))
  h _
theorem F22_calls {R : ER} {x0 : Value} {w : World} (h : F22 R x0 w) : Calls Pg 22 ⟨[x0]⟩ w R :=
  calls_of_den Try.func22 (by kernel_rfl) (by kernel_rfl) (F22_den R x0) h
/-! ### 23: slices_ContainsFunc -/
def F23 (R : ER) (x0 x1 : Value) : WP :=
  cal Pg R 46 ⟨[x0, x1]⟩ fun v1 =>
  pv (bin .geq v1 (.int .i64 0)) fun v2 =>
  R (.returned v2)
theorem F23_den (R : ER) (x0 x1 : Value) : den Pg R (cd Try.f23 []) (argsEnv [x0, x1]) (kont Pg R Try.f23) = F23 R x0 x1 :=
  have h : ∀ e, den Pg R (cd Try.f23 []) e (kont Pg R Try.f23) = F23 R (e 0) (e 1) := fun e => by kernel_rfl
  h _
theorem F23_calls {R : ER} {x0 x1 : Value} {w : World} (h : F23 R x0 x1 w) : Calls Pg 23 ⟨[x0, x1]⟩ w R :=
  calls_of_den Try.func23 (by kernel_rfl) (by kernel_rfl) (F23_den R x0 x1) h
/-! ### 24: orpimentlaw25_MqueueNil_1 -/
def F24 (R : ER) (x0 : Value) : WP :=
  pv (bin .neq x0 (.int .i64 35)) fun v1 =>
  R (.returned v1)
theorem F24_den (R : ER) (x0 : Value) : den Pg R (cd Try.f24 []) (argsEnv [x0]) (kont Pg R Try.f24) = F24 R x0 :=
  have h : ∀ e, den Pg R (cd Try.f24 []) e (kont Pg R Try.f24) = F24 R (e 0) := fun e => by kernel_rfl
  h _
theorem F24_calls {R : ER} {x0 : Value} {w : World} (h : F24 R x0 w) : Calls Pg 24 ⟨[x0]⟩ w R :=
  calls_of_den Try.func24 (by kernel_rfl) (by kernel_rfl) (F24_den R x0) h
/-! ### 25: mqueue_valid -/
def F25 (R : ER) (x0 x1 : Value) : WP :=
  pv (bin .geq x0 (.int .i64 0)) fun v1 =>
  gd v1 true (pv (some x0)) fun v2 =>
  gd v1 true (pv (bin .lss v2 (.int .i64 256))) fun v3 =>
  pv (pickO v1 v3 (.bool false)) fun v4 =>
  gd v4 true (pv (some x1)) fun v5 =>
  gd v4 true (pv (bin .geq v5 (.int .i64 0))) fun v6 =>
  pv (pickO v4 v6 (.bool false)) fun v7 =>
  gd v7 true (pv (some x1)) fun v8 =>
  gd v7 true (pv (bin .leq v8 (.int .i64 1099511627776))) fun v9 =>
  pv (pickO v7 v9 (.bool false)) fun v10 =>
  R (.returned v10)
theorem F25_den (R : ER) (x0 x1 : Value) : den Pg R (cd Try.f25 []) (argsEnv [x0, x1]) (kont Pg R Try.f25) = F25 R x0 x1 :=
  have h : ∀ e, den Pg R (cd Try.f25 []) e (kont Pg R Try.f25) = F25 R (e 0) (e 1) := fun e => by kernel_rfl
  h _
theorem F25_calls {R : ER} {x0 x1 : Value} {w : World} (h : F25 R x0 x1 w) : Calls Pg 25 ⟨[x0, x1]⟩ w R :=
  calls_of_den Try.func25 (by kernel_rfl) (by kernel_rfl) (F25_den R x0 x1) h
/-! ### 26: mqueue_Queue_blocked -/
def F26 (R : ER) (x0 x1 : Value) : WP :=
  pv (nilO x0) fun v1 =>
  pv (faO 6 v1) fun v2 =>
  cal Pg R 39 ⟨[v2]⟩ fun v3 =>
  cal Pg R 47 ⟨[v3, x1]⟩ fun v4 =>
  gd v4 false (pv (some x0)) fun v5 =>
  gd v4 false (pv (nilO v5)) fun v6 =>
  gd v4 false (pv (faO 5 v6)) fun v7 =>
  gd v4 false (cal Pg R 40 ⟨[v7]⟩) fun v8 =>
  gd v4 false (pv (some x1)) fun v9 =>
  gd v4 false (cal Pg R 47 ⟨[v8, v9]⟩) fun v10 =>
  pv (pickO v4 (.bool true) v10) fun v11 =>
  R (.returned v11)
theorem F26_den (R : ER) (x0 x1 : Value) : den Pg R (cd Try.f26 []) (argsEnv [x0, x1]) (kont Pg R Try.f26) = F26 R x0 x1 :=
  have h : ∀ e, den Pg R (cd Try.f26 []) e (kont Pg R Try.f26) = F26 R (e 0) (e 1) := fun e => by kernel_rfl
  h _
theorem F26_calls {R : ER} {x0 x1 : Value} {w : World} (h : F26 R x0 x1 w) : Calls Pg 26 ⟨[x0, x1]⟩ w R :=
  calls_of_den Try.func26 (by kernel_rfl) (by kernel_rfl) (F26_den R x0 x1) h
/-! ### 27: mqueue_messages_Len -/
def F27 (R : ER) (x0 : Value) : WP :=
  pv (lenS x0) fun v1 =>
  R (.returned v1)
theorem F27_den (R : ER) (x0 : Value) : den Pg R (cd Try.f27 []) (argsEnv [x0]) (kont Pg R Try.f27) = F27 R x0 :=
  have h : ∀ e, den Pg R (cd Try.f27 []) e (kont Pg R Try.f27) = F27 R (e 0) := fun e => by kernel_rfl
  h _
theorem F27_calls {R : ER} {x0 : Value} {w : World} (h : F27 R x0 w) : Calls Pg 27 ⟨[x0]⟩ w R :=
  calls_of_den Try.func27 (by kernel_rfl) (by kernel_rfl) (F27_den R x0) h
/-! ### 28: mqueue_Queue_put -/
def F28_j2 (R : ER) (x0 : Value) : WP :=
  pv (nilO x0) fun v1 =>
  pv (faO 7 v1) fun v2 =>
  ld1 v2 fun v3 =>
  pv (nilO v3) fun v4 =>
  ldN 6 v4 fun v5 =>
  al Pg 60 fun v6 =>
  stN 6 v6 v5 fun _ =>
  pv (nilO x0) fun v7 =>
  pv (faO 7 v7) fun v8 =>
  st1 v8 (.pointer none) fun _ =>
  drewV (
  ldN 6 v6 fun v9 =>
  mem fun w11 => valV Pg noR (Instr.buildSlice 33 1 ⟨[(0, v9)]⟩) fun v10 =>
  R (.returned (.tuple ⟨[(.slice none 0 0), v10]⟩)))
theorem F28_j2_ok (R : ER) (e : Env) : den Pg R (cd Try.f28 [1,1,1,1,1]) e (kont Pg R Try.f28) = (F28_j2 R (e 0)) := by kernel_rfl
def F28_j3 (R : ER) (x0 : Value) : WP :=
  pv (nilO x0) fun v12 =>
  pv (faO 0 v12) fun v13 =>
  ld1 v13 fun v14 =>
  cal Pg R 27 ⟨[v14]⟩ fun v15 =>
  pv (bin .gtr v15 (.int .i64 1)) fun v16 =>
  gd v16 false (pv (some x0)) fun v17 =>
  gd v16 false (pv (nilO v17)) fun v18 =>
  gd v16 false (pv (faO 7 v18)) fun v19 =>
  gd v16 false (ld1 v19) fun v20 =>
  gd v16 false (pv (eqNilP v20)) fun v21 =>
  pv (pickO v16 (.bool true) v21) fun v22 =>
  cnd v22 (
   R (.returned (.tuple ⟨[(.slice none 0 0), (.slice none 0 0)]⟩))) (
   F28_j2 R x0)
theorem F28_j3_ok (R : ER) (e : Env) : den Pg R (cd Try.f28 [1,1,1,1,0]) e (setN (kont Pg R Try.f28) (fun e => F28_j2 R (e 0))) = (F28_j3 R (e 0)) := (by kernel_rfl)
def F28_j1 (R : ER) (x0 x3 : Value) : WP :=
  pv (nilO x0) fun v23 =>
  pv (faO 3 v23) fun v24 =>
  ld1 v24 fun v25 =>
  pv (bin .add v25 (.int .i64 1)) fun v26 =>
  pv (nilO x0) fun v27 =>
  pv (faO 3 v27) fun v28 =>
  st1 v28 v26 fun _ =>
  drewV (
  ldN 2 x3 fun v29 =>
  mem fun w31 => cal Pg noR 30 ⟨[v29]⟩ fun v30 =>
  pv (nilO x0) fun v32 =>
  pv (faO 3 v32) fun v33 =>
  ld1S [w31] v33 fun v34 =>
  pv (bldO [.int .i64 0, .slice none 0 0, .int .i64 0] [(0,2, v30), (2,1, v34)]) fun v35 =>
  mem fun w37 => cal Pg noR 49 ⟨[(.iface 23 x0), (.iface 93 v35)]⟩ fun v36 =>
  F28_j3 R x0)
theorem F28_j1_ok (R : ER) (e : Env) : den Pg R (cd Try.f28 [1,1]) e (kont Pg R Try.f28) = (F28_j1 R (e 0) (e 3)) := (den_join Pg R 2 (cd Try.f28 [1,1]) (cd Try.f28 [1,1,1,1,1]) e (kont Pg R Try.f28) (fun e => F28_j2 R (e 0)) _ (by kernel_rfl) (fun e => F28_j2_ok R e) (den_join Pg R 1 (pre 2 (cd Try.f28 [1,1])) (cd Try.f28 [1,1,1,1,0]) e (setN (kont Pg R Try.f28) (fun e => F28_j2 R (e 0))) (fun e => F28_j3 R (e 0)) _ (by kernel_rfl) (fun e => F28_j3_ok R e) (by kernel_rfl)))
def F28_j4 (R : ER) (x0 x3 : Value) : WP :=
  pv (nilO x0) fun v38 =>
  pv (faO 5 v38) fun v39 =>
  pv (faO 0 v39) fun v40 =>
  ld1 v40 fun v41 =>
  pv (lenS v41) fun v42 =>
  pv (bin .gtr v42 (.int .i64 0)) fun v43 =>
  cnd v43 (
   drewV (
   pv (nilO x0) fun v44 =>
   pv (faO 5 v44) fun v45 =>
   mem fun w47 => cal Pg noR 48 ⟨[v45]⟩ fun v46 =>
   pv (fld1 0 v46) fun v48 =>
   ldNS [w47] 2 x3 fun v49 =>
   mem fun w51 => cal Pg noR 30 ⟨[v49]⟩ fun v50 =>
   pv (bldO [.int .i64 0, .int .i64 0, .slice none 0 0, .int .i64 0] [(0,1, v48), (1,2, v50)]) fun v52 =>
   mem fun w54 => valV Pg noR (Instr.buildSlice 32 1 ⟨[(0, v52)]⟩) fun v53 =>
   R (.returned (.tuple ⟨[v53, (.slice none 0 0)]⟩)))) (
   F28_j1 R x0 x3)
theorem F28_j4_ok (R : ER) (e : Env) : den Pg R (cd Try.f28 [1,0]) e (setN (kont Pg R Try.f28) (fun e => F28_j1 R (e 0) (e 3))) = (F28_j4 R (e 0) (e 3)) := (by kernel_rfl)
def F28 (R : ER) (x0 x1 : Value) : WP :=
  bx 30 x1 fun v55 =>
  F28_j4 R x0 v55
theorem F28_den (R : ER) (x0 x1 : Value) : den Pg R (cd Try.f28 []) (argsEnv [x0, x1]) (kont Pg R Try.f28) = F28 R x0 x1 :=
  have h : ∀ e, den Pg R (cd Try.f28 []) e (kont Pg R Try.f28) = F28 R (e 0) (e 1) := fun e => (den_join Pg R 1 (cd Try.f28 []) (cd Try.f28 [1,1]) e (kont Pg R Try.f28) (fun e => F28_j1 R (e 0) (e 3)) _ (by kernel_rfl) (fun e => F28_j1_ok R e) (den_join Pg R 0 (pre 1 (cd Try.f28 [])) (cd Try.f28 [1,0]) e (setN (kont Pg R Try.f28) (fun e => F28_j1 R (e 0) (e 3))) (fun e => F28_j4 R (e 0) (e 3)) _ (by kernel_rfl) (fun e => F28_j4_ok R e) (by kernel_rfl)))
  h _
theorem F28_calls {R : ER} {x0 x1 : Value} {w : World} (h : F28 R x0 x1 w) : Calls Pg 28 ⟨[x0, x1]⟩ w R :=
  calls_of_den Try.func28 (by kernel_rfl) (by kernel_rfl) (F28_den R x0 x1) h
/-! ### 29: mqueue_Queue_block -/
def F29 (R : ER) (x0 x1 x2 x3 : Value) : WP :=
  pv (unO .not x1) fun v1 =>
  cnd v1 (
   R (.returned (.int .i64 2))) (
   pv (bin .neq x2 (.int .i64 0)) fun v2 =>
   gd v2 true (pv (some x2)) fun v3 =>
   gd v2 true (pv (some x0)) fun v4 =>
   gd v2 true (pv (nilO v4)) fun v5 =>
   gd v2 true (pv (faO 4 v5)) fun v6 =>
   gd v2 true (ld1 v6) fun v7 =>
   gd v2 true (pv (bin .leq v3 v7)) fun v8 =>
   pv (pickO v2 v8 (.bool false)) fun v9 =>
   cnd v9 (
    R (.returned (.int .i64 37))) (
    pv (bin .geq x3 (.int .i64 64)) fun v10 =>
    cnd v10 (
     R (.returned (.int .i64 18))) (
     R (.returned (.int .i64 0)))))
theorem F29_den (R : ER) (x0 x1 x2 x3 : Value) : den Pg R (cd Try.f29 []) (argsEnv [x0, x1, x2, x3]) (kont Pg R Try.f29) = F29 R x0 x1 x2 x3 :=
  have h : ∀ e, den Pg R (cd Try.f29 []) e (kont Pg R Try.f29) = F29 R (e 0) (e 1) (e 2) (e 3) := fun e => (by kernel_rfl)
  h _
theorem F29_calls {R : ER} {x0 x1 x2 x3 : Value} {w : World} (h : F29 R x0 x1 x2 x3 w) : Calls Pg 29 ⟨[x0, x1, x2, x3]⟩ w R :=
  calls_of_den Try.func29 (by kernel_rfl) (by kernel_rfl) (F29_den R x0 x1 x2 x3) h
/-! ### 30: mqueue_copied -/
def F30 (R : ER) (x0 : Value) : WP :=
  bx 30 x0 fun v1 =>
  al Pg 30 fun v2 =>
  pv (faO 1 v1) fun v3 =>
  ld1 v3 fun v4 =>
  blt Pg R .append ⟨[22,22]⟩ 22 ⟨[true, false]⟩ ⟨[(.slice none 0 0), v4]⟩ fun v5 =>
  pv (faO 1 v1) fun v6 =>
  st1 v6 v5 fun _ =>
  ldN 2 v1 fun v7 =>
  stN 2 v2 v7 fun _ =>
  ldN 2 v2 fun v8 => R (.returned v8)
theorem F30_den (R : ER) (x0 : Value) : den Pg R (cd Try.f30 []) (argsEnv [x0]) (kont Pg R Try.f30) = F30 R x0 :=
  have h : ∀ e, den Pg R (cd Try.f30 []) e (kont Pg R Try.f30) = F30 R (e 0) := fun e => by kernel_rfl
  h _
theorem F30_calls {R : ER} {x0 : Value} {w : World} (h : F30 R x0 w) : Calls Pg 30 ⟨[x0]⟩ w R :=
  calls_of_den Try.func30 (by kernel_rfl) (by kernel_rfl) (F30_den R x0) h
/-! ### 31: heap_Pop -/
def F31 (R : ER) (x0 : Value) : WP :=
  ivk Pg R x0 "Len" ⟨[]⟩ fun v1 =>
  pv (bin .sub v1 (.int .i64 1)) fun v2 =>
  ivk Pg R x0 "Swap" ⟨[(.int .i64 0), v2]⟩ fun v3 =>
  cal Pg R 50 ⟨[x0, (.int .i64 0), v2]⟩ fun v4 =>
  ivk Pg R x0 "Pop" ⟨[]⟩ fun v5 =>
  R (.returned v5)
theorem F31_den (R : ER) (x0 : Value) : den Pg R (cd Try.f31 []) (argsEnv [x0]) (kont Pg R Try.f31) = F31 R x0 :=
  have h : ∀ e, den Pg R (cd Try.f31 []) e (kont Pg R Try.f31) = F31 R (e 0) := fun e => by kernel_rfl
  h _
theorem F31_calls {R : ER} {x0 : Value} {w : World} (h : F31 R x0 w) : Calls Pg 31 ⟨[x0]⟩ w R :=
  calls_of_den Try.func31 (by kernel_rfl) (by kernel_rfl) (F31_den R x0) h
/-! ### 32: mqueue_waiting -/
def F32 (R : ER) (x0 : Value) : WP :=
  al Pg 88 fun v1 =>
  pv (nilO x0) fun v2 =>
  pv (faO 0 v2) fun v3 =>
  ld1 v3 fun v4 =>
  pv (ixS 4 v4 (.int .i64 0)) fun v5 =>
  ldN 4 v5 fun v6 =>
  al Pg 88 fun v7 =>
  stN 4 v7 v6 fun _ =>
  pv (nilO x0) fun v8 =>
  pv (faO 0 v8) fun v9 =>
  ld1 v9 fun v10 =>
  cal Pg R 51 ⟨[v10, (.int .i64 0), (.int .i64 1)]⟩ fun v11 =>
  pv (nilO x0) fun v12 =>
  pv (faO 0 v12) fun v13 =>
  st1 v13 v11 fun _ =>
  ldN 4 v7 fun v14 =>
  stN 4 v1 v14 fun _ =>
  ldN 4 v1 fun v15 => R (.returned v15)
theorem F32_den (R : ER) (x0 : Value) : den Pg R (cd Try.f32 []) (argsEnv [x0]) (kont Pg R Try.f32) = F32 R x0 :=
  have h : ∀ e, den Pg R (cd Try.f32 []) e (kont Pg R Try.f32) = F32 R (e 0) := fun e => by kernel_rfl
  h _
theorem F32_calls {R : ER} {x0 : Value} {w : World} (h : F32 R x0 w) : Calls Pg 32 ⟨[x0]⟩ w R :=
  calls_of_den Try.func32 (by kernel_rfl) (by kernel_rfl) (F32_den R x0) h
/-! ### 33: slices_stableCmpFunc -/
def F33_j5 (R : ER) (k1 : V4) (x0 x1 x2 x6 : Value) : WP :=
  pv (bin .mul x6 (.int .i64 2)) fun v1 =>
  k1 x0 x1 x2 v1
theorem F33_j5_ok (R : ER) (k1 : V4) (e : Env) : den Pg R (cd Try.f33 [1,1,1,1,0,0,1,0,1,1,1]) e (inB 3 (setN (inB 2 (kont Pg R Try.f33)) (fun e => k1 (e 0) (e 1) (e 2) (e 6)))) = (F33_j5 R k1 (e 0) (e 1) (e 2) (e 6)) := by kernel_rfl
def F33_j6 (R : ER) (k1 : V4) (x0 x1 x2 x6 x7 : Value) : WP :=
  pv (bin .add x7 x6) fun v2 =>
  pv (bin .lss v2 x1) fun v3 =>
  cnd v3 (
   cal Pg R 53 ⟨[x0, x7, v2, x1, x2]⟩ fun v4 =>
   F33_j5 R k1 x0 x1 x2 x6) (
   F33_j5 R k1 x0 x1 x2 x6)
theorem F33_j6_ok (R : ER) (k1 : V4) (e : Env) : den Pg R (cd Try.f33 [1,1,1,1,0,0,1,0,1,1,0]) e (setN (inB 3 (setN (inB 2 (kont Pg R Try.f33)) (fun e => k1 (e 0) (e 1) (e 2) (e 6)))) (fun e => F33_j5 R k1 (e 0) (e 1) (e 2) (e 6))) = (F33_j6 R k1 (e 0) (e 1) (e 2) (e 6) (e 7)) := (by kernel_rfl)
def F33_j4 (R : ER) (k1 : V4) (x0 x1 x2 x6 x7 : Value) : WP :=
  F33_j6 R k1 x0 x1 x2 x6 x7
theorem F33_j4_ok (R : ER) (k1 : V4) (e : Env) : den Pg R (cd Try.f33 [1,1,1,1,0,0,1,0,1,1]) e (inB 3 (setN (inB 2 (kont Pg R Try.f33)) (fun e => k1 (e 0) (e 1) (e 2) (e 6)))) = (F33_j4 R k1 (e 0) (e 1) (e 2) (e 6) (e 7)) := (den_join Pg R 0 (cd Try.f33 [1,1,1,1,0,0,1,0,1,1]) (cd Try.f33 [1,1,1,1,0,0,1,0,1,1,1]) e (inB 3 (setN (inB 2 (kont Pg R Try.f33)) (fun e => k1 (e 0) (e 1) (e 2) (e 6)))) (fun e => F33_j5 R k1 (e 0) (e 1) (e 2) (e 6)) _ (by kernel_rfl) (fun e => F33_j5_ok R k1 e) (den_conv Pg R (pre 0 (cd Try.f33 [1,1,1,1,0,0,1,0,1,1])) (cd Try.f33 [1,1,1,1,0,0,1,0,1,1,0]) e (setN (inB 3 (setN (inB 2 (kont Pg R Try.f33)) (fun e => k1 (e 0) (e 1) (e 2) (e 6)))) (fun e => F33_j5 R k1 (e 0) (e 1) (e 2) (e 6))) _ (by kernel_rfl) (F33_j6_ok R k1 e)))
def F33_j8 (R : ER) (k1 : V4) (k2 : V6) (x0 x1 x2 x6 x7 x8 : Value) : WP :=
  pv (bin .add x7 x6) fun v5 =>
  cal Pg R 53 ⟨[x0, x7, v5, x8, x2]⟩ fun v6 =>
  pv (bin .mul (.int .i64 2) x6) fun v7 =>
  pv (bin .add x8 v7) fun v8 =>
  k2 x0 x1 x2 x6 x8 v8
theorem F33_j8_ok (R : ER) (k1 : V4) (k2 : V6) (e : Env) : den Pg R (cd Try.f33 [1,1,1,1,0,0,1,0,1,0,0,0,1]) e (setN (inB 4 (setN (inB 3 (setN (inB 2 (kont Pg R Try.f33)) (fun e => k1 (e 0) (e 1) (e 2) (e 6)))) (fun e => F33_j4 R k1 (e 0) (e 1) (e 2) (e 6) (e 7)))) (fun e => k2 (e 0) (e 1) (e 2) (e 6) (e 7) (e 8))) = (F33_j8 R k1 k2 (e 0) (e 1) (e 2) (e 6) (e 7) (e 8)) := by kernel_rfl
def F33_b2 (R : ER) (k1 : V4) (k2 : V6) (x0 x1 x2 x6 x7 x8 : Value) : WP :=
  pv (bin .leq x8 x1) fun v9 =>
  cnd v9 (
   F33_j8 R k1 k2 x0 x1 x2 x6 x7 x8) (
   F33_j4 R k1 x0 x1 x2 x6 x7)
theorem F33_b2_ok (R : ER) (k1 : V4) (k2 : V6) (e : Env) : den Pg R (cd Try.f33 [1,1,1,1,0,0,1,0,1,0,0,0]) e (setN (inB 4 (setN (inB 3 (setN (inB 2 (kont Pg R Try.f33)) (fun e => k1 (e 0) (e 1) (e 2) (e 6)))) (fun e => F33_j4 R k1 (e 0) (e 1) (e 2) (e 6) (e 7)))) (fun e => k2 (e 0) (e 1) (e 2) (e 6) (e 7) (e 8))) = (F33_b2 R k1 k2 (e 0) (e 1) (e 2) (e 6) (e 7) (e 8)) := (den_join Pg R 0 (cd Try.f33 [1,1,1,1,0,0,1,0,1,0,0,0]) (cd Try.f33 [1,1,1,1,0,0,1,0,1,0,0,0,1]) e (setN (inB 4 (setN (inB 3 (setN (inB 2 (kont Pg R Try.f33)) (fun e => k1 (e 0) (e 1) (e 2) (e 6)))) (fun e => F33_j4 R k1 (e 0) (e 1) (e 2) (e 6) (e 7)))) (fun e => k2 (e 0) (e 1) (e 2) (e 6) (e 7) (e 8))) (fun e => F33_j8 R k1 k2 (e 0) (e 1) (e 2) (e 6) (e 7) (e 8)) _ (by kernel_rfl) (fun e => F33_j8_ok R k1 k2 e) (by kernel_rfl))
noncomputable def F33_l1 (R : ER) (k1 : V4) (n : Nat) : V6 := Nat.rec (motive := fun _ => V6) (fun _ _ _ _ _ _ => fun _ => False) (fun _ ih => fun x0 x1 x2 x6 x7 x8 => F33_b2 R k1 ih x0 x1 x2 x6 x7 x8) n
theorem F33_l1_succ (R : ER) (k1 : V4) (n : Nat) (x0 x1 x2 x6 x7 x8 : Value) : F33_l1 R k1 (n + 1) x0 x1 x2 x6 x7 x8 = F33_b2 R k1 (F33_l1 R k1 n) x0 x1 x2 x6 x7 x8 := rfl
theorem F33_l1_ok (R : ER) (k1 : V4) : ∀ (n : Nat) (e : Env), iterL (den Pg R (cd Try.f33 [1,1,1,1,0,0,1,0,1,0,0,0])) n e (inB 4 (setN (inB 3 (setN (inB 2 (kont Pg R Try.f33)) (fun e => k1 (e 0) (e 1) (e 2) (e 6)))) (fun e => F33_j4 R k1 (e 0) (e 1) (e 2) (e 6) (e 7)))) = F33_l1 R k1 n (e 0) (e 1) (e 2) (e 6) (e 7) (e 8) :=
  iterL_join (den Pg R (cd Try.f33 [1,1,1,1,0,0,1,0,1,0,0,0])) (inB 4 (setN (inB 3 (setN (inB 2 (kont Pg R Try.f33)) (fun e => k1 (e 0) (e 1) (e 2) (e 6)))) (fun e => F33_j4 R k1 (e 0) (e 1) (e 2) (e 6) (e 7)))) (fun n e => F33_l1 R k1 n (e 0) (e 1) (e 2) (e 6) (e 7) (e 8)) (fun _ => rfl) (fun n e => (F33_b2_ok R k1 (F33_l1 R k1 n) e).trans (F33_l1_succ R k1 n (e 0) (e 1) (e 2) (e 6) (e 7) (e 8)).symm)
def F33_j7 (R : ER) (k1 : V4) (x0 x1 x2 x6 x7 x8 : Value) : WP :=
  exN fun n => F33_l1 R k1 n x0 x1 x2 x6 x7 x8
theorem F33_j7_ok (R : ER) (k1 : V4) (e : Env) : den Pg R (cd Try.f33 [1,1,1,1,0,0,1,0,1,0]) e (setN (inB 3 (setN (inB 2 (kont Pg R Try.f33)) (fun e => k1 (e 0) (e 1) (e 2) (e 6)))) (fun e => F33_j4 R k1 (e 0) (e 1) (e 2) (e 6) (e 7))) = (F33_j7 R k1 (e 0) (e 1) (e 2) (e 6) (e 7) (e 8)) := (den_block Pg R (cd Try.f33 [1,1,1,1,0,0,1,0,1,0]) 4 (cd Try.f33 [1,1,1,1,0,0,1,0,1,0,0]) e (setN (inB 3 (setN (inB 2 (kont Pg R Try.f33)) (fun e => k1 (e 0) (e 1) (e 2) (e 6)))) (fun e => F33_j4 R k1 (e 0) (e 1) (e 2) (e 6) (e 7))) _ (by kernel_rfl) (den_loop Pg R (cd Try.f33 [1,1,1,1,0,0,1,0,1,0,0]) (cd Try.f33 [1,1,1,1,0,0,1,0,1,0,0,0]) e (inB 4 (setN (inB 3 (setN (inB 2 (kont Pg R Try.f33)) (fun e => k1 (e 0) (e 1) (e 2) (e 6)))) (fun e => F33_j4 R k1 (e 0) (e 1) (e 2) (e 6) (e 7)))) (fun n e => F33_l1 R k1 n (e 0) (e 1) (e 2) (e 6) (e 7) (e 8)) _ (by kernel_rfl) (F33_l1_ok R k1) (by kernel_rfl)))
def F33_j3 (R : ER) (k1 : V4) (x0 x1 x2 x6 : Value) : WP :=
  pv (bin .mul (.int .i64 2) x6) fun v10 =>
  F33_j7 R k1 x0 x1 x2 x6 (.int .i64 0) v10
theorem F33_j3_ok (R : ER) (k1 : V4) (e : Env) : den Pg R (cd Try.f33 [1,1,1,1,0,0,1]) e (setN (inB 2 (kont Pg R Try.f33)) (fun e => k1 (e 0) (e 1) (e 2) (e 6))) = (F33_j3 R k1 (e 0) (e 1) (e 2) (e 6)) := (den_block Pg R (cd Try.f33 [1,1,1,1,0,0,1]) 3 (cd Try.f33 [1,1,1,1,0,0,1,0]) e (setN (inB 2 (kont Pg R Try.f33)) (fun e => k1 (e 0) (e 1) (e 2) (e 6))) _ (by kernel_rfl) (den_join Pg R 1 (cd Try.f33 [1,1,1,1,0,0,1,0]) (cd Try.f33 [1,1,1,1,0,0,1,0,1,1]) e (inB 3 (setN (inB 2 (kont Pg R Try.f33)) (fun e => k1 (e 0) (e 1) (e 2) (e 6)))) (fun e => F33_j4 R k1 (e 0) (e 1) (e 2) (e 6) (e 7)) _ (by kernel_rfl) (fun e => F33_j4_ok R k1 e) (den_join Pg R 0 (pre 1 (cd Try.f33 [1,1,1,1,0,0,1,0])) (cd Try.f33 [1,1,1,1,0,0,1,0,1,0]) e (setN (inB 3 (setN (inB 2 (kont Pg R Try.f33)) (fun e => k1 (e 0) (e 1) (e 2) (e 6)))) (fun e => F33_j4 R k1 (e 0) (e 1) (e 2) (e 6) (e 7))) (fun e => F33_j7 R k1 (e 0) (e 1) (e 2) (e 6) (e 7) (e 8)) _ (by kernel_rfl) (fun e => F33_j7_ok R k1 e) (by kernel_rfl))))
def F33_b1 (R : ER) (k1 : V4) (x0 x1 x2 x6 : Value) : WP :=
  pv (bin .lss x6 x1) fun v11 =>
  cnd v11 (
   F33_j3 R k1 x0 x1 x2 x6) (
   R (.returned (.tuple ⟨[]⟩)))
theorem F33_b1_ok (R : ER) (k1 : V4) (e : Env) : den Pg R (cd Try.f33 [1,1,1,1,0,0]) e (setN (inB 2 (kont Pg R Try.f33)) (fun e => k1 (e 0) (e 1) (e 2) (e 6))) = (F33_b1 R k1 (e 0) (e 1) (e 2) (e 6)) := (den_join Pg R 0 (cd Try.f33 [1,1,1,1,0,0]) (cd Try.f33 [1,1,1,1,0,0,1]) e (setN (inB 2 (kont Pg R Try.f33)) (fun e => k1 (e 0) (e 1) (e 2) (e 6))) (fun e => F33_j3 R k1 (e 0) (e 1) (e 2) (e 6)) _ (by kernel_rfl) (fun e => F33_j3_ok R k1 e) (by kernel_rfl))
noncomputable def F33_l2 (R : ER) (n : Nat) : V4 := Nat.rec (motive := fun _ => V4) (fun _ _ _ _ => fun _ => False) (fun _ ih => fun x0 x1 x2 x6 => F33_b1 R ih x0 x1 x2 x6) n
theorem F33_l2_succ (R : ER) (n : Nat) (x0 x1 x2 x6 : Value) : F33_l2 R (n + 1) x0 x1 x2 x6 = F33_b1 R (F33_l2 R n) x0 x1 x2 x6 := rfl
theorem F33_l2_ok (R : ER) : ∀ (n : Nat) (e : Env), iterL (den Pg R (cd Try.f33 [1,1,1,1,0,0])) n e (inB 2 (kont Pg R Try.f33)) = F33_l2 R n (e 0) (e 1) (e 2) (e 6) :=
  iterL_join (den Pg R (cd Try.f33 [1,1,1,1,0,0])) (inB 2 (kont Pg R Try.f33)) (fun n e => F33_l2 R n (e 0) (e 1) (e 2) (e 6)) (fun _ => rfl) (fun n e => (F33_b1_ok R (F33_l2 R n) e).trans (F33_l2_succ R n (e 0) (e 1) (e 2) (e 6)).symm)
def F33_j2 (R : ER) (x0 x1 x2 x6 : Value) : WP :=
  exN fun n => F33_l2 R n x0 x1 x2 x6
theorem F33_j2_ok (R : ER) (e : Env) : den Pg R (cd Try.f33 [1,1,1,1]) e (kont Pg R Try.f33) = (F33_j2 R (e 0) (e 1) (e 2) (e 6)) := (den_block Pg R (cd Try.f33 [1,1,1,1]) 2 (cd Try.f33 [1,1,1,1,0]) e (kont Pg R Try.f33) _ (by kernel_rfl) (den_loop Pg R (cd Try.f33 [1,1,1,1,0]) (cd Try.f33 [1,1,1,1,0,0]) e (inB 2 (kont Pg R Try.f33)) (fun n e => F33_l2 R n (e 0) (e 1) (e 2) (e 6)) _ (by kernel_rfl) (F33_l2_ok R) (by kernel_rfl)))
def F33_j1 (R : ER) (x0 x1 x2 x6 x7 : Value) : WP :=
  cal Pg R 52 ⟨[x0, x7, x1, x2]⟩ fun v12 =>
  F33_j2 R x0 x1 x2 x6
theorem F33_j1_ok (R : ER) (e : Env) : den Pg R (cd Try.f33 [1,1,1]) e (kont Pg R Try.f33) = (F33_j1 R (e 0) (e 1) (e 2) (e 6) (e 7)) := (den_join Pg R 0 (cd Try.f33 [1,1,1]) (cd Try.f33 [1,1,1,1]) e (kont Pg R Try.f33) (fun e => F33_j2 R (e 0) (e 1) (e 2) (e 6)) _ (by kernel_rfl) (fun e => F33_j2_ok R e) (by kernel_rfl))
def F33_j10 (R : ER) (k1 : V6) (x0 x1 x2 x6 x7 x8 : Value) : WP :=
  cal Pg R 52 ⟨[x0, x7, x8, x2]⟩ fun v13 =>
  pv (bin .add x8 x6) fun v14 =>
  k1 x0 x1 x2 x6 x8 v14
theorem F33_j10_ok (R : ER) (k1 : V6) (e : Env) : den Pg R (cd Try.f33 [1,1,0,0,0,1]) e (setN (inB 0 (setN (kont Pg R Try.f33) (fun e => F33_j1 R (e 0) (e 1) (e 2) (e 6) (e 7)))) (fun e => k1 (e 0) (e 1) (e 2) (e 6) (e 7) (e 8))) = (F33_j10 R k1 (e 0) (e 1) (e 2) (e 6) (e 7) (e 8)) := by kernel_rfl
def F33_b3 (R : ER) (k1 : V6) (x0 x1 x2 x6 x7 x8 : Value) : WP :=
  pv (bin .leq x8 x1) fun v15 =>
  cnd v15 (
   F33_j10 R k1 x0 x1 x2 x6 x7 x8) (
   F33_j1 R x0 x1 x2 x6 x7)
theorem F33_b3_ok (R : ER) (k1 : V6) (e : Env) : den Pg R (cd Try.f33 [1,1,0,0,0]) e (setN (inB 0 (setN (kont Pg R Try.f33) (fun e => F33_j1 R (e 0) (e 1) (e 2) (e 6) (e 7)))) (fun e => k1 (e 0) (e 1) (e 2) (e 6) (e 7) (e 8))) = (F33_b3 R k1 (e 0) (e 1) (e 2) (e 6) (e 7) (e 8)) := (den_join Pg R 0 (cd Try.f33 [1,1,0,0,0]) (cd Try.f33 [1,1,0,0,0,1]) e (setN (inB 0 (setN (kont Pg R Try.f33) (fun e => F33_j1 R (e 0) (e 1) (e 2) (e 6) (e 7)))) (fun e => k1 (e 0) (e 1) (e 2) (e 6) (e 7) (e 8))) (fun e => F33_j10 R k1 (e 0) (e 1) (e 2) (e 6) (e 7) (e 8)) _ (by kernel_rfl) (fun e => F33_j10_ok R k1 e) (by kernel_rfl))
noncomputable def F33_l3 (R : ER) (n : Nat) : V6 := Nat.rec (motive := fun _ => V6) (fun _ _ _ _ _ _ => fun _ => False) (fun _ ih => fun x0 x1 x2 x6 x7 x8 => F33_b3 R ih x0 x1 x2 x6 x7 x8) n
theorem F33_l3_succ (R : ER) (n : Nat) (x0 x1 x2 x6 x7 x8 : Value) : F33_l3 R (n + 1) x0 x1 x2 x6 x7 x8 = F33_b3 R (F33_l3 R n) x0 x1 x2 x6 x7 x8 := rfl
theorem F33_l3_ok (R : ER) : ∀ (n : Nat) (e : Env), iterL (den Pg R (cd Try.f33 [1,1,0,0,0])) n e (inB 0 (setN (kont Pg R Try.f33) (fun e => F33_j1 R (e 0) (e 1) (e 2) (e 6) (e 7)))) = F33_l3 R n (e 0) (e 1) (e 2) (e 6) (e 7) (e 8) :=
  iterL_join (den Pg R (cd Try.f33 [1,1,0,0,0])) (inB 0 (setN (kont Pg R Try.f33) (fun e => F33_j1 R (e 0) (e 1) (e 2) (e 6) (e 7)))) (fun n e => F33_l3 R n (e 0) (e 1) (e 2) (e 6) (e 7) (e 8)) (fun _ => rfl) (fun n e => (F33_b3_ok R (F33_l3 R n) e).trans (F33_l3_succ R n (e 0) (e 1) (e 2) (e 6) (e 7) (e 8)).symm)
def F33_j9 (R : ER) (x0 x1 x2 x6 x7 x8 : Value) : WP :=
  exN fun n => F33_l3 R n x0 x1 x2 x6 x7 x8
theorem F33_j9_ok (R : ER) (e : Env) : den Pg R (cd Try.f33 [1,1,0]) e (setN (kont Pg R Try.f33) (fun e => F33_j1 R (e 0) (e 1) (e 2) (e 6) (e 7))) = (F33_j9 R (e 0) (e 1) (e 2) (e 6) (e 7) (e 8)) := (den_block Pg R (cd Try.f33 [1,1,0]) 0 (cd Try.f33 [1,1,0,0]) e (setN (kont Pg R Try.f33) (fun e => F33_j1 R (e 0) (e 1) (e 2) (e 6) (e 7))) _ (by kernel_rfl) (den_loop Pg R (cd Try.f33 [1,1,0,0]) (cd Try.f33 [1,1,0,0,0]) e (inB 0 (setN (kont Pg R Try.f33) (fun e => F33_j1 R (e 0) (e 1) (e 2) (e 6) (e 7)))) (fun n e => F33_l3 R n (e 0) (e 1) (e 2) (e 6) (e 7) (e 8)) _ (by kernel_rfl) (F33_l3_ok R) (by kernel_rfl)))
def F33 (R : ER) (x0 x1 x2 : Value) : WP :=
  F33_j9 R x0 x1 x2 (.int .i64 20) (.int .i64 0) (.int .i64 20)
theorem F33_den (R : ER) (x0 x1 x2 : Value) : den Pg R (cd Try.f33 []) (argsEnv [x0, x1, x2]) (kont Pg R Try.f33) = F33 R x0 x1 x2 :=
  have h : ∀ e, den Pg R (cd Try.f33 []) e (kont Pg R Try.f33) = F33 R (e 0) (e 1) (e 2) := fun e => (den_join Pg R 2 (cd Try.f33 []) (cd Try.f33 [1,1,1]) e (kont Pg R Try.f33) (fun e => F33_j1 R (e 0) (e 1) (e 2) (e 6) (e 7)) _ (by kernel_rfl) (fun e => F33_j1_ok R e) (den_join Pg R 1 (pre 2 (cd Try.f33 [])) (cd Try.f33 [1,1,0]) e (setN (kont Pg R Try.f33) (fun e => F33_j1 R (e 0) (e 1) (e 2) (e 6) (e 7))) (fun e => F33_j9 R (e 0) (e 1) (e 2) (e 6) (e 7) (e 8)) _ (by kernel_rfl) (fun e => F33_j9_ok R e) (by kernel_rfl)))
  h _
theorem F33_calls {R : ER} {x0 x1 x2 : Value} {w : World} (h : F33 R x0 x1 x2 w) : Calls Pg 33 ⟨[x0, x1, x2]⟩ w R :=
  calls_of_den Try.func33 (by kernel_rfl) (by kernel_rfl) (F33_den R x0 x1 x2) h
/-! ### 34: mqueue_waiting_34 -/
def F34 (R : ER) (x0 x1 : Value) : WP :=
  bx 2 x1 fun v1 =>
  al Pg 74 fun v2 =>
  pv (nilO x0) fun v3 =>
  pv (faO 0 v3) fun v4 =>
  ld1 v4 fun v5 =>
  cal Pg R 54 ⟨[v5, (.func (.func 55) ⟨[]⟩ ⟨[v1, v2]⟩)]⟩ fun v6 =>
  pv (nilO x0) fun v7 =>
  pv (faO 0 v7) fun v8 =>
  st1 v8 v6 fun _ =>
  ld1 v2 fun v9 =>
  R (.returned v9)
theorem F34_den (R : ER) (x0 x1 : Value) : den Pg R (cd Try.f34 []) (argsEnv [x0, x1]) (kont Pg R Try.f34) = F34 R x0 x1 :=
  have h : ∀ e, den Pg R (cd Try.f34 []) e (kont Pg R Try.f34) = F34 R (e 0) (e 1) := fun e => by kernel_rfl
  h _
theorem F34_calls {R : ER} {x0 x1 : Value} {w : World} (h : F34 R x0 x1 w) : Calls Pg 34 ⟨[x0, x1]⟩ w R :=
  calls_of_den Try.func34 (by kernel_rfl) (by kernel_rfl) (F34_den R x0 x1) h
/-! ### 35: mqueue_waiting_35 -/
def F35 (R : ER) (x0 x1 : Value) : WP :=
  bx 2 x1 fun v1 =>
  al Pg 71 fun v2 =>
  pv (nilO x0) fun v3 =>
  pv (faO 0 v3) fun v4 =>
  ld1 v4 fun v5 =>
  cal Pg R 56 ⟨[v5, (.func (.func 57) ⟨[]⟩ ⟨[v1, v2]⟩)]⟩ fun v6 =>
  pv (nilO x0) fun v7 =>
  pv (faO 0 v7) fun v8 =>
  st1 v8 v6 fun _ =>
  ld1 v2 fun v9 =>
  R (.returned v9)
theorem F35_den (R : ER) (x0 x1 : Value) : den Pg R (cd Try.f35 []) (argsEnv [x0, x1]) (kont Pg R Try.f35) = F35 R x0 x1 :=
  have h : ∀ e, den Pg R (cd Try.f35 []) e (kont Pg R Try.f35) = F35 R (e 0) (e 1) := fun e => by kernel_rfl
  h _
theorem F35_calls {R : ER} {x0 x1 : Value} {w : World} (h : F35 R x0 x1 w) : Calls Pg 35 ⟨[x0, x1]⟩ w R :=
  calls_of_den Try.func35 (by kernel_rfl) (by kernel_rfl) (F35_den R x0 x1) h
/-! ### 36: slices_SortStableFunc_36 -/
def F36 (R : ER) (x0 x1 : Value) : WP :=
  pv (lenS x0) fun v1 =>
  cal Pg R 58 ⟨[x0, v1, x1]⟩ fun v2 =>
  R (.returned (.tuple ⟨[]⟩))
theorem F36_den (R : ER) (x0 x1 : Value) : den Pg R (cd Try.f36 []) (argsEnv [x0, x1]) (kont Pg R Try.f36) = F36 R x0 x1 :=
  have h : ∀ e, den Pg R (cd Try.f36 []) e (kont Pg R Try.f36) = F36 R (e 0) (e 1) := fun e => by kernel_rfl
  h _
theorem F36_calls {R : ER} {x0 x1 : Value} {w : World} (h : F36 R x0 x1 w) : Calls Pg 36 ⟨[x0, x1]⟩ w R :=
  calls_of_den Try.func36 (by kernel_rfl) (by kernel_rfl) (F36_den R x0 x1) h
/-! ### 37: mqueue_Queue_Advance_1 -/
def F37 (R : ER) (x0 x1 : Value) : WP :=
  bx 100 x0 fun v1 =>
  bx 100 x1 fun v2 =>
  pv (faO 1 v1) fun v3 =>
  ld1 v3 fun v4 =>
  pv (faO 1 v2) fun v5 =>
  ld1 v5 fun v6 =>
  cal Pg R 38 ⟨[v4, v6]⟩ fun v7 =>
  R (.returned v7)
theorem F37_den (R : ER) (x0 x1 : Value) : den Pg R (cd Try.f37 []) (argsEnv [x0, x1]) (kont Pg R Try.f37) = F37 R x0 x1 :=
  have h : ∀ e, den Pg R (cd Try.f37 []) e (kont Pg R Try.f37) = F37 R (e 0) (e 1) := fun e => by kernel_rfl
  h _
theorem F37_calls {R : ER} {x0 x1 : Value} {w : World} (h : F37 R x0 x1 w) : Calls Pg 37 ⟨[x0, x1]⟩ w R :=
  calls_of_den Try.func37 (by kernel_rfl) (by kernel_rfl) (F37_den R x0 x1) h
/-! ### 38: cmp_Compare -/
def F38_j1 (R : ER) (x0 x1 x6 : Value) : WP :=
  cnd x6 (
   R (.returned (.int .i64 1))) (
   pv (bin .lss x0 x1) fun v1 =>
  cnd v1 (
   R (.returned (.int .i64 (-1)))) (
   pv (bin .gtr x0 x1) fun v2 =>
  cnd v2 (
   R (.returned (.int .i64 1))) (
   R (.returned (.int .i64 0)))))
theorem F38_j1_ok (R : ER) (e : Env) : den Pg R (cd Try.f38 [1,1,1,1]) e (kont Pg R Try.f38) = (F38_j1 R (e 0) (e 1) (e 6)) := by kernel_rfl
def F38 (R : ER) (x0 x1 : Value) : WP :=
  cal Pg R 59 ⟨[x0]⟩ fun v3 =>
  cal Pg R 59 ⟨[x1]⟩ fun v4 =>
  cnd v3 (
   cnd v4 (
    R (.returned (.int .i64 0))) (
    R (.returned (.int .i64 (-1))))) (
   F38_j1 R x0 x1 v4)
theorem F38_den (R : ER) (x0 x1 : Value) : den Pg R (cd Try.f38 []) (argsEnv [x0, x1]) (kont Pg R Try.f38) = F38 R x0 x1 :=
  have h : ∀ e, den Pg R (cd Try.f38 []) e (kont Pg R Try.f38) = F38 R (e 0) (e 1) := fun e => (den_join Pg R 3 (cd Try.f38 []) (cd Try.f38 [1,1,1,1]) e (kont Pg R Try.f38) (fun e => F38_j1 R (e 0) (e 1) (e 6)) _ (by kernel_rfl) (fun e => F38_j1_ok R e) (by kernel_rfl))
  h _
theorem F38_calls {R : ER} {x0 x1 : Value} {w : World} (h : F38 R x0 x1 w) : Calls Pg 38 ⟨[x0, x1]⟩ w R :=
  calls_of_den Try.func38 (by kernel_rfl) (by kernel_rfl) (F38_den R x0 x1) h
/-! ### 39: mqueue_waiting_39 -/
def F39_j1 (R : ER) (x3 : Value) : WP :=
  R (.returned x3)
theorem F39_j1_ok (R : ER) (e : Env) : den Pg R (cd Try.f39 [1,1,1]) e (kont Pg R Try.f39) = (F39_j1 R (e 3)) := by kernel_rfl
def F39_j4 (R : ER) (k1 : V4) (x3 x9 x10 x11 : Value) : WP :=
  pv (ixS 4 x9 x11) fun v1 =>
  ldN 4 v1 fun v2 =>
  al Pg 88 fun v3 =>
  stN 4 v3 v2 fun _ =>
  pv (faO 0 v3) fun v4 =>
  ld1 v4 fun v5 =>
  valV Pg R (Instr.buildSlice 50 1 ⟨[(0, v5)]⟩) fun v6 =>
  blt Pg R .append ⟨[50,50]⟩ 50 ⟨[false, false]⟩ ⟨[x3, v6]⟩ fun v7 =>
  pv (bin .add x11 (.int .i64 1)) fun v8 =>
  k1 v7 x9 x10 v8
theorem F39_j4_ok (R : ER) (k1 : V4) (e : Env) : den Pg R (cd Try.f39 [1,1,0,1,0,0,1,1]) e (setN (inB 0 (setN (kont Pg R Try.f39) (fun e => F39_j1 R (e 3)))) (fun e => k1 (e 3) (e 9) (e 10) (e 11))) = (F39_j4 R k1 (e 3) (e 9) (e 10) (e 11)) := by kernel_rfl
def F39_b1 (R : ER) (k1 : V4) (x3 x9 x10 x11 : Value) : WP :=
  pv (bin .lss x11 x10) fun v9 =>
  cnd v9 (
   F39_j4 R k1 x3 x9 x10 x11) (
   F39_j1 R x3)
theorem F39_b1_ok (R : ER) (k1 : V4) (e : Env) : den Pg R (cd Try.f39 [1,1,0,1,0,0]) e (setN (inB 0 (setN (kont Pg R Try.f39) (fun e => F39_j1 R (e 3)))) (fun e => k1 (e 3) (e 9) (e 10) (e 11))) = (F39_b1 R k1 (e 3) (e 9) (e 10) (e 11)) := (den_join Pg R 1 (cd Try.f39 [1,1,0,1,0,0]) (cd Try.f39 [1,1,0,1,0,0,1,1]) e (setN (inB 0 (setN (kont Pg R Try.f39) (fun e => F39_j1 R (e 3)))) (fun e => k1 (e 3) (e 9) (e 10) (e 11))) (fun e => F39_j4 R k1 (e 3) (e 9) (e 10) (e 11)) _ (by kernel_rfl) (fun e => F39_j4_ok R k1 e) (by kernel_rfl))
noncomputable def F39_l1 (R : ER) (n : Nat) : V4 := Nat.rec (motive := fun _ => V4) (fun _ _ _ _ => fun _ => False) (fun _ ih => fun x3 x9 x10 x11 => F39_b1 R ih x3 x9 x10 x11) n
theorem F39_l1_succ (R : ER) (n : Nat) (x3 x9 x10 x11 : Value) : F39_l1 R (n + 1) x3 x9 x10 x11 = F39_b1 R (F39_l1 R n) x3 x9 x10 x11 := rfl
theorem F39_l1_ok (R : ER) : ∀ (n : Nat) (e : Env), iterL (den Pg R (cd Try.f39 [1,1,0,1,0,0])) n e (inB 0 (setN (kont Pg R Try.f39) (fun e => F39_j1 R (e 3)))) = F39_l1 R n (e 3) (e 9) (e 10) (e 11) :=
  iterL_join (den Pg R (cd Try.f39 [1,1,0,1,0,0])) (inB 0 (setN (kont Pg R Try.f39) (fun e => F39_j1 R (e 3)))) (fun n e => F39_l1 R n (e 3) (e 9) (e 10) (e 11)) (fun _ => rfl) (fun n e => (F39_b1_ok R (F39_l1 R n) e).trans (F39_l1_succ R n (e 3) (e 9) (e 10) (e 11)).symm)
def F39_j3 (R : ER) (x3 x9 x10 x11 : Value) : WP :=
  exN fun n => F39_l1 R n x3 x9 x10 x11
theorem F39_j3_ok (R : ER) (e : Env) : den Pg R (cd Try.f39 [1,1,0,1]) e (setN (kont Pg R Try.f39) (fun e => F39_j1 R (e 3))) = (F39_j3 R (e 3) (e 9) (e 10) (e 11)) := (den_block Pg R (cd Try.f39 [1,1,0,1]) 0 (cd Try.f39 [1,1,0,1,0]) e (setN (kont Pg R Try.f39) (fun e => F39_j1 R (e 3))) _ (by kernel_rfl) (den_loop Pg R (cd Try.f39 [1,1,0,1,0]) (cd Try.f39 [1,1,0,1,0,0]) e (inB 0 (setN (kont Pg R Try.f39) (fun e => F39_j1 R (e 3)))) (fun n e => F39_l1 R n (e 3) (e 9) (e 10) (e 11)) _ (by kernel_rfl) (F39_l1_ok R) (by kernel_rfl)))
def F39_j2 (R : ER) (x0 x3 : Value) : WP :=
  pv (nilO x0) fun v10 =>
  pv (faO 0 v10) fun v11 =>
  ld1 v11 fun v12 =>
  pv (lenS v12) fun v13 =>
  F39_j3 R x3 v12 v13 (.int .i64 0)
theorem F39_j2_ok (R : ER) (e : Env) : den Pg R (cd Try.f39 [1,1,0]) e (setN (kont Pg R Try.f39) (fun e => F39_j1 R (e 3))) = (F39_j2 R (e 0) (e 3)) := (den_join Pg R 0 (cd Try.f39 [1,1,0]) (cd Try.f39 [1,1,0,1]) e (setN (kont Pg R Try.f39) (fun e => F39_j1 R (e 3))) (fun e => F39_j3 R (e 3) (e 9) (e 10) (e 11)) _ (by kernel_rfl) (fun e => F39_j3_ok R e) (by kernel_rfl))
def F39 (R : ER) (x0 : Value) : WP :=
  F39_j2 R x0 (.slice none 0 0)
theorem F39_den (R : ER) (x0 : Value) : den Pg R (cd Try.f39 []) (argsEnv [x0]) (kont Pg R Try.f39) = F39 R x0 :=
  have h : ∀ e, den Pg R (cd Try.f39 []) e (kont Pg R Try.f39) = F39 R (e 0) := fun e => (den_join Pg R 2 (cd Try.f39 []) (cd Try.f39 [1,1,1]) e (kont Pg R Try.f39) (fun e => F39_j1 R (e 3)) _ (by kernel_rfl) (fun e => F39_j1_ok R e) (den_join Pg R 1 (pre 2 (cd Try.f39 [])) (cd Try.f39 [1,1,0]) e (setN (kont Pg R Try.f39) (fun e => F39_j1 R (e 3))) (fun e => F39_j2 R (e 0) (e 3)) _ (by kernel_rfl) (fun e => F39_j2_ok R e) (by kernel_rfl)))
  h _
theorem F39_calls {R : ER} {x0 : Value} {w : World} (h : F39 R x0 w) : Calls Pg 39 ⟨[x0]⟩ w R :=
  calls_of_den Try.func39 (by kernel_rfl) (by kernel_rfl) (F39_den R x0) h
/-! ### 40: mqueue_waiting_40 -/
def F40_j1 (R : ER) (x3 : Value) : WP :=
  R (.returned x3)
theorem F40_j1_ok (R : ER) (e : Env) : den Pg R (cd Try.f40 [1,1,1]) e (kont Pg R Try.f40) = (F40_j1 R (e 3)) := by kernel_rfl
def F40_j4 (R : ER) (k1 : V4) (x3 x9 x10 x11 : Value) : WP :=
  pv (ixS 2 x9 x11) fun v1 =>
  ldN 2 v1 fun v2 =>
  al Pg 91 fun v3 =>
  stN 2 v3 v2 fun _ =>
  pv (faO 0 v3) fun v4 =>
  ld1 v4 fun v5 =>
  valV Pg R (Instr.buildSlice 50 1 ⟨[(0, v5)]⟩) fun v6 =>
  blt Pg R .append ⟨[50,50]⟩ 50 ⟨[false, false]⟩ ⟨[x3, v6]⟩ fun v7 =>
  pv (bin .add x11 (.int .i64 1)) fun v8 =>
  k1 v7 x9 x10 v8
theorem F40_j4_ok (R : ER) (k1 : V4) (e : Env) : den Pg R (cd Try.f40 [1,1,0,1,0,0,1,1]) e (setN (inB 0 (setN (kont Pg R Try.f40) (fun e => F40_j1 R (e 3)))) (fun e => k1 (e 3) (e 9) (e 10) (e 11))) = (F40_j4 R k1 (e 3) (e 9) (e 10) (e 11)) := by kernel_rfl
def F40_b1 (R : ER) (k1 : V4) (x3 x9 x10 x11 : Value) : WP :=
  pv (bin .lss x11 x10) fun v9 =>
  cnd v9 (
   F40_j4 R k1 x3 x9 x10 x11) (
   F40_j1 R x3)
theorem F40_b1_ok (R : ER) (k1 : V4) (e : Env) : den Pg R (cd Try.f40 [1,1,0,1,0,0]) e (setN (inB 0 (setN (kont Pg R Try.f40) (fun e => F40_j1 R (e 3)))) (fun e => k1 (e 3) (e 9) (e 10) (e 11))) = (F40_b1 R k1 (e 3) (e 9) (e 10) (e 11)) := (den_join Pg R 1 (cd Try.f40 [1,1,0,1,0,0]) (cd Try.f40 [1,1,0,1,0,0,1,1]) e (setN (inB 0 (setN (kont Pg R Try.f40) (fun e => F40_j1 R (e 3)))) (fun e => k1 (e 3) (e 9) (e 10) (e 11))) (fun e => F40_j4 R k1 (e 3) (e 9) (e 10) (e 11)) _ (by kernel_rfl) (fun e => F40_j4_ok R k1 e) (by kernel_rfl))
noncomputable def F40_l1 (R : ER) (n : Nat) : V4 := Nat.rec (motive := fun _ => V4) (fun _ _ _ _ => fun _ => False) (fun _ ih => fun x3 x9 x10 x11 => F40_b1 R ih x3 x9 x10 x11) n
theorem F40_l1_succ (R : ER) (n : Nat) (x3 x9 x10 x11 : Value) : F40_l1 R (n + 1) x3 x9 x10 x11 = F40_b1 R (F40_l1 R n) x3 x9 x10 x11 := rfl
theorem F40_l1_ok (R : ER) : ∀ (n : Nat) (e : Env), iterL (den Pg R (cd Try.f40 [1,1,0,1,0,0])) n e (inB 0 (setN (kont Pg R Try.f40) (fun e => F40_j1 R (e 3)))) = F40_l1 R n (e 3) (e 9) (e 10) (e 11) :=
  iterL_join (den Pg R (cd Try.f40 [1,1,0,1,0,0])) (inB 0 (setN (kont Pg R Try.f40) (fun e => F40_j1 R (e 3)))) (fun n e => F40_l1 R n (e 3) (e 9) (e 10) (e 11)) (fun _ => rfl) (fun n e => (F40_b1_ok R (F40_l1 R n) e).trans (F40_l1_succ R n (e 3) (e 9) (e 10) (e 11)).symm)
def F40_j3 (R : ER) (x3 x9 x10 x11 : Value) : WP :=
  exN fun n => F40_l1 R n x3 x9 x10 x11
theorem F40_j3_ok (R : ER) (e : Env) : den Pg R (cd Try.f40 [1,1,0,1]) e (setN (kont Pg R Try.f40) (fun e => F40_j1 R (e 3))) = (F40_j3 R (e 3) (e 9) (e 10) (e 11)) := (den_block Pg R (cd Try.f40 [1,1,0,1]) 0 (cd Try.f40 [1,1,0,1,0]) e (setN (kont Pg R Try.f40) (fun e => F40_j1 R (e 3))) _ (by kernel_rfl) (den_loop Pg R (cd Try.f40 [1,1,0,1,0]) (cd Try.f40 [1,1,0,1,0,0]) e (inB 0 (setN (kont Pg R Try.f40) (fun e => F40_j1 R (e 3)))) (fun n e => F40_l1 R n (e 3) (e 9) (e 10) (e 11)) _ (by kernel_rfl) (F40_l1_ok R) (by kernel_rfl)))
def F40_j2 (R : ER) (x0 x3 : Value) : WP :=
  pv (nilO x0) fun v10 =>
  pv (faO 0 v10) fun v11 =>
  ld1 v11 fun v12 =>
  pv (lenS v12) fun v13 =>
  F40_j3 R x3 v12 v13 (.int .i64 0)
theorem F40_j2_ok (R : ER) (e : Env) : den Pg R (cd Try.f40 [1,1,0]) e (setN (kont Pg R Try.f40) (fun e => F40_j1 R (e 3))) = (F40_j2 R (e 0) (e 3)) := (den_join Pg R 0 (cd Try.f40 [1,1,0]) (cd Try.f40 [1,1,0,1]) e (setN (kont Pg R Try.f40) (fun e => F40_j1 R (e 3))) (fun e => F40_j3 R (e 3) (e 9) (e 10) (e 11)) _ (by kernel_rfl) (fun e => F40_j3_ok R e) (by kernel_rfl))
def F40 (R : ER) (x0 : Value) : WP :=
  F40_j2 R x0 (.slice none 0 0)
theorem F40_den (R : ER) (x0 : Value) : den Pg R (cd Try.f40 []) (argsEnv [x0]) (kont Pg R Try.f40) = F40 R x0 :=
  have h : ∀ e, den Pg R (cd Try.f40 []) e (kont Pg R Try.f40) = F40 R (e 0) := fun e => (den_join Pg R 2 (cd Try.f40 []) (cd Try.f40 [1,1,1]) e (kont Pg R Try.f40) (fun e => F40_j1 R (e 3)) _ (by kernel_rfl) (fun e => F40_j1_ok R e) (den_join Pg R 1 (pre 2 (cd Try.f40 [])) (cd Try.f40 [1,1,0]) e (setN (kont Pg R Try.f40) (fun e => F40_j1 R (e 3))) (fun e => F40_j2 R (e 0) (e 3)) _ (by kernel_rfl) (fun e => F40_j2_ok R e) (by kernel_rfl)))
  h _
theorem F40_calls {R : ER} {x0 : Value} {w : World} (h : F40 R x0 w) : Calls Pg 40 ⟨[x0]⟩ w R :=
  calls_of_den Try.func40 (by kernel_rfl) (by kernel_rfl) (F40_den R x0) h
/-! ### 41: mqueue_waiting_41 -/
def F41 (R : ER) (x0 x1 : Value) : WP :=
  bx 3 x1 fun v1 =>
  pv (nilO x0) fun v2 =>
  pv (faO 0 v2) fun v3 =>
  ld1 v3 fun v4 =>
  pv (lenS v4) fun v5 =>
  pv (nilO x0) fun v6 =>
  pv (faO 0 v6) fun v7 =>
  ld1 v7 fun v8 =>
  cal Pg R 54 ⟨[v8, (.func (.func 60) ⟨[]⟩ ⟨[v1]⟩)]⟩ fun v9 =>
  pv (nilO x0) fun v10 =>
  pv (faO 0 v10) fun v11 =>
  st1 v11 v9 fun _ =>
  pv (nilO x0) fun v12 =>
  pv (faO 0 v12) fun v13 =>
  ld1 v13 fun v14 =>
  pv (lenS v14) fun v15 =>
  pv (bin .lss v15 v5) fun v16 =>
  R (.returned v16)
theorem F41_den (R : ER) (x0 x1 : Value) : den Pg R (cd Try.f41 []) (argsEnv [x0, x1]) (kont Pg R Try.f41) = F41 R x0 x1 :=
  have h : ∀ e, den Pg R (cd Try.f41 []) e (kont Pg R Try.f41) = F41 R (e 0) (e 1) := fun e => by kernel_rfl
  h _
theorem F41_calls {R : ER} {x0 x1 : Value} {w : World} (h : F41 R x0 x1 w) : Calls Pg 41 ⟨[x0, x1]⟩ w R :=
  calls_of_den Try.func41 (by kernel_rfl) (by kernel_rfl) (F41_den R x0 x1) h
/-! ### 42: mqueue_waiting_42 -/
def F42 (R : ER) (x0 x1 : Value) : WP :=
  bx 3 x1 fun v1 =>
  pv (nilO x0) fun v2 =>
  pv (faO 0 v2) fun v3 =>
  ld1 v3 fun v4 =>
  pv (lenS v4) fun v5 =>
  pv (nilO x0) fun v6 =>
  pv (faO 0 v6) fun v7 =>
  ld1 v7 fun v8 =>
  cal Pg R 56 ⟨[v8, (.func (.func 61) ⟨[]⟩ ⟨[v1]⟩)]⟩ fun v9 =>
  pv (nilO x0) fun v10 =>
  pv (faO 0 v10) fun v11 =>
  st1 v11 v9 fun _ =>
  pv (nilO x0) fun v12 =>
  pv (faO 0 v12) fun v13 =>
  ld1 v13 fun v14 =>
  pv (lenS v14) fun v15 =>
  pv (bin .lss v15 v5) fun v16 =>
  R (.returned v16)
theorem F42_den (R : ER) (x0 x1 : Value) : den Pg R (cd Try.f42 []) (argsEnv [x0, x1]) (kont Pg R Try.f42) = F42 R x0 x1 :=
  have h : ∀ e, den Pg R (cd Try.f42 []) e (kont Pg R Try.f42) = F42 R (e 0) (e 1) := fun e => by kernel_rfl
  h _
theorem F42_calls {R : ER} {x0 x1 : Value} {w : World} (h : F42 R x0 x1 w) : Calls Pg 42 ⟨[x0, x1]⟩ w R :=
  calls_of_den Try.func42 (by kernel_rfl) (by kernel_rfl) (F42_den R x0 x1) h
/-! ### 43: slices_Clone -/
def F43 (R : ER) (x0 : Value) : WP :=
  pv (eqNilS x0) fun v1 =>
  cnd v1 (
   R (.returned (.slice none 0 0))) (
   valV Pg R (Instr.buildSlice 70 0 ⟨[]⟩) fun v2 =>
  blt Pg R .append ⟨[70,70]⟩ 70 ⟨[false, false]⟩ ⟨[v2, x0]⟩ fun v3 =>
  R (.returned v3))
theorem F43_den (R : ER) (x0 : Value) : den Pg R (cd Try.f43 []) (argsEnv [x0]) (kont Pg R Try.f43) = F43 R x0 :=
  have h : ∀ e, den Pg R (cd Try.f43 []) e (kont Pg R Try.f43) = F43 R (e 0) := fun e => by kernel_rfl
  h _
theorem F43_calls {R : ER} {x0 : Value} {w : World} (h : F43 R x0 w) : Calls Pg 43 ⟨[x0]⟩ w R :=
  calls_of_den Try.func43 (by kernel_rfl) (by kernel_rfl) (F43_den R x0) h
/-! ### 45: mqueue_before -/
def F45 (R : ER) (x0 x1 : Value) : WP :=
  bx 93 x0 fun v1 =>
  bx 93 x1 fun v2 =>
  drewV (
  pv (faO 0 v2) fun v3 =>
  pv (faO 0 v3) fun v4 =>
  ld1 v4 fun v5 =>
  pv (faO 0 v1) fun v6 =>
  pv (faO 0 v6) fun v7 =>
  ld1 v7 fun v8 =>
  mem fun w10 => cal Pg noR 65 ⟨[v5, v8]⟩ fun v9 =>
  pv (faO 2 v1) fun v11 =>
  ld1S [w10] v11 fun v12 =>
  pv (faO 2 v2) fun v13 =>
  ld1S [w10] v13 fun v14 =>
  mem fun w16 => cal Pg noR 65 ⟨[v12, v14]⟩ fun v15 =>
  mem fun w18 => valV Pg noR (Instr.buildSlice 50 2 ⟨[(0, v9), (1, v15)]⟩) fun v17 =>
  mem fun w20 => cal Pg noR 64 ⟨[v17]⟩ fun v19 =>
  R (.returned v19))
theorem F45_den (R : ER) (x0 x1 : Value) : den Pg R (cd Try.f45 []) (argsEnv [x0, x1]) (kont Pg R Try.f45) = F45 R x0 x1 :=
  have h : ∀ e, den Pg R (cd Try.f45 []) e (kont Pg R Try.f45) = F45 R (e 0) (e 1) := fun e => by kernel_rfl
  h _
theorem F45_calls {R : ER} {x0 x1 : Value} {w : World} (h : F45 R x0 x1 w) : Calls Pg 45 ⟨[x0, x1]⟩ w R :=
  calls_of_den Try.func45 (by kernel_rfl) (by kernel_rfl) (F45_den R x0 x1) h
/-! ### 46: slices_IndexFunc -/
def F46_j1 (R : ER) : WP :=
  R (.returned (.int .i64 (-1)))
theorem F46_j1_ok (R : ER) (e : Env) : den Pg R (cd Try.f46 [1,1]) e (kont Pg R Try.f46) = (F46_j1 R) := by kernel_rfl
def F46_j4 (R : ER) (k1 : V4) (x0 x1 x7 x8 : Value) : WP :=
  pv (ixS 1 x0 x8) fun v1 =>
  ld1 v1 fun v2 =>
  calD Pg R x1 ⟨[v2]⟩ fun v3 =>
  cnd v3 (
   R (.returned x8)) (
   pv (bin .add x8 (.int .i64 1)) fun v4 =>
  k1 x0 x1 x7 v4)
theorem F46_j4_ok (R : ER) (k1 : V4) (e : Env) : den Pg R (cd Try.f46 [1,0,1,0,0,1,1]) e (setN (inB 0 (setN (kont Pg R Try.f46) (fun e => F46_j1 R))) (fun e => k1 (e 0) (e 1) (e 7) (e 8))) = (F46_j4 R k1 (e 0) (e 1) (e 7) (e 8)) := by kernel_rfl
def F46_b1 (R : ER) (k1 : V4) (x0 x1 x7 x8 : Value) : WP :=
  pv (bin .lss x8 x7) fun v5 =>
  cnd v5 (
   F46_j4 R k1 x0 x1 x7 x8) (
   F46_j1 R)
theorem F46_b1_ok (R : ER) (k1 : V4) (e : Env) : den Pg R (cd Try.f46 [1,0,1,0,0]) e (setN (inB 0 (setN (kont Pg R Try.f46) (fun e => F46_j1 R))) (fun e => k1 (e 0) (e 1) (e 7) (e 8))) = (F46_b1 R k1 (e 0) (e 1) (e 7) (e 8)) := (den_join Pg R 1 (cd Try.f46 [1,0,1,0,0]) (cd Try.f46 [1,0,1,0,0,1,1]) e (setN (inB 0 (setN (kont Pg R Try.f46) (fun e => F46_j1 R))) (fun e => k1 (e 0) (e 1) (e 7) (e 8))) (fun e => F46_j4 R k1 (e 0) (e 1) (e 7) (e 8)) _ (by kernel_rfl) (fun e => F46_j4_ok R k1 e) (by kernel_rfl))
noncomputable def F46_l1 (R : ER) (n : Nat) : V4 := Nat.rec (motive := fun _ => V4) (fun _ _ _ _ => fun _ => False) (fun _ ih => fun x0 x1 x7 x8 => F46_b1 R ih x0 x1 x7 x8) n
theorem F46_l1_succ (R : ER) (n : Nat) (x0 x1 x7 x8 : Value) : F46_l1 R (n + 1) x0 x1 x7 x8 = F46_b1 R (F46_l1 R n) x0 x1 x7 x8 := rfl
theorem F46_l1_ok (R : ER) : ∀ (n : Nat) (e : Env), iterL (den Pg R (cd Try.f46 [1,0,1,0,0])) n e (inB 0 (setN (kont Pg R Try.f46) (fun e => F46_j1 R))) = F46_l1 R n (e 0) (e 1) (e 7) (e 8) :=
  iterL_join (den Pg R (cd Try.f46 [1,0,1,0,0])) (inB 0 (setN (kont Pg R Try.f46) (fun e => F46_j1 R))) (fun n e => F46_l1 R n (e 0) (e 1) (e 7) (e 8)) (fun _ => rfl) (fun n e => (F46_b1_ok R (F46_l1 R n) e).trans (F46_l1_succ R n (e 0) (e 1) (e 7) (e 8)).symm)
def F46_j3 (R : ER) (x0 x1 x7 x8 : Value) : WP :=
  exN fun n => F46_l1 R n x0 x1 x7 x8
theorem F46_j3_ok (R : ER) (e : Env) : den Pg R (cd Try.f46 [1,0,1]) e (setN (kont Pg R Try.f46) (fun e => F46_j1 R)) = (F46_j3 R (e 0) (e 1) (e 7) (e 8)) := (den_block Pg R (cd Try.f46 [1,0,1]) 0 (cd Try.f46 [1,0,1,0]) e (setN (kont Pg R Try.f46) (fun e => F46_j1 R)) _ (by kernel_rfl) (den_loop Pg R (cd Try.f46 [1,0,1,0]) (cd Try.f46 [1,0,1,0,0]) e (inB 0 (setN (kont Pg R Try.f46) (fun e => F46_j1 R))) (fun n e => F46_l1 R n (e 0) (e 1) (e 7) (e 8)) _ (by kernel_rfl) (F46_l1_ok R) (by kernel_rfl)))
def F46_j2 (R : ER) (x0 x1 : Value) : WP :=
  pv (lenS x0) fun v6 =>
  F46_j3 R x0 x1 v6 (.int .i64 0)
theorem F46_j2_ok (R : ER) (e : Env) : den Pg R (cd Try.f46 [1,0]) e (setN (kont Pg R Try.f46) (fun e => F46_j1 R)) = (F46_j2 R (e 0) (e 1)) := (den_join Pg R 0 (cd Try.f46 [1,0]) (cd Try.f46 [1,0,1]) e (setN (kont Pg R Try.f46) (fun e => F46_j1 R)) (fun e => F46_j3 R (e 0) (e 1) (e 7) (e 8)) _ (by kernel_rfl) (fun e => F46_j3_ok R e) (by kernel_rfl))
def F46 (R : ER) (x0 x1 : Value) : WP :=
  F46_j2 R x0 x1
theorem F46_den (R : ER) (x0 x1 : Value) : den Pg R (cd Try.f46 []) (argsEnv [x0, x1]) (kont Pg R Try.f46) = F46 R x0 x1 :=
  have h : ∀ e, den Pg R (cd Try.f46 []) e (kont Pg R Try.f46) = F46 R (e 0) (e 1) := fun e => (den_join Pg R 1 (cd Try.f46 []) (cd Try.f46 [1,1]) e (kont Pg R Try.f46) (fun e => F46_j1 R) _ (by kernel_rfl) (fun e => F46_j1_ok R e) (den_join Pg R 0 (pre 1 (cd Try.f46 [])) (cd Try.f46 [1,0]) e (setN (kont Pg R Try.f46) (fun e => F46_j1 R)) (fun e => F46_j2 R (e 0) (e 1)) _ (by kernel_rfl) (fun e => F46_j2_ok R e) (by kernel_rfl)))
  h _
theorem F46_calls {R : ER} {x0 x1 : Value} {w : World} (h : F46 R x0 x1 w) : Calls Pg 46 ⟨[x0, x1]⟩ w R :=
  calls_of_den Try.func46 (by kernel_rfl) (by kernel_rfl) (F46_den R x0 x1) h
/-! ### 47: slices_Contains -/
def F47 (R : ER) (x0 x1 : Value) : WP :=
  cal Pg R 66 ⟨[x0, x1]⟩ fun v1 =>
  pv (bin .geq v1 (.int .i64 0)) fun v2 =>
  R (.returned v2)
theorem F47_den (R : ER) (x0 x1 : Value) : den Pg R (cd Try.f47 []) (argsEnv [x0, x1]) (kont Pg R Try.f47) = F47 R x0 x1 :=
  have h : ∀ e, den Pg R (cd Try.f47 []) e (kont Pg R Try.f47) = F47 R (e 0) (e 1) := fun e => by kernel_rfl
  h _
theorem F47_calls {R : ER} {x0 x1 : Value} {w : World} (h : F47 R x0 x1 w) : Calls Pg 47 ⟨[x0, x1]⟩ w R :=
  calls_of_den Try.func47 (by kernel_rfl) (by kernel_rfl) (F47_den R x0 x1) h
/-! ### 48: mqueue_waiting_48 -/
def F48 (R : ER) (x0 : Value) : WP :=
  al Pg 91 fun v1 =>
  pv (nilO x0) fun v2 =>
  pv (faO 0 v2) fun v3 =>
  ld1 v3 fun v4 =>
  pv (ixS 2 v4 (.int .i64 0)) fun v5 =>
  ldN 2 v5 fun v6 =>
  al Pg 91 fun v7 =>
  stN 2 v7 v6 fun _ =>
  pv (nilO x0) fun v8 =>
  pv (faO 0 v8) fun v9 =>
  ld1 v9 fun v10 =>
  cal Pg R 67 ⟨[v10, (.int .i64 0), (.int .i64 1)]⟩ fun v11 =>
  pv (nilO x0) fun v12 =>
  pv (faO 0 v12) fun v13 =>
  st1 v13 v11 fun _ =>
  ldN 2 v7 fun v14 =>
  stN 2 v1 v14 fun _ =>
  ldN 2 v1 fun v15 => R (.returned v15)
theorem F48_den (R : ER) (x0 : Value) : den Pg R (cd Try.f48 []) (argsEnv [x0]) (kont Pg R Try.f48) = F48 R x0 :=
  have h : ∀ e, den Pg R (cd Try.f48 []) e (kont Pg R Try.f48) = F48 R (e 0) := fun e => by kernel_rfl
  h _
theorem F48_calls {R : ER} {x0 : Value} {w : World} (h : F48 R x0 w) : Calls Pg 48 ⟨[x0]⟩ w R :=
  calls_of_den Try.func48 (by kernel_rfl) (by kernel_rfl) (F48_den R x0) h
/-! ### 49: heap_Push -/
def F49 (R : ER) (x0 x1 : Value) : WP :=
  ivk Pg R x0 "Push" ⟨[x1]⟩ fun v1 =>
  ivk Pg R x0 "Len" ⟨[]⟩ fun v2 =>
  pv (bin .sub v2 (.int .i64 1)) fun v3 =>
  cal Pg R 68 ⟨[x0, v3]⟩ fun v4 =>
  R (.returned (.tuple ⟨[]⟩))
theorem F49_den (R : ER) (x0 x1 : Value) : den Pg R (cd Try.f49 []) (argsEnv [x0, x1]) (kont Pg R Try.f49) = F49 R x0 x1 :=
  have h : ∀ e, den Pg R (cd Try.f49 []) e (kont Pg R Try.f49) = F49 R (e 0) (e 1) := fun e => by kernel_rfl
  h _
theorem F49_calls {R : ER} {x0 x1 : Value} {w : World} (h : F49 R x0 x1 w) : Calls Pg 49 ⟨[x0, x1]⟩ w R :=
  calls_of_den Try.func49 (by kernel_rfl) (by kernel_rfl) (F49_den R x0 x1) h
/-! ### 50: heap_down -/
def F50_j1 (R : ER) (x1 x7 : Value) : WP :=
  pv (bin .gtr x7 x1) fun v1 =>
  R (.returned v1)
theorem F50_j1_ok (R : ER) (e : Env) : den Pg R (cd Try.f50 [1,1,1]) e (kont Pg R Try.f50) = (F50_j1 R (e 1) (e 7)) := by kernel_rfl
def F50_j4 (R : ER) (k1 : V4) (x0 x1 x2 x7 x9 : Value) : WP :=
  ivk Pg R x0 "Less" ⟨[x9, x7]⟩ fun v2 =>
  pv (unO .not v2) fun v3 =>
  cnd v3 (
   F50_j1 R x1 x7) (
   ivk Pg R x0 "Swap" ⟨[x7, x9]⟩ fun v4 =>
  k1 x0 x1 x2 x9)
theorem F50_j4_ok (R : ER) (k1 : V4) (e : Env) : den Pg R (cd Try.f50 [1,1,0,0,0,0,1,1,1,1]) e (inB 1 (setN (inB 0 (setN (kont Pg R Try.f50) (fun e => F50_j1 R (e 1) (e 7)))) (fun e => k1 (e 0) (e 1) (e 2) (e 7)))) = (F50_j4 R k1 (e 0) (e 1) (e 2) (e 7) (e 9)) := by kernel_rfl
def F50_j5 (R : ER) (k1 : V4) (x0 x1 x2 x7 x8 x9 : Value) : WP :=
  pv (bin .add x8 (.int .i64 1)) fun v5 =>
  pv (bin .lss v5 x2) fun v6 =>
  gd v6 true (pv (some x0)) fun v7 =>
  gd v6 true (pv (some v5)) fun v8 =>
  gd v6 true (pv (some x8)) fun v9 =>
  gd v6 true (ivk Pg R v7 "Less" ⟨[v8, v9]⟩) fun v10 =>
  pv (pickO v6 v10 (.bool false)) fun v11 =>
  cnd v11 (
   F50_j4 R k1 x0 x1 x2 x7 v5) (
   F50_j4 R k1 x0 x1 x2 x7 x9)
theorem F50_j5_ok (R : ER) (k1 : V4) (e : Env) : den Pg R (cd Try.f50 [1,1,0,0,0,0,1,1,1,0]) e (setN (inB 1 (setN (inB 0 (setN (kont Pg R Try.f50) (fun e => F50_j1 R (e 1) (e 7)))) (fun e => k1 (e 0) (e 1) (e 2) (e 7)))) (fun e => F50_j4 R k1 (e 0) (e 1) (e 2) (e 7) (e 9))) = (F50_j5 R k1 (e 0) (e 1) (e 2) (e 7) (e 8) (e 9)) := (by kernel_rfl)
def F50_j3 (R : ER) (k1 : V4) (x0 x1 x2 x7 x8 : Value) : WP :=
  F50_j5 R k1 x0 x1 x2 x7 x8 x8
theorem F50_j3_ok (R : ER) (k1 : V4) (e : Env) : den Pg R (cd Try.f50 [1,1,0,0,0,0,1,1]) e (inB 1 (setN (inB 0 (setN (kont Pg R Try.f50) (fun e => F50_j1 R (e 1) (e 7)))) (fun e => k1 (e 0) (e 1) (e 2) (e 7)))) = (F50_j3 R k1 (e 0) (e 1) (e 2) (e 7) (e 8)) := (den_join Pg R 1 (cd Try.f50 [1,1,0,0,0,0,1,1]) (cd Try.f50 [1,1,0,0,0,0,1,1,1,1]) e (inB 1 (setN (inB 0 (setN (kont Pg R Try.f50) (fun e => F50_j1 R (e 1) (e 7)))) (fun e => k1 (e 0) (e 1) (e 2) (e 7)))) (fun e => F50_j4 R k1 (e 0) (e 1) (e 2) (e 7) (e 9)) _ (by kernel_rfl) (fun e => F50_j4_ok R k1 e) (den_join Pg R 0 (pre 1 (cd Try.f50 [1,1,0,0,0,0,1,1])) (cd Try.f50 [1,1,0,0,0,0,1,1,1,0]) e (setN (inB 1 (setN (inB 0 (setN (kont Pg R Try.f50) (fun e => F50_j1 R (e 1) (e 7)))) (fun e => k1 (e 0) (e 1) (e 2) (e 7)))) (fun e => F50_j4 R k1 (e 0) (e 1) (e 2) (e 7) (e 9))) (fun e => F50_j5 R k1 (e 0) (e 1) (e 2) (e 7) (e 8) (e 9)) _ (by kernel_rfl) (fun e => F50_j5_ok R k1 e) (by kernel_rfl)))
def F50_b1 (R : ER) (k1 : V4) (x0 x1 x2 x7 : Value) : WP :=
  pv (bin .mul (.int .i64 2) x7) fun v12 =>
  pv (bin .add v12 (.int .i64 1)) fun v13 =>
  pv (bin .geq v13 x2) fun v14 =>
  gd v14 false (pv (some v13)) fun v15 =>
  gd v14 false (pv (bin .lss v15 (.int .i64 0))) fun v16 =>
  pv (pickO v14 (.bool true) v16) fun v17 =>
  cnd v17 (
   F50_j1 R x1 x7) (
   F50_j3 R k1 x0 x1 x2 x7 v13)
theorem F50_b1_ok (R : ER) (k1 : V4) (e : Env) : den Pg R (cd Try.f50 [1,1,0,0,0]) e (setN (inB 0 (setN (kont Pg R Try.f50) (fun e => F50_j1 R (e 1) (e 7)))) (fun e => k1 (e 0) (e 1) (e 2) (e 7))) = (F50_b1 R k1 (e 0) (e 1) (e 2) (e 7)) := (den_block Pg R (cd Try.f50 [1,1,0,0,0]) 1 (cd Try.f50 [1,1,0,0,0,0]) e (setN (inB 0 (setN (kont Pg R Try.f50) (fun e => F50_j1 R (e 1) (e 7)))) (fun e => k1 (e 0) (e 1) (e 2) (e 7))) _ (by kernel_rfl) (den_join Pg R 1 (cd Try.f50 [1,1,0,0,0,0]) (cd Try.f50 [1,1,0,0,0,0,1,1]) e (inB 1 (setN (inB 0 (setN (kont Pg R Try.f50) (fun e => F50_j1 R (e 1) (e 7)))) (fun e => k1 (e 0) (e 1) (e 2) (e 7)))) (fun e => F50_j3 R k1 (e 0) (e 1) (e 2) (e 7) (e 8)) _ (by kernel_rfl) (fun e => F50_j3_ok R k1 e) (by kernel_rfl)))
noncomputable def F50_l1 (R : ER) (n : Nat) : V4 := Nat.rec (motive := fun _ => V4) (fun _ _ _ _ => fun _ => False) (fun _ ih => fun x0 x1 x2 x7 => F50_b1 R ih x0 x1 x2 x7) n
theorem F50_l1_succ (R : ER) (n : Nat) (x0 x1 x2 x7 : Value) : F50_l1 R (n + 1) x0 x1 x2 x7 = F50_b1 R (F50_l1 R n) x0 x1 x2 x7 := rfl
theorem F50_l1_ok (R : ER) : ∀ (n : Nat) (e : Env), iterL (den Pg R (cd Try.f50 [1,1,0,0,0])) n e (inB 0 (setN (kont Pg R Try.f50) (fun e => F50_j1 R (e 1) (e 7)))) = F50_l1 R n (e 0) (e 1) (e 2) (e 7) :=
  iterL_join (den Pg R (cd Try.f50 [1,1,0,0,0])) (inB 0 (setN (kont Pg R Try.f50) (fun e => F50_j1 R (e 1) (e 7)))) (fun n e => F50_l1 R n (e 0) (e 1) (e 2) (e 7)) (fun _ => rfl) (fun n e => (F50_b1_ok R (F50_l1 R n) e).trans (F50_l1_succ R n (e 0) (e 1) (e 2) (e 7)).symm)
def F50_j2 (R : ER) (x0 x1 x2 x7 : Value) : WP :=
  exN fun n => F50_l1 R n x0 x1 x2 x7
theorem F50_j2_ok (R : ER) (e : Env) : den Pg R (cd Try.f50 [1,1,0]) e (setN (kont Pg R Try.f50) (fun e => F50_j1 R (e 1) (e 7))) = (F50_j2 R (e 0) (e 1) (e 2) (e 7)) := (den_block Pg R (cd Try.f50 [1,1,0]) 0 (cd Try.f50 [1,1,0,0]) e (setN (kont Pg R Try.f50) (fun e => F50_j1 R (e 1) (e 7))) _ (by kernel_rfl) (den_loop Pg R (cd Try.f50 [1,1,0,0]) (cd Try.f50 [1,1,0,0,0]) e (inB 0 (setN (kont Pg R Try.f50) (fun e => F50_j1 R (e 1) (e 7)))) (fun n e => F50_l1 R n (e 0) (e 1) (e 2) (e 7)) _ (by kernel_rfl) (F50_l1_ok R) (by kernel_rfl)))
def F50 (R : ER) (x0 x1 x2 : Value) : WP :=
  F50_j2 R x0 x1 x2 x1
theorem F50_den (R : ER) (x0 x1 x2 : Value) : den Pg R (cd Try.f50 []) (argsEnv [x0, x1, x2]) (kont Pg R Try.f50) = F50 R x0 x1 x2 :=
  have h : ∀ e, den Pg R (cd Try.f50 []) e (kont Pg R Try.f50) = F50 R (e 0) (e 1) (e 2) := fun e => (den_join Pg R 2 (cd Try.f50 []) (cd Try.f50 [1,1,1]) e (kont Pg R Try.f50) (fun e => F50_j1 R (e 1) (e 7)) _ (by kernel_rfl) (fun e => F50_j1_ok R e) (den_join Pg R 1 (pre 2 (cd Try.f50 [])) (cd Try.f50 [1,1,0]) e (setN (kont Pg R Try.f50) (fun e => F50_j1 R (e 1) (e 7))) (fun e => F50_j2 R (e 0) (e 1) (e 2) (e 7)) _ (by kernel_rfl) (fun e => F50_j2_ok R e) (by kernel_rfl)))
  h _
theorem F50_calls {R : ER} {x0 x1 x2 : Value} {w : World} (h : F50 R x0 x1 x2 w) : Calls Pg 50 ⟨[x0, x1, x2]⟩ w R :=
  calls_of_den Try.func50 (by kernel_rfl) (by kernel_rfl) (F50_den R x0 x1 x2) h
/-! ### 51: slices_Delete -/
def F51_j1 (R : ER) (x0 x1 x2 : Value) : WP :=
  pv (lenS x0) fun v1 =>
  drewV (
  pv (slS 4 x0 none (some x1)) fun v2 =>
  pv (slS 4 x0 (some x2) none) fun v3 =>
  mem fun w5 => blt Pg noR .append ⟨[74,74]⟩ 74 ⟨[false, false]⟩ ⟨[v2, v3]⟩ fun v4 =>
  pv (lenS v4) fun v6 =>
  pv (slS 4 v4 (some v6) (some v1)) fun v7 =>
  blt Pg R .clear ⟨[74]⟩ 0 ⟨[false]⟩ ⟨[v7]⟩ fun _ =>
  R (.returned v4))
theorem F51_j1_ok (R : ER) (e : Env) : den Pg R (cd Try.f51 [1,1,1]) e (kont Pg R Try.f51) = (F51_j1 R (e 0) (e 1) (e 2)) := by kernel_rfl
def F51 (R : ER) (x0 x1 x2 : Value) : WP :=
  pv (lenS x0) fun v8 =>
  valV Pg R (Instr.sliceAt 74 x0 (some x1) (some x2) (some v8)) fun v9 =>
  pv (bin .eql x1 x2) fun v10 =>
  cnd v10 (
   R (.returned x0)) (
   F51_j1 R x0 x1 x2)
theorem F51_den (R : ER) (x0 x1 x2 : Value) : den Pg R (cd Try.f51 []) (argsEnv [x0, x1, x2]) (kont Pg R Try.f51) = F51 R x0 x1 x2 :=
  have h : ∀ e, den Pg R (cd Try.f51 []) e (kont Pg R Try.f51) = F51 R (e 0) (e 1) (e 2) := fun e => (den_join Pg R 2 (cd Try.f51 []) (cd Try.f51 [1,1,1]) e (kont Pg R Try.f51) (fun e => F51_j1 R (e 0) (e 1) (e 2)) _ (by kernel_rfl) (fun e => F51_j1_ok R e) (by kernel_rfl))
  h _
theorem F51_calls {R : ER} {x0 x1 x2 : Value} {w : World} (h : F51 R x0 x1 x2 w) : Calls Pg 51 ⟨[x0, x1, x2]⟩ w R :=
  calls_of_den Try.func51 (by kernel_rfl) (by kernel_rfl) (F51_den R x0 x1 x2) h
/-! ### 52: slices_insertionSortCmpFunc -/
def F52_j3 (R : ER) (k1 : V5) (x0 x1 x2 x3 x8 : Value) : WP :=
  pv (bin .add x8 (.int .i64 1)) fun v1 =>
  k1 x0 x1 x2 x3 v1
theorem F52_j3_ok (R : ER) (k1 : V5) (e : Env) : den Pg R (cd Try.f52 [1,0,0,1,1]) e (setN (inB 0 (kont Pg R Try.f52)) (fun e => k1 (e 0) (e 1) (e 2) (e 3) (e 8))) = (F52_j3 R k1 (e 0) (e 1) (e 2) (e 3) (e 8)) := by kernel_rfl
def F52_j6 (R : ER) (k1 : V5) (k2 : V6) (x0 x1 x2 x3 x8 x9 : Value) : WP :=
  drewV (
  pv (bin .sub x9 (.int .i64 1)) fun v2 =>
  pv (bin .sub x9 (.int .i64 1)) fun v3 =>
  pv (ixS 2 x0 v3) fun v4 =>
  ldN 2 v4 fun v5 =>
  pv (ixS 2 x0 x9) fun v6 =>
  ldN 2 v6 fun v7 =>
  pv (ixS 2 x0 x9) fun v8 =>
  mem fun w10 => stN 2 v8 v5 fun v9 =>
  pv (ixS 2 x0 v2) fun v11 =>
  mem fun w13 => stN 2 v11 v7 fun v12 =>
  pv (bin .sub x9 (.int .i64 1)) fun v14 =>
  k2 x0 x1 x2 x3 x8 v14)
theorem F52_j6_ok (R : ER) (k1 : V5) (k2 : V6) (e : Env) : den Pg R (cd Try.f52 [1,0,0,1,0,0,1,0,0,1]) e (setN (inB 2 (inB 1 (setN (setN (inB 0 (kont Pg R Try.f52)) (fun e => k1 (e 0) (e 1) (e 2) (e 3) (e 8))) (fun e => F52_j3 R k1 (e 0) (e 1) (e 2) (e 3) (e 8))))) (fun e => k2 (e 0) (e 1) (e 2) (e 3) (e 8) (e 9))) = (F52_j6 R k1 k2 (e 0) (e 1) (e 2) (e 3) (e 8) (e 9)) := by kernel_rfl
def F52_j7 (R : ER) (k1 : V5) (k2 : V6) (x0 x1 x2 x3 x8 x9 : Value) : WP :=
  drewV (
  pv (bin .gtr x9 x1) fun v15 =>
  gd v15 true (pv (some x3)) fun v16 =>
  gd v15 true (pv (some x0)) fun v17 =>
  gd v15 true (pv (some x9)) fun v18 =>
  gd v15 true (pv (ixS 2 v17 v18)) fun v19 =>
  gd v15 true (ldN 2 v19) fun v20 =>
  gd v15 true (pv (some x0)) fun v21 =>
  gd v15 true (pv (some x9)) fun v22 =>
  gd v15 true (pv (bin .sub v22 (.int .i64 1))) fun v23 =>
  gd v15 true (pv (ixS 2 v21 v23)) fun v24 =>
  gd v15 true (ldN 2 v24) fun v25 =>
  mem fun w27 => gd v15 true (calD Pg noR v16 ⟨[v20, v25]⟩) fun v26 =>
  gd v15 true (pv (bin .lss v26 (.int .i64 0))) fun v28 =>
  pv (pickO v15 v28 (.bool false)) fun v29 =>
  cnd v29 (
   F52_j6 R k1 k2 x0 x1 x2 x3 x8 x9) (
   F52_j3 R k1 x0 x1 x2 x3 x8))
theorem F52_j7_ok (R : ER) (k1 : V5) (k2 : V6) (e : Env) : den Pg R (cd Try.f52 [1,0,0,1,0,0,1,0,0,0]) e (setN (setN (inB 2 (inB 1 (setN (setN (inB 0 (kont Pg R Try.f52)) (fun e => k1 (e 0) (e 1) (e 2) (e 3) (e 8))) (fun e => F52_j3 R k1 (e 0) (e 1) (e 2) (e 3) (e 8))))) (fun e => k2 (e 0) (e 1) (e 2) (e 3) (e 8) (e 9))) (fun e => F52_j6 R k1 k2 (e 0) (e 1) (e 2) (e 3) (e 8) (e 9))) = (F52_j7 R k1 k2 (e 0) (e 1) (e 2) (e 3) (e 8) (e 9)) := (by kernel_rfl)
def F52_b2 (R : ER) (k1 : V5) (k2 : V6) (x0 x1 x2 x3 x8 x9 : Value) : WP :=
  F52_j7 R k1 k2 x0 x1 x2 x3 x8 x9
theorem F52_b2_ok (R : ER) (k1 : V5) (k2 : V6) (e : Env) : den Pg R (cd Try.f52 [1,0,0,1,0,0,1,0,0]) e (setN (inB 2 (inB 1 (setN (setN (inB 0 (kont Pg R Try.f52)) (fun e => k1 (e 0) (e 1) (e 2) (e 3) (e 8))) (fun e => F52_j3 R k1 (e 0) (e 1) (e 2) (e 3) (e 8))))) (fun e => k2 (e 0) (e 1) (e 2) (e 3) (e 8) (e 9))) = (F52_b2 R k1 k2 (e 0) (e 1) (e 2) (e 3) (e 8) (e 9)) := (den_join Pg R 0 (cd Try.f52 [1,0,0,1,0,0,1,0,0]) (cd Try.f52 [1,0,0,1,0,0,1,0,0,1]) e (setN (inB 2 (inB 1 (setN (setN (inB 0 (kont Pg R Try.f52)) (fun e => k1 (e 0) (e 1) (e 2) (e 3) (e 8))) (fun e => F52_j3 R k1 (e 0) (e 1) (e 2) (e 3) (e 8))))) (fun e => k2 (e 0) (e 1) (e 2) (e 3) (e 8) (e 9))) (fun e => F52_j6 R k1 k2 (e 0) (e 1) (e 2) (e 3) (e 8) (e 9)) _ (by kernel_rfl) (fun e => F52_j6_ok R k1 k2 e) (den_conv Pg R (pre 0 (cd Try.f52 [1,0,0,1,0,0,1,0,0])) (cd Try.f52 [1,0,0,1,0,0,1,0,0,0]) e (setN (setN (inB 2 (inB 1 (setN (setN (inB 0 (kont Pg R Try.f52)) (fun e => k1 (e 0) (e 1) (e 2) (e 3) (e 8))) (fun e => F52_j3 R k1 (e 0) (e 1) (e 2) (e 3) (e 8))))) (fun e => k2 (e 0) (e 1) (e 2) (e 3) (e 8) (e 9))) (fun e => F52_j6 R k1 k2 (e 0) (e 1) (e 2) (e 3) (e 8) (e 9))) _ (by kernel_rfl) (F52_j7_ok R k1 k2 e)))
noncomputable def F52_l1 (R : ER) (k1 : V5) (n : Nat) : V6 := Nat.rec (motive := fun _ => V6) (fun _ _ _ _ _ _ => fun _ => False) (fun _ ih => fun x0 x1 x2 x3 x8 x9 => F52_b2 R k1 ih x0 x1 x2 x3 x8 x9) n
theorem F52_l1_succ (R : ER) (k1 : V5) (n : Nat) (x0 x1 x2 x3 x8 x9 : Value) : F52_l1 R k1 (n + 1) x0 x1 x2 x3 x8 x9 = F52_b2 R k1 (F52_l1 R k1 n) x0 x1 x2 x3 x8 x9 := rfl
theorem F52_l1_ok (R : ER) (k1 : V5) : ∀ (n : Nat) (e : Env), iterL (den Pg R (cd Try.f52 [1,0,0,1,0,0,1,0,0])) n e (inB 2 (inB 1 (setN (setN (inB 0 (kont Pg R Try.f52)) (fun e => k1 (e 0) (e 1) (e 2) (e 3) (e 8))) (fun e => F52_j3 R k1 (e 0) (e 1) (e 2) (e 3) (e 8))))) = F52_l1 R k1 n (e 0) (e 1) (e 2) (e 3) (e 8) (e 9) :=
  iterL_join (den Pg R (cd Try.f52 [1,0,0,1,0,0,1,0,0])) (inB 2 (inB 1 (setN (setN (inB 0 (kont Pg R Try.f52)) (fun e => k1 (e 0) (e 1) (e 2) (e 3) (e 8))) (fun e => F52_j3 R k1 (e 0) (e 1) (e 2) (e 3) (e 8))))) (fun n e => F52_l1 R k1 n (e 0) (e 1) (e 2) (e 3) (e 8) (e 9)) (fun _ => rfl) (fun n e => (F52_b2_ok R k1 (F52_l1 R k1 n) e).trans (F52_l1_succ R k1 n (e 0) (e 1) (e 2) (e 3) (e 8) (e 9)).symm)
def F52_j5 (R : ER) (k1 : V5) (x0 x1 x2 x3 x8 x9 : Value) : WP :=
  exN fun n => F52_l1 R k1 n x0 x1 x2 x3 x8 x9
theorem F52_j5_ok (R : ER) (k1 : V5) (e : Env) : den Pg R (cd Try.f52 [1,0,0,1,0,0,1]) e (inB 1 (setN (setN (inB 0 (kont Pg R Try.f52)) (fun e => k1 (e 0) (e 1) (e 2) (e 3) (e 8))) (fun e => F52_j3 R k1 (e 0) (e 1) (e 2) (e 3) (e 8)))) = (F52_j5 R k1 (e 0) (e 1) (e 2) (e 3) (e 8) (e 9)) := (den_block Pg R (cd Try.f52 [1,0,0,1,0,0,1]) 2 (cd Try.f52 [1,0,0,1,0,0,1,0]) e (inB 1 (setN (setN (inB 0 (kont Pg R Try.f52)) (fun e => k1 (e 0) (e 1) (e 2) (e 3) (e 8))) (fun e => F52_j3 R k1 (e 0) (e 1) (e 2) (e 3) (e 8)))) _ (by kernel_rfl) (den_loop Pg R (cd Try.f52 [1,0,0,1,0,0,1,0]) (cd Try.f52 [1,0,0,1,0,0,1,0,0]) e (inB 2 (inB 1 (setN (setN (inB 0 (kont Pg R Try.f52)) (fun e => k1 (e 0) (e 1) (e 2) (e 3) (e 8))) (fun e => F52_j3 R k1 (e 0) (e 1) (e 2) (e 3) (e 8))))) (fun n e => F52_l1 R k1 n (e 0) (e 1) (e 2) (e 3) (e 8) (e 9)) _ (by kernel_rfl) (F52_l1_ok R k1) (by kernel_rfl)))
def F52_j4 (R : ER) (k1 : V5) (x0 x1 x2 x3 x8 : Value) : WP :=
  F52_j5 R k1 x0 x1 x2 x3 x8 x8
theorem F52_j4_ok (R : ER) (k1 : V5) (e : Env) : den Pg R (cd Try.f52 [1,0,0,1,0]) e (setN (setN (inB 0 (kont Pg R Try.f52)) (fun e => k1 (e 0) (e 1) (e 2) (e 3) (e 8))) (fun e => F52_j3 R k1 (e 0) (e 1) (e 2) (e 3) (e 8))) = (F52_j4 R k1 (e 0) (e 1) (e 2) (e 3) (e 8)) := (den_block Pg R (cd Try.f52 [1,0,0,1,0]) 1 (cd Try.f52 [1,0,0,1,0,0]) e (setN (setN (inB 0 (kont Pg R Try.f52)) (fun e => k1 (e 0) (e 1) (e 2) (e 3) (e 8))) (fun e => F52_j3 R k1 (e 0) (e 1) (e 2) (e 3) (e 8))) _ (by kernel_rfl) (den_join Pg R 0 (cd Try.f52 [1,0,0,1,0,0]) (cd Try.f52 [1,0,0,1,0,0,1]) e (inB 1 (setN (setN (inB 0 (kont Pg R Try.f52)) (fun e => k1 (e 0) (e 1) (e 2) (e 3) (e 8))) (fun e => F52_j3 R k1 (e 0) (e 1) (e 2) (e 3) (e 8)))) (fun e => F52_j5 R k1 (e 0) (e 1) (e 2) (e 3) (e 8) (e 9)) _ (by kernel_rfl) (fun e => F52_j5_ok R k1 e) (by kernel_rfl)))
def F52_j2 (R : ER) (k1 : V5) (x0 x1 x2 x3 x8 : Value) : WP :=
  F52_j4 R k1 x0 x1 x2 x3 x8
theorem F52_j2_ok (R : ER) (k1 : V5) (e : Env) : den Pg R (cd Try.f52 [1,0,0,1]) e (setN (inB 0 (kont Pg R Try.f52)) (fun e => k1 (e 0) (e 1) (e 2) (e 3) (e 8))) = (F52_j2 R k1 (e 0) (e 1) (e 2) (e 3) (e 8)) := (den_join Pg R 0 (cd Try.f52 [1,0,0,1]) (cd Try.f52 [1,0,0,1,1]) e (setN (inB 0 (kont Pg R Try.f52)) (fun e => k1 (e 0) (e 1) (e 2) (e 3) (e 8))) (fun e => F52_j3 R k1 (e 0) (e 1) (e 2) (e 3) (e 8)) _ (by kernel_rfl) (fun e => F52_j3_ok R k1 e) (den_conv Pg R (pre 0 (cd Try.f52 [1,0,0,1])) (cd Try.f52 [1,0,0,1,0]) e (setN (setN (inB 0 (kont Pg R Try.f52)) (fun e => k1 (e 0) (e 1) (e 2) (e 3) (e 8))) (fun e => F52_j3 R k1 (e 0) (e 1) (e 2) (e 3) (e 8))) _ (by kernel_rfl) (F52_j4_ok R k1 e)))
def F52_b1 (R : ER) (k1 : V5) (x0 x1 x2 x3 x8 : Value) : WP :=
  pv (bin .lss x8 x2) fun v30 =>
  cnd v30 (
   F52_j2 R k1 x0 x1 x2 x3 x8) (
   R (.returned (.tuple ⟨[]⟩)))
theorem F52_b1_ok (R : ER) (k1 : V5) (e : Env) : den Pg R (cd Try.f52 [1,0,0]) e (setN (inB 0 (kont Pg R Try.f52)) (fun e => k1 (e 0) (e 1) (e 2) (e 3) (e 8))) = (F52_b1 R k1 (e 0) (e 1) (e 2) (e 3) (e 8)) := (den_join Pg R 0 (cd Try.f52 [1,0,0]) (cd Try.f52 [1,0,0,1]) e (setN (inB 0 (kont Pg R Try.f52)) (fun e => k1 (e 0) (e 1) (e 2) (e 3) (e 8))) (fun e => F52_j2 R k1 (e 0) (e 1) (e 2) (e 3) (e 8)) _ (by kernel_rfl) (fun e => F52_j2_ok R k1 e) (by kernel_rfl))
noncomputable def F52_l2 (R : ER) (n : Nat) : V5 := Nat.rec (motive := fun _ => V5) (fun _ _ _ _ _ => fun _ => False) (fun _ ih => fun x0 x1 x2 x3 x8 => F52_b1 R ih x0 x1 x2 x3 x8) n
theorem F52_l2_succ (R : ER) (n : Nat) (x0 x1 x2 x3 x8 : Value) : F52_l2 R (n + 1) x0 x1 x2 x3 x8 = F52_b1 R (F52_l2 R n) x0 x1 x2 x3 x8 := rfl
theorem F52_l2_ok (R : ER) : ∀ (n : Nat) (e : Env), iterL (den Pg R (cd Try.f52 [1,0,0])) n e (inB 0 (kont Pg R Try.f52)) = F52_l2 R n (e 0) (e 1) (e 2) (e 3) (e 8) :=
  iterL_join (den Pg R (cd Try.f52 [1,0,0])) (inB 0 (kont Pg R Try.f52)) (fun n e => F52_l2 R n (e 0) (e 1) (e 2) (e 3) (e 8)) (fun _ => rfl) (fun n e => (F52_b1_ok R (F52_l2 R n) e).trans (F52_l2_succ R n (e 0) (e 1) (e 2) (e 3) (e 8)).symm)
def F52_j1 (R : ER) (x0 x1 x2 x3 x8 : Value) : WP :=
  exN fun n => F52_l2 R n x0 x1 x2 x3 x8
theorem F52_j1_ok (R : ER) (e : Env) : den Pg R (cd Try.f52 [1]) e (kont Pg R Try.f52) = (F52_j1 R (e 0) (e 1) (e 2) (e 3) (e 8)) := (den_block Pg R (cd Try.f52 [1]) 0 (cd Try.f52 [1,0]) e (kont Pg R Try.f52) _ (by kernel_rfl) (den_loop Pg R (cd Try.f52 [1,0]) (cd Try.f52 [1,0,0]) e (inB 0 (kont Pg R Try.f52)) (fun n e => F52_l2 R n (e 0) (e 1) (e 2) (e 3) (e 8)) _ (by kernel_rfl) (F52_l2_ok R) (by kernel_rfl)))
def F52 (R : ER) (x0 x1 x2 x3 : Value) : WP :=
  pv (bin .add x1 (.int .i64 1)) fun v31 =>
  F52_j1 R x0 x1 x2 x3 v31
theorem F52_den (R : ER) (x0 x1 x2 x3 : Value) : den Pg R (cd Try.f52 []) (argsEnv [x0, x1, x2, x3]) (kont Pg R Try.f52) = F52 R x0 x1 x2 x3 :=
  have h : ∀ e, den Pg R (cd Try.f52 []) e (kont Pg R Try.f52) = F52 R (e 0) (e 1) (e 2) (e 3) := fun e => (den_join Pg R 0 (cd Try.f52 []) (cd Try.f52 [1]) e (kont Pg R Try.f52) (fun e => F52_j1 R (e 0) (e 1) (e 2) (e 3) (e 8)) _ (by kernel_rfl) (fun e => F52_j1_ok R e) (by kernel_rfl))
  h _
theorem F52_calls {R : ER} {x0 x1 x2 x3 : Value} {w : World} (h : F52 R x0 x1 x2 x3 w) : Calls Pg 52 ⟨[x0, x1, x2, x3]⟩ w R :=
  calls_of_den Try.func52 (by kernel_rfl) (by kernel_rfl) (F52_den R x0 x1 x2 x3) h
/-! ### 53: slices_symMergeCmpFunc -/
def F53_j6 (R : ER) (x0 x3 x4 x18 x24 : Value) : WP :=
  pv (bin .lss x18 x24) fun v1 =>
  gd v1 true (pv (some x24)) fun v2 =>
  gd v1 true (pv (some x3)) fun v3 =>
  gd v1 true (pv (bin .lss v2 v3)) fun v4 =>
  pv (pickO v1 v4 (.bool false)) fun v5 =>
  cnd v5 (
   cal Pg R 53 ⟨[x0, x18, x24, x3, x4]⟩ fun v6 =>
   R (.returned (.tuple ⟨[]⟩))) (
   R (.returned (.tuple ⟨[]⟩)))
theorem F53_j6_ok (R : ER) (e : Env) : den Pg R (cd Try.f53 [1,1,1,1,1,1,1,1,1,1,1]) e (kont Pg R Try.f53) = (F53_j6 R (e 0) (e 3) (e 4) (e 18) (e 24)) := (by kernel_rfl)
def F53_j7 (R : ER) (x0 x1 x3 x4 x18 x20 x24 : Value) : WP :=
  pv (bin .lss x1 x20) fun v7 =>
  gd v7 true (pv (some x20)) fun v8 =>
  gd v7 true (pv (some x18)) fun v9 =>
  gd v7 true (pv (bin .lss v8 v9)) fun v10 =>
  pv (pickO v7 v10 (.bool false)) fun v11 =>
  cnd v11 (
   cal Pg R 53 ⟨[x0, x1, x20, x18, x4]⟩ fun v12 =>
   F53_j6 R x0 x3 x4 x18 x24) (
   F53_j6 R x0 x3 x4 x18 x24)
theorem F53_j7_ok (R : ER) (e : Env) : den Pg R (cd Try.f53 [1,1,1,1,1,1,1,1,1,1,0]) e (setN (kont Pg R Try.f53) (fun e => F53_j6 R (e 0) (e 3) (e 4) (e 18) (e 24))) = (F53_j7 R (e 0) (e 1) (e 3) (e 4) (e 18) (e 20) (e 24)) := (by kernel_rfl)
def F53_j5 (R : ER) (x0 x1 x3 x4 x18 x20 x24 : Value) : WP :=
  F53_j7 R x0 x1 x3 x4 x18 x20 x24
theorem F53_j5_ok (R : ER) (e : Env) : den Pg R (cd Try.f53 [1,1,1,1,1,1,1,1,1,1]) e (kont Pg R Try.f53) = (F53_j5 R (e 0) (e 1) (e 3) (e 4) (e 18) (e 20) (e 24)) := (den_join Pg R 0 (cd Try.f53 [1,1,1,1,1,1,1,1,1,1]) (cd Try.f53 [1,1,1,1,1,1,1,1,1,1,1]) e (kont Pg R Try.f53) (fun e => F53_j6 R (e 0) (e 3) (e 4) (e 18) (e 24)) _ (by kernel_rfl) (fun e => F53_j6_ok R e) (den_conv Pg R (pre 0 (cd Try.f53 [1,1,1,1,1,1,1,1,1,1])) (cd Try.f53 [1,1,1,1,1,1,1,1,1,1,0]) e (setN (kont Pg R Try.f53) (fun e => F53_j6 R (e 0) (e 3) (e 4) (e 18) (e 24))) _ (by kernel_rfl) (F53_j7_ok R e)))
def F53_j8 (R : ER) (x0 x1 x2 x3 x4 x18 x20 x24 : Value) : WP :=
  pv (bin .lss x20 x2) fun v13 =>
  gd v13 true (pv (some x2)) fun v14 =>
  gd v13 true (pv (some x24)) fun v15 =>
  gd v13 true (pv (bin .lss v14 v15)) fun v16 =>
  pv (pickO v13 v16 (.bool false)) fun v17 =>
  cnd v17 (
   cal Pg R 69 ⟨[x0, x20, x2, x24, x4]⟩ fun v18 =>
   F53_j5 R x0 x1 x3 x4 x18 x20 x24) (
   F53_j5 R x0 x1 x3 x4 x18 x20 x24)
theorem F53_j8_ok (R : ER) (e : Env) : den Pg R (cd Try.f53 [1,1,1,1,1,1,1,1,1,0]) e (setN (kont Pg R Try.f53) (fun e => F53_j5 R (e 0) (e 1) (e 3) (e 4) (e 18) (e 20) (e 24))) = (F53_j8 R (e 0) (e 1) (e 2) (e 3) (e 4) (e 18) (e 20) (e 24)) := (by kernel_rfl)
def F53_j4 (R : ER) (x0 x1 x2 x3 x4 x18 x19 x20 : Value) : WP :=
  pv (bin .sub x19 x20) fun v19 =>
  F53_j8 R x0 x1 x2 x3 x4 x18 x20 v19
theorem F53_j4_ok (R : ER) (e : Env) : den Pg R (cd Try.f53 [1,1,1,1,1,1,1,1]) e (kont Pg R Try.f53) = (F53_j4 R (e 0) (e 1) (e 2) (e 3) (e 4) (e 18) (e 19) (e 20)) := (den_join Pg R 1 (cd Try.f53 [1,1,1,1,1,1,1,1]) (cd Try.f53 [1,1,1,1,1,1,1,1,1,1]) e (kont Pg R Try.f53) (fun e => F53_j5 R (e 0) (e 1) (e 3) (e 4) (e 18) (e 20) (e 24)) _ (by kernel_rfl) (fun e => F53_j5_ok R e) (den_join Pg R 0 (pre 1 (cd Try.f53 [1,1,1,1,1,1,1,1])) (cd Try.f53 [1,1,1,1,1,1,1,1,1,0]) e (setN (kont Pg R Try.f53) (fun e => F53_j5 R (e 0) (e 1) (e 3) (e 4) (e 18) (e 20) (e 24))) (fun e => F53_j8 R (e 0) (e 1) (e 2) (e 3) (e 4) (e 18) (e 20) (e 24)) _ (by kernel_rfl) (fun e => F53_j8_ok R e) (by kernel_rfl)))
def F53_j10 (R : ER) (k1 : V10) (x0 x1 x2 x3 x4 x18 x19 x20 x21 x22 : Value) : WP :=
  pv (bin .add x20 x21) fun v20 =>
  pv (cvI .u64 v20) fun v21 =>
  pv (bin .shr v21 (.int .u64 1)) fun v22 =>
  pv (cvI .i64 v22) fun v23 =>
  drewV (
  pv (bin .sub x22 v23) fun v24 =>
  pv (ixS 2 x0 v24) fun v25 =>
  ldN 2 v25 fun v26 =>
  pv (ixS 2 x0 v23) fun v27 =>
  ldN 2 v27 fun v28 =>
  mem fun w30 => calD Pg noR x4 ⟨[v26, v28]⟩ fun v29 =>
  pv (bin .lss v29 (.int .i64 0)) fun v31 =>
  pv (unO .not v31) fun v32 =>
  cnd v32 (
   pv (bin .add v23 (.int .i64 1)) fun v33 =>
   k1 x0 x1 x2 x3 x4 x18 x19 v33 x21 x22) (
   k1 x0 x1 x2 x3 x4 x18 x19 x20 v23 x22))
theorem F53_j10_ok (R : ER) (k1 : V10) (e : Env) : den Pg R (cd Try.f53 [1,1,1,1,1,1,1,0,0,0,1]) e (setN (inB 8 (setN (kont Pg R Try.f53) (fun e => F53_j4 R (e 0) (e 1) (e 2) (e 3) (e 4) (e 18) (e 19) (e 20)))) (fun e => k1 (e 0) (e 1) (e 2) (e 3) (e 4) (e 18) (e 19) (e 20) (e 21) (e 22))) = (F53_j10 R k1 (e 0) (e 1) (e 2) (e 3) (e 4) (e 18) (e 19) (e 20) (e 21) (e 22)) := (den_block Pg R (cd Try.f53 [1,1,1,1,1,1,1,0,0,0,1]) 9 (cd Try.f53 [1,1,1,1,1,1,1,0,0,0,1,0]) e (setN (inB 8 (setN (kont Pg R Try.f53) (fun e => F53_j4 R (e 0) (e 1) (e 2) (e 3) (e 4) (e 18) (e 19) (e 20)))) (fun e => k1 (e 0) (e 1) (e 2) (e 3) (e 4) (e 18) (e 19) (e 20) (e 21) (e 22))) _ (by kernel_rfl) (by kernel_rfl))
def F53_b1 (R : ER) (k1 : V10) (x0 x1 x2 x3 x4 x18 x19 x20 x21 x22 : Value) : WP :=
  pv (bin .lss x20 x21) fun v34 =>
  cnd v34 (
   F53_j10 R k1 x0 x1 x2 x3 x4 x18 x19 x20 x21 x22) (
   F53_j4 R x0 x1 x2 x3 x4 x18 x19 x20)
theorem F53_b1_ok (R : ER) (k1 : V10) (e : Env) : den Pg R (cd Try.f53 [1,1,1,1,1,1,1,0,0,0]) e (setN (inB 8 (setN (kont Pg R Try.f53) (fun e => F53_j4 R (e 0) (e 1) (e 2) (e 3) (e 4) (e 18) (e 19) (e 20)))) (fun e => k1 (e 0) (e 1) (e 2) (e 3) (e 4) (e 18) (e 19) (e 20) (e 21) (e 22))) = (F53_b1 R k1 (e 0) (e 1) (e 2) (e 3) (e 4) (e 18) (e 19) (e 20) (e 21) (e 22)) := (den_join Pg R 0 (cd Try.f53 [1,1,1,1,1,1,1,0,0,0]) (cd Try.f53 [1,1,1,1,1,1,1,0,0,0,1]) e (setN (inB 8 (setN (kont Pg R Try.f53) (fun e => F53_j4 R (e 0) (e 1) (e 2) (e 3) (e 4) (e 18) (e 19) (e 20)))) (fun e => k1 (e 0) (e 1) (e 2) (e 3) (e 4) (e 18) (e 19) (e 20) (e 21) (e 22))) (fun e => F53_j10 R k1 (e 0) (e 1) (e 2) (e 3) (e 4) (e 18) (e 19) (e 20) (e 21) (e 22)) _ (by kernel_rfl) (fun e => F53_j10_ok R k1 e) (by kernel_rfl))
noncomputable def F53_l1 (R : ER) (n : Nat) : V10 := Nat.rec (motive := fun _ => V10) (fun _ _ _ _ _ _ _ _ _ _ => fun _ => False) (fun _ ih => fun x0 x1 x2 x3 x4 x18 x19 x20 x21 x22 => F53_b1 R ih x0 x1 x2 x3 x4 x18 x19 x20 x21 x22) n
theorem F53_l1_succ (R : ER) (n : Nat) (x0 x1 x2 x3 x4 x18 x19 x20 x21 x22 : Value) : F53_l1 R (n + 1) x0 x1 x2 x3 x4 x18 x19 x20 x21 x22 = F53_b1 R (F53_l1 R n) x0 x1 x2 x3 x4 x18 x19 x20 x21 x22 := rfl
theorem F53_l1_ok (R : ER) : ∀ (n : Nat) (e : Env), iterL (den Pg R (cd Try.f53 [1,1,1,1,1,1,1,0,0,0])) n e (inB 8 (setN (kont Pg R Try.f53) (fun e => F53_j4 R (e 0) (e 1) (e 2) (e 3) (e 4) (e 18) (e 19) (e 20)))) = F53_l1 R n (e 0) (e 1) (e 2) (e 3) (e 4) (e 18) (e 19) (e 20) (e 21) (e 22) :=
  iterL_join (den Pg R (cd Try.f53 [1,1,1,1,1,1,1,0,0,0])) (inB 8 (setN (kont Pg R Try.f53) (fun e => F53_j4 R (e 0) (e 1) (e 2) (e 3) (e 4) (e 18) (e 19) (e 20)))) (fun n e => F53_l1 R n (e 0) (e 1) (e 2) (e 3) (e 4) (e 18) (e 19) (e 20) (e 21) (e 22)) (fun _ => rfl) (fun n e => (F53_b1_ok R (F53_l1 R n) e).trans (F53_l1_succ R n (e 0) (e 1) (e 2) (e 3) (e 4) (e 18) (e 19) (e 20) (e 21) (e 22)).symm)
def F53_j9 (R : ER) (x0 x1 x2 x3 x4 x18 x19 x20 x21 x22 : Value) : WP :=
  exN fun n => F53_l1 R n x0 x1 x2 x3 x4 x18 x19 x20 x21 x22
theorem F53_j9_ok (R : ER) (e : Env) : den Pg R (cd Try.f53 [1,1,1,1,1,1,1,0]) e (setN (kont Pg R Try.f53) (fun e => F53_j4 R (e 0) (e 1) (e 2) (e 3) (e 4) (e 18) (e 19) (e 20))) = (F53_j9 R (e 0) (e 1) (e 2) (e 3) (e 4) (e 18) (e 19) (e 20) (e 21) (e 22)) := (den_block Pg R (cd Try.f53 [1,1,1,1,1,1,1,0]) 8 (cd Try.f53 [1,1,1,1,1,1,1,0,0]) e (setN (kont Pg R Try.f53) (fun e => F53_j4 R (e 0) (e 1) (e 2) (e 3) (e 4) (e 18) (e 19) (e 20))) _ (by kernel_rfl) (den_loop Pg R (cd Try.f53 [1,1,1,1,1,1,1,0,0]) (cd Try.f53 [1,1,1,1,1,1,1,0,0,0]) e (inB 8 (setN (kont Pg R Try.f53) (fun e => F53_j4 R (e 0) (e 1) (e 2) (e 3) (e 4) (e 18) (e 19) (e 20)))) (fun n e => F53_l1 R n (e 0) (e 1) (e 2) (e 3) (e 4) (e 18) (e 19) (e 20) (e 21) (e 22)) _ (by kernel_rfl) (F53_l1_ok R) (by kernel_rfl)))
def F53_j3 (R : ER) (x0 x1 x2 x3 x4 x18 x19 x20 x21 : Value) : WP :=
  pv (bin .sub x19 (.int .i64 1)) fun v35 =>
  F53_j9 R x0 x1 x2 x3 x4 x18 x19 x20 x21 v35
theorem F53_j3_ok (R : ER) (e : Env) : den Pg R (cd Try.f53 [1,1,1,1,1,1]) e (kont Pg R Try.f53) = (F53_j3 R (e 0) (e 1) (e 2) (e 3) (e 4) (e 18) (e 19) (e 20) (e 21)) := (den_join Pg R 1 (cd Try.f53 [1,1,1,1,1,1]) (cd Try.f53 [1,1,1,1,1,1,1,1]) e (kont Pg R Try.f53) (fun e => F53_j4 R (e 0) (e 1) (e 2) (e 3) (e 4) (e 18) (e 19) (e 20)) _ (by kernel_rfl) (fun e => F53_j4_ok R e) (den_join Pg R 0 (pre 1 (cd Try.f53 [1,1,1,1,1,1])) (cd Try.f53 [1,1,1,1,1,1,1,0]) e (setN (kont Pg R Try.f53) (fun e => F53_j4 R (e 0) (e 1) (e 2) (e 3) (e 4) (e 18) (e 19) (e 20))) (fun e => F53_j9 R (e 0) (e 1) (e 2) (e 3) (e 4) (e 18) (e 19) (e 20) (e 21) (e 22)) _ (by kernel_rfl) (fun e => F53_j9_ok R e) (by kernel_rfl)))
def F53_j11 (R : ER) (x0 x1 x2 x3 x4 x18 x19 : Value) : WP :=
  pv (bin .gtr x2 x18) fun v36 =>
  cnd v36 (
   pv (bin .sub x19 x3) fun v37 =>
   F53_j3 R x0 x1 x2 x3 x4 x18 x19 v37 x18) (
   F53_j3 R x0 x1 x2 x3 x4 x18 x19 x1 x2)
theorem F53_j11_ok (R : ER) (e : Env) : den Pg R (cd Try.f53 [1,1,1,1,1,0]) e (setN (kont Pg R Try.f53) (fun e => F53_j3 R (e 0) (e 1) (e 2) (e 3) (e 4) (e 18) (e 19) (e 20) (e 21))) = (F53_j11 R (e 0) (e 1) (e 2) (e 3) (e 4) (e 18) (e 19)) := (by kernel_rfl)
def F53_j2 (R : ER) (x0 x1 x2 x3 x4 : Value) : WP :=
  pv (bin .add x1 x3) fun v38 =>
  pv (cvI .u64 v38) fun v39 =>
  pv (bin .shr v39 (.int .u64 1)) fun v40 =>
  pv (cvI .i64 v40) fun v41 =>
  pv (bin .add v41 x2) fun v42 =>
  F53_j11 R x0 x1 x2 x3 x4 v41 v42
theorem F53_j2_ok (R : ER) (e : Env) : den Pg R (cd Try.f53 [1,1]) e (kont Pg R Try.f53) = (F53_j2 R (e 0) (e 1) (e 2) (e 3) (e 4)) := (den_join Pg R 3 (cd Try.f53 [1,1]) (cd Try.f53 [1,1,1,1,1,1]) e (kont Pg R Try.f53) (fun e => F53_j3 R (e 0) (e 1) (e 2) (e 3) (e 4) (e 18) (e 19) (e 20) (e 21)) _ (by kernel_rfl) (fun e => F53_j3_ok R e) (den_join Pg R 2 (pre 3 (cd Try.f53 [1,1])) (cd Try.f53 [1,1,1,1,1,0]) e (setN (kont Pg R Try.f53) (fun e => F53_j3 R (e 0) (e 1) (e 2) (e 3) (e 4) (e 18) (e 19) (e 20) (e 21))) (fun e => F53_j11 R (e 0) (e 1) (e 2) (e 3) (e 4) (e 18) (e 19)) _ (by kernel_rfl) (fun e => F53_j11_ok R e) (by kernel_rfl)))
def F53_j16 (R : ER) : WP :=
  R (.returned (.tuple ⟨[]⟩))
theorem F53_j16_ok (R : ER) (e : Env) : den Pg R (cd Try.f53 [1,0,1,0,1,1,1,1]) e (setN (kont Pg R Try.f53) (fun e => F53_j2 R (e 0) (e 1) (e 2) (e 3) (e 4))) = (F53_j16 R) := by kernel_rfl
def F53_j19 (R : ER) (k1 : V3) (x0 x14 x17 : Value) : WP :=
  drewV (
  pv (bin .sub x17 (.int .i64 1)) fun v43 =>
  pv (bin .sub x17 (.int .i64 1)) fun v44 =>
  pv (ixS 2 x0 v44) fun v45 =>
  ldN 2 v45 fun v46 =>
  pv (ixS 2 x0 x17) fun v47 =>
  ldN 2 v47 fun v48 =>
  pv (ixS 2 x0 x17) fun v49 =>
  mem fun w51 => stN 2 v49 v46 fun v50 =>
  pv (ixS 2 x0 v43) fun v52 =>
  mem fun w54 => stN 2 v52 v48 fun v53 =>
  pv (bin .sub x17 (.int .i64 1)) fun v55 =>
  k1 x0 x14 v55)
theorem F53_j19_ok (R : ER) (k1 : V3) (e : Env) : den Pg R (cd Try.f53 [1,0,1,0,1,1,1,0,1,0,0,1]) e (setN (inB 6 (setN (setN (kont Pg R Try.f53) (fun e => F53_j2 R (e 0) (e 1) (e 2) (e 3) (e 4))) (fun e => F53_j16 R))) (fun e => k1 (e 0) (e 14) (e 17))) = (F53_j19 R k1 (e 0) (e 14) (e 17)) := by kernel_rfl
def F53_b2 (R : ER) (k1 : V3) (x0 x14 x17 : Value) : WP :=
  pv (bin .gtr x17 x14) fun v56 =>
  cnd v56 (
   F53_j19 R k1 x0 x14 x17) (
   F53_j16 R)
theorem F53_b2_ok (R : ER) (k1 : V3) (e : Env) : den Pg R (cd Try.f53 [1,0,1,0,1,1,1,0,1,0,0]) e (setN (inB 6 (setN (setN (kont Pg R Try.f53) (fun e => F53_j2 R (e 0) (e 1) (e 2) (e 3) (e 4))) (fun e => F53_j16 R))) (fun e => k1 (e 0) (e 14) (e 17))) = (F53_b2 R k1 (e 0) (e 14) (e 17)) := (den_join Pg R 0 (cd Try.f53 [1,0,1,0,1,1,1,0,1,0,0]) (cd Try.f53 [1,0,1,0,1,1,1,0,1,0,0,1]) e (setN (inB 6 (setN (setN (kont Pg R Try.f53) (fun e => F53_j2 R (e 0) (e 1) (e 2) (e 3) (e 4))) (fun e => F53_j16 R))) (fun e => k1 (e 0) (e 14) (e 17))) (fun e => F53_j19 R k1 (e 0) (e 14) (e 17)) _ (by kernel_rfl) (fun e => F53_j19_ok R k1 e) (by kernel_rfl))
noncomputable def F53_l2 (R : ER) (n : Nat) : V3 := Nat.rec (motive := fun _ => V3) (fun _ _ _ => fun _ => False) (fun _ ih => fun x0 x14 x17 => F53_b2 R ih x0 x14 x17) n
theorem F53_l2_succ (R : ER) (n : Nat) (x0 x14 x17 : Value) : F53_l2 R (n + 1) x0 x14 x17 = F53_b2 R (F53_l2 R n) x0 x14 x17 := rfl
theorem F53_l2_ok (R : ER) : ∀ (n : Nat) (e : Env), iterL (den Pg R (cd Try.f53 [1,0,1,0,1,1,1,0,1,0,0])) n e (inB 6 (setN (setN (kont Pg R Try.f53) (fun e => F53_j2 R (e 0) (e 1) (e 2) (e 3) (e 4))) (fun e => F53_j16 R))) = F53_l2 R n (e 0) (e 14) (e 17) :=
  iterL_join (den Pg R (cd Try.f53 [1,0,1,0,1,1,1,0,1,0,0])) (inB 6 (setN (setN (kont Pg R Try.f53) (fun e => F53_j2 R (e 0) (e 1) (e 2) (e 3) (e 4))) (fun e => F53_j16 R))) (fun n e => F53_l2 R n (e 0) (e 14) (e 17)) (fun _ => rfl) (fun n e => (F53_b2_ok R (F53_l2 R n) e).trans (F53_l2_succ R n (e 0) (e 14) (e 17)).symm)
def F53_j18 (R : ER) (x0 x14 x17 : Value) : WP :=
  exN fun n => F53_l2 R n x0 x14 x17
theorem F53_j18_ok (R : ER) (e : Env) : den Pg R (cd Try.f53 [1,0,1,0,1,1,1,0,1]) e (setN (setN (kont Pg R Try.f53) (fun e => F53_j2 R (e 0) (e 1) (e 2) (e 3) (e 4))) (fun e => F53_j16 R)) = (F53_j18 R (e 0) (e 14) (e 17)) := (den_block Pg R (cd Try.f53 [1,0,1,0,1,1,1,0,1]) 6 (cd Try.f53 [1,0,1,0,1,1,1,0,1,0]) e (setN (setN (kont Pg R Try.f53) (fun e => F53_j2 R (e 0) (e 1) (e 2) (e 3) (e 4))) (fun e => F53_j16 R)) _ (by kernel_rfl) (den_loop Pg R (cd Try.f53 [1,0,1,0,1,1,1,0,1,0]) (cd Try.f53 [1,0,1,0,1,1,1,0,1,0,0]) e (inB 6 (setN (setN (kont Pg R Try.f53) (fun e => F53_j2 R (e 0) (e 1) (e 2) (e 3) (e 4))) (fun e => F53_j16 R))) (fun n e => F53_l2 R n (e 0) (e 14) (e 17)) _ (by kernel_rfl) (F53_l2_ok R) (by kernel_rfl)))
def F53_j17 (R : ER) (x0 x2 x14 : Value) : WP :=
  F53_j18 R x0 x14 x2
theorem F53_j17_ok (R : ER) (e : Env) : den Pg R (cd Try.f53 [1,0,1,0,1,1,1,0]) e (setN (setN (kont Pg R Try.f53) (fun e => F53_j2 R (e 0) (e 1) (e 2) (e 3) (e 4))) (fun e => F53_j16 R)) = (F53_j17 R (e 0) (e 2) (e 14)) := (den_join Pg R 0 (cd Try.f53 [1,0,1,0,1,1,1,0]) (cd Try.f53 [1,0,1,0,1,1,1,0,1]) e (setN (setN (kont Pg R Try.f53) (fun e => F53_j2 R (e 0) (e 1) (e 2) (e 3) (e 4))) (fun e => F53_j16 R)) (fun e => F53_j18 R (e 0) (e 14) (e 17)) _ (by kernel_rfl) (fun e => F53_j18_ok R e) (by kernel_rfl))
def F53_j15 (R : ER) (x0 x2 x14 : Value) : WP :=
  F53_j17 R x0 x2 x14
theorem F53_j15_ok (R : ER) (e : Env) : den Pg R (cd Try.f53 [1,0,1,0,1,1,1]) e (setN (kont Pg R Try.f53) (fun e => F53_j2 R (e 0) (e 1) (e 2) (e 3) (e 4))) = (F53_j15 R (e 0) (e 2) (e 14)) := (den_join Pg R 0 (cd Try.f53 [1,0,1,0,1,1,1]) (cd Try.f53 [1,0,1,0,1,1,1,1]) e (setN (kont Pg R Try.f53) (fun e => F53_j2 R (e 0) (e 1) (e 2) (e 3) (e 4))) (fun e => F53_j16 R) _ (by kernel_rfl) (fun e => F53_j16_ok R e) (den_conv Pg R (pre 0 (cd Try.f53 [1,0,1,0,1,1,1])) (cd Try.f53 [1,0,1,0,1,1,1,0]) e (setN (setN (kont Pg R Try.f53) (fun e => F53_j2 R (e 0) (e 1) (e 2) (e 3) (e 4))) (fun e => F53_j16 R)) _ (by kernel_rfl) (F53_j17_ok R e)))
def F53_j21 (R : ER) (k1 : V5) (x0 x2 x4 x14 x15 : Value) : WP :=
  pv (bin .add x14 x15) fun v57 =>
  pv (cvI .u64 v57) fun v58 =>
  pv (bin .shr v58 (.int .u64 1)) fun v59 =>
  pv (cvI .i64 v59) fun v60 =>
  drewV (
  pv (ixS 2 x0 x2) fun v61 =>
  ldN 2 v61 fun v62 =>
  pv (ixS 2 x0 v60) fun v63 =>
  ldN 2 v63 fun v64 =>
  mem fun w66 => calD Pg noR x4 ⟨[v62, v64]⟩ fun v65 =>
  pv (bin .lss v65 (.int .i64 0)) fun v67 =>
  pv (unO .not v67) fun v68 =>
  cnd v68 (
   pv (bin .add v60 (.int .i64 1)) fun v69 =>
   k1 x0 x2 x4 v69 x15) (
   k1 x0 x2 x4 x14 v60))
theorem F53_j21_ok (R : ER) (k1 : V5) (e : Env) : den Pg R (cd Try.f53 [1,0,1,0,1,1,0,0,0,1]) e (setN (inB 4 (setN (setN (kont Pg R Try.f53) (fun e => F53_j2 R (e 0) (e 1) (e 2) (e 3) (e 4))) (fun e => F53_j15 R (e 0) (e 2) (e 14)))) (fun e => k1 (e 0) (e 2) (e 4) (e 14) (e 15))) = (F53_j21 R k1 (e 0) (e 2) (e 4) (e 14) (e 15)) := (den_block Pg R (cd Try.f53 [1,0,1,0,1,1,0,0,0,1]) 5 (cd Try.f53 [1,0,1,0,1,1,0,0,0,1,0]) e (setN (inB 4 (setN (setN (kont Pg R Try.f53) (fun e => F53_j2 R (e 0) (e 1) (e 2) (e 3) (e 4))) (fun e => F53_j15 R (e 0) (e 2) (e 14)))) (fun e => k1 (e 0) (e 2) (e 4) (e 14) (e 15))) _ (by kernel_rfl) (by kernel_rfl))
def F53_b3 (R : ER) (k1 : V5) (x0 x2 x4 x14 x15 : Value) : WP :=
  pv (bin .lss x14 x15) fun v70 =>
  cnd v70 (
   F53_j21 R k1 x0 x2 x4 x14 x15) (
   F53_j15 R x0 x2 x14)
theorem F53_b3_ok (R : ER) (k1 : V5) (e : Env) : den Pg R (cd Try.f53 [1,0,1,0,1,1,0,0,0]) e (setN (inB 4 (setN (setN (kont Pg R Try.f53) (fun e => F53_j2 R (e 0) (e 1) (e 2) (e 3) (e 4))) (fun e => F53_j15 R (e 0) (e 2) (e 14)))) (fun e => k1 (e 0) (e 2) (e 4) (e 14) (e 15))) = (F53_b3 R k1 (e 0) (e 2) (e 4) (e 14) (e 15)) := (den_join Pg R 0 (cd Try.f53 [1,0,1,0,1,1,0,0,0]) (cd Try.f53 [1,0,1,0,1,1,0,0,0,1]) e (setN (inB 4 (setN (setN (kont Pg R Try.f53) (fun e => F53_j2 R (e 0) (e 1) (e 2) (e 3) (e 4))) (fun e => F53_j15 R (e 0) (e 2) (e 14)))) (fun e => k1 (e 0) (e 2) (e 4) (e 14) (e 15))) (fun e => F53_j21 R k1 (e 0) (e 2) (e 4) (e 14) (e 15)) _ (by kernel_rfl) (fun e => F53_j21_ok R k1 e) (by kernel_rfl))
noncomputable def F53_l3 (R : ER) (n : Nat) : V5 := Nat.rec (motive := fun _ => V5) (fun _ _ _ _ _ => fun _ => False) (fun _ ih => fun x0 x2 x4 x14 x15 => F53_b3 R ih x0 x2 x4 x14 x15) n
theorem F53_l3_succ (R : ER) (n : Nat) (x0 x2 x4 x14 x15 : Value) : F53_l3 R (n + 1) x0 x2 x4 x14 x15 = F53_b3 R (F53_l3 R n) x0 x2 x4 x14 x15 := rfl
theorem F53_l3_ok (R : ER) : ∀ (n : Nat) (e : Env), iterL (den Pg R (cd Try.f53 [1,0,1,0,1,1,0,0,0])) n e (inB 4 (setN (setN (kont Pg R Try.f53) (fun e => F53_j2 R (e 0) (e 1) (e 2) (e 3) (e 4))) (fun e => F53_j15 R (e 0) (e 2) (e 14)))) = F53_l3 R n (e 0) (e 2) (e 4) (e 14) (e 15) :=
  iterL_join (den Pg R (cd Try.f53 [1,0,1,0,1,1,0,0,0])) (inB 4 (setN (setN (kont Pg R Try.f53) (fun e => F53_j2 R (e 0) (e 1) (e 2) (e 3) (e 4))) (fun e => F53_j15 R (e 0) (e 2) (e 14)))) (fun n e => F53_l3 R n (e 0) (e 2) (e 4) (e 14) (e 15)) (fun _ => rfl) (fun n e => (F53_b3_ok R (F53_l3 R n) e).trans (F53_l3_succ R n (e 0) (e 2) (e 4) (e 14) (e 15)).symm)
def F53_j20 (R : ER) (x0 x2 x4 x14 x15 : Value) : WP :=
  exN fun n => F53_l3 R n x0 x2 x4 x14 x15
theorem F53_j20_ok (R : ER) (e : Env) : den Pg R (cd Try.f53 [1,0,1,0,1,1,0]) e (setN (setN (kont Pg R Try.f53) (fun e => F53_j2 R (e 0) (e 1) (e 2) (e 3) (e 4))) (fun e => F53_j15 R (e 0) (e 2) (e 14))) = (F53_j20 R (e 0) (e 2) (e 4) (e 14) (e 15)) := (den_block Pg R (cd Try.f53 [1,0,1,0,1,1,0]) 4 (cd Try.f53 [1,0,1,0,1,1,0,0]) e (setN (setN (kont Pg R Try.f53) (fun e => F53_j2 R (e 0) (e 1) (e 2) (e 3) (e 4))) (fun e => F53_j15 R (e 0) (e 2) (e 14))) _ (by kernel_rfl) (den_loop Pg R (cd Try.f53 [1,0,1,0,1,1,0,0]) (cd Try.f53 [1,0,1,0,1,1,0,0,0]) e (inB 4 (setN (setN (kont Pg R Try.f53) (fun e => F53_j2 R (e 0) (e 1) (e 2) (e 3) (e 4))) (fun e => F53_j15 R (e 0) (e 2) (e 14)))) (fun n e => F53_l3 R n (e 0) (e 2) (e 4) (e 14) (e 15)) _ (by kernel_rfl) (F53_l3_ok R) (by kernel_rfl)))
def F53_j14 (R : ER) (x0 x1 x2 x4 : Value) : WP :=
  F53_j20 R x0 x2 x4 x1 x2
theorem F53_j14_ok (R : ER) (e : Env) : den Pg R (cd Try.f53 [1,0,1,0]) e (setN (kont Pg R Try.f53) (fun e => F53_j2 R (e 0) (e 1) (e 2) (e 3) (e 4))) = (F53_j14 R (e 0) (e 1) (e 2) (e 4)) := (den_join Pg R 2 (cd Try.f53 [1,0,1,0]) (cd Try.f53 [1,0,1,0,1,1,1]) e (setN (kont Pg R Try.f53) (fun e => F53_j2 R (e 0) (e 1) (e 2) (e 3) (e 4))) (fun e => F53_j15 R (e 0) (e 2) (e 14)) _ (by kernel_rfl) (fun e => F53_j15_ok R e) (den_join Pg R 1 (pre 2 (cd Try.f53 [1,0,1,0])) (cd Try.f53 [1,0,1,0,1,1,0]) e (setN (setN (kont Pg R Try.f53) (fun e => F53_j2 R (e 0) (e 1) (e 2) (e 3) (e 4))) (fun e => F53_j15 R (e 0) (e 2) (e 14))) (fun e => F53_j20 R (e 0) (e 2) (e 4) (e 14) (e 15)) _ (by kernel_rfl) (fun e => F53_j20_ok R e) (by kernel_rfl)))
def F53_j13 (R : ER) (x0 x1 x2 x3 x4 x80 : Value) : WP :=
  cnd x80 (F53_j14 R x0 x1 x2 x4) (F53_j2 R x0 x1 x2 x3 x4)
theorem F53_j13_ok (R : ER) (e : Env) : den Pg R (cd Try.f53 [1,0,1]) e (setN (kont Pg R Try.f53) (fun e => F53_j2 R (e 0) (e 1) (e 2) (e 3) (e 4))) = (F53_j13 R (e 0) (e 1) (e 2) (e 3) (e 4) (e 80)) := (den_if Pg R (cd Try.f53 [1,0,1]) (cd Try.f53 [1,0,1,0]) (cd Try.f53 [1,0,1,1]) e (setN (kont Pg R Try.f53) (fun e => F53_j2 R (e 0) (e 1) (e 2) (e 3) (e 4))) (F53_j14 R (e 0) (e 1) (e 2) (e 4)) _ _ (by kernel_rfl) (F53_j14_ok R e) rfl (by kernel_rfl))
def F53_j12 (R : ER) (x0 x1 x2 x3 x4 : Value) : WP :=
  pv (bin .sub x3 x2) fun v71 =>
  pv (bin .eql v71 (.int .i64 1)) fun v72 =>
  F53_j13 R x0 x1 x2 x3 x4 v72
theorem F53_j12_ok (R : ER) (e : Env) : den Pg R (cd Try.f53 [1,0]) e (setN (kont Pg R Try.f53) (fun e => F53_j2 R (e 0) (e 1) (e 2) (e 3) (e 4))) = (F53_j12 R (e 0) (e 1) (e 2) (e 3) (e 4)) := (den_join Pg R 0 (cd Try.f53 [1,0]) (cd Try.f53 [1,0,1]) e (setN (kont Pg R Try.f53) (fun e => F53_j2 R (e 0) (e 1) (e 2) (e 3) (e 4))) (fun e => F53_j13 R (e 0) (e 1) (e 2) (e 3) (e 4) (e 80)) _ (by kernel_rfl) (fun e => F53_j13_ok R e) (by kernel_rfl))
def F53_j1 (R : ER) (x0 x1 x2 x3 x4 : Value) : WP :=
  F53_j12 R x0 x1 x2 x3 x4
theorem F53_j1_ok (R : ER) (e : Env) : den Pg R (cd Try.f53 [1]) e (kont Pg R Try.f53) = (F53_j1 R (e 0) (e 1) (e 2) (e 3) (e 4)) := (den_join Pg R 0 (cd Try.f53 [1]) (cd Try.f53 [1,1]) e (kont Pg R Try.f53) (fun e => F53_j2 R (e 0) (e 1) (e 2) (e 3) (e 4)) _ (by kernel_rfl) (fun e => F53_j2_ok R e) (den_conv Pg R (pre 0 (cd Try.f53 [1])) (cd Try.f53 [1,0]) e (setN (kont Pg R Try.f53) (fun e => F53_j2 R (e 0) (e 1) (e 2) (e 3) (e 4))) _ (by kernel_rfl) (F53_j12_ok R e)))
def F53_j26 (R : ER) : WP :=
  R (.returned (.tuple ⟨[]⟩))
theorem F53_j26_ok (R : ER) (e : Env) : den Pg R (cd Try.f53 [0,1,0,1,1,1,1]) e (setN (kont Pg R Try.f53) (fun e => F53_j1 R (e 0) (e 1) (e 2) (e 3) (e 4))) = (F53_j26 R) := by kernel_rfl
def F53_j29 (R : ER) (k1 : V3) (x0 x10 x13 : Value) : WP :=
  drewV (
  pv (bin .add x13 (.int .i64 1)) fun v73 =>
  pv (bin .add x13 (.int .i64 1)) fun v74 =>
  pv (ixS 2 x0 v74) fun v75 =>
  ldN 2 v75 fun v76 =>
  pv (ixS 2 x0 x13) fun v77 =>
  ldN 2 v77 fun v78 =>
  pv (ixS 2 x0 x13) fun v79 =>
  mem fun w81 => stN 2 v79 v76 fun v80 =>
  pv (ixS 2 x0 v73) fun v82 =>
  mem fun w84 => stN 2 v82 v78 fun v83 =>
  pv (bin .add x13 (.int .i64 1)) fun v85 =>
  k1 x0 x10 v85)
theorem F53_j29_ok (R : ER) (k1 : V3) (e : Env) : den Pg R (cd Try.f53 [0,1,0,1,1,1,0,1,0,0,1]) e (setN (inB 2 (setN (setN (kont Pg R Try.f53) (fun e => F53_j1 R (e 0) (e 1) (e 2) (e 3) (e 4))) (fun e => F53_j26 R))) (fun e => k1 (e 0) (e 10) (e 13))) = (F53_j29 R k1 (e 0) (e 10) (e 13)) := by kernel_rfl
def F53_b4 (R : ER) (k1 : V3) (x0 x10 x13 : Value) : WP :=
  pv (bin .sub x10 (.int .i64 1)) fun v86 =>
  pv (bin .lss x13 v86) fun v87 =>
  cnd v87 (
   F53_j29 R k1 x0 x10 x13) (
   F53_j26 R)
theorem F53_b4_ok (R : ER) (k1 : V3) (e : Env) : den Pg R (cd Try.f53 [0,1,0,1,1,1,0,1,0,0]) e (setN (inB 2 (setN (setN (kont Pg R Try.f53) (fun e => F53_j1 R (e 0) (e 1) (e 2) (e 3) (e 4))) (fun e => F53_j26 R))) (fun e => k1 (e 0) (e 10) (e 13))) = (F53_b4 R k1 (e 0) (e 10) (e 13)) := (den_join Pg R 0 (cd Try.f53 [0,1,0,1,1,1,0,1,0,0]) (cd Try.f53 [0,1,0,1,1,1,0,1,0,0,1]) e (setN (inB 2 (setN (setN (kont Pg R Try.f53) (fun e => F53_j1 R (e 0) (e 1) (e 2) (e 3) (e 4))) (fun e => F53_j26 R))) (fun e => k1 (e 0) (e 10) (e 13))) (fun e => F53_j29 R k1 (e 0) (e 10) (e 13)) _ (by kernel_rfl) (fun e => F53_j29_ok R k1 e) (by kernel_rfl))
noncomputable def F53_l4 (R : ER) (n : Nat) : V3 := Nat.rec (motive := fun _ => V3) (fun _ _ _ => fun _ => False) (fun _ ih => fun x0 x10 x13 => F53_b4 R ih x0 x10 x13) n
theorem F53_l4_succ (R : ER) (n : Nat) (x0 x10 x13 : Value) : F53_l4 R (n + 1) x0 x10 x13 = F53_b4 R (F53_l4 R n) x0 x10 x13 := rfl
theorem F53_l4_ok (R : ER) : ∀ (n : Nat) (e : Env), iterL (den Pg R (cd Try.f53 [0,1,0,1,1,1,0,1,0,0])) n e (inB 2 (setN (setN (kont Pg R Try.f53) (fun e => F53_j1 R (e 0) (e 1) (e 2) (e 3) (e 4))) (fun e => F53_j26 R))) = F53_l4 R n (e 0) (e 10) (e 13) :=
  iterL_join (den Pg R (cd Try.f53 [0,1,0,1,1,1,0,1,0,0])) (inB 2 (setN (setN (kont Pg R Try.f53) (fun e => F53_j1 R (e 0) (e 1) (e 2) (e 3) (e 4))) (fun e => F53_j26 R))) (fun n e => F53_l4 R n (e 0) (e 10) (e 13)) (fun _ => rfl) (fun n e => (F53_b4_ok R (F53_l4 R n) e).trans (F53_l4_succ R n (e 0) (e 10) (e 13)).symm)
def F53_j28 (R : ER) (x0 x10 x13 : Value) : WP :=
  exN fun n => F53_l4 R n x0 x10 x13
theorem F53_j28_ok (R : ER) (e : Env) : den Pg R (cd Try.f53 [0,1,0,1,1,1,0,1]) e (setN (setN (kont Pg R Try.f53) (fun e => F53_j1 R (e 0) (e 1) (e 2) (e 3) (e 4))) (fun e => F53_j26 R)) = (F53_j28 R (e 0) (e 10) (e 13)) := (den_block Pg R (cd Try.f53 [0,1,0,1,1,1,0,1]) 2 (cd Try.f53 [0,1,0,1,1,1,0,1,0]) e (setN (setN (kont Pg R Try.f53) (fun e => F53_j1 R (e 0) (e 1) (e 2) (e 3) (e 4))) (fun e => F53_j26 R)) _ (by kernel_rfl) (den_loop Pg R (cd Try.f53 [0,1,0,1,1,1,0,1,0]) (cd Try.f53 [0,1,0,1,1,1,0,1,0,0]) e (inB 2 (setN (setN (kont Pg R Try.f53) (fun e => F53_j1 R (e 0) (e 1) (e 2) (e 3) (e 4))) (fun e => F53_j26 R))) (fun n e => F53_l4 R n (e 0) (e 10) (e 13)) _ (by kernel_rfl) (F53_l4_ok R) (by kernel_rfl)))
def F53_j27 (R : ER) (x0 x1 x10 : Value) : WP :=
  F53_j28 R x0 x10 x1
theorem F53_j27_ok (R : ER) (e : Env) : den Pg R (cd Try.f53 [0,1,0,1,1,1,0]) e (setN (setN (kont Pg R Try.f53) (fun e => F53_j1 R (e 0) (e 1) (e 2) (e 3) (e 4))) (fun e => F53_j26 R)) = (F53_j27 R (e 0) (e 1) (e 10)) := (den_join Pg R 0 (cd Try.f53 [0,1,0,1,1,1,0]) (cd Try.f53 [0,1,0,1,1,1,0,1]) e (setN (setN (kont Pg R Try.f53) (fun e => F53_j1 R (e 0) (e 1) (e 2) (e 3) (e 4))) (fun e => F53_j26 R)) (fun e => F53_j28 R (e 0) (e 10) (e 13)) _ (by kernel_rfl) (fun e => F53_j28_ok R e) (by kernel_rfl))
def F53_j25 (R : ER) (x0 x1 x10 : Value) : WP :=
  F53_j27 R x0 x1 x10
theorem F53_j25_ok (R : ER) (e : Env) : den Pg R (cd Try.f53 [0,1,0,1,1,1]) e (setN (kont Pg R Try.f53) (fun e => F53_j1 R (e 0) (e 1) (e 2) (e 3) (e 4))) = (F53_j25 R (e 0) (e 1) (e 10)) := (den_join Pg R 0 (cd Try.f53 [0,1,0,1,1,1]) (cd Try.f53 [0,1,0,1,1,1,1]) e (setN (kont Pg R Try.f53) (fun e => F53_j1 R (e 0) (e 1) (e 2) (e 3) (e 4))) (fun e => F53_j26 R) _ (by kernel_rfl) (fun e => F53_j26_ok R e) (den_conv Pg R (pre 0 (cd Try.f53 [0,1,0,1,1,1])) (cd Try.f53 [0,1,0,1,1,1,0]) e (setN (setN (kont Pg R Try.f53) (fun e => F53_j1 R (e 0) (e 1) (e 2) (e 3) (e 4))) (fun e => F53_j26 R)) _ (by kernel_rfl) (F53_j27_ok R e)))
def F53_j31 (R : ER) (k1 : V5) (x0 x1 x4 x10 x11 : Value) : WP :=
  pv (bin .add x10 x11) fun v88 =>
  pv (cvI .u64 v88) fun v89 =>
  pv (bin .shr v89 (.int .u64 1)) fun v90 =>
  pv (cvI .i64 v90) fun v91 =>
  drewV (
  pv (ixS 2 x0 v91) fun v92 =>
  ldN 2 v92 fun v93 =>
  pv (ixS 2 x0 x1) fun v94 =>
  ldN 2 v94 fun v95 =>
  mem fun w97 => calD Pg noR x4 ⟨[v93, v95]⟩ fun v96 =>
  pv (bin .lss v96 (.int .i64 0)) fun v98 =>
  cnd v98 (
   pv (bin .add v91 (.int .i64 1)) fun v99 =>
   k1 x0 x1 x4 v99 x11) (
   k1 x0 x1 x4 x10 v91))
theorem F53_j31_ok (R : ER) (k1 : V5) (e : Env) : den Pg R (cd Try.f53 [0,1,0,1,1,0,0,0,1]) e (setN (inB 0 (setN (setN (kont Pg R Try.f53) (fun e => F53_j1 R (e 0) (e 1) (e 2) (e 3) (e 4))) (fun e => F53_j25 R (e 0) (e 1) (e 10)))) (fun e => k1 (e 0) (e 1) (e 4) (e 10) (e 11))) = (F53_j31 R k1 (e 0) (e 1) (e 4) (e 10) (e 11)) := (den_block Pg R (cd Try.f53 [0,1,0,1,1,0,0,0,1]) 1 (cd Try.f53 [0,1,0,1,1,0,0,0,1,0]) e (setN (inB 0 (setN (setN (kont Pg R Try.f53) (fun e => F53_j1 R (e 0) (e 1) (e 2) (e 3) (e 4))) (fun e => F53_j25 R (e 0) (e 1) (e 10)))) (fun e => k1 (e 0) (e 1) (e 4) (e 10) (e 11))) _ (by kernel_rfl) (by kernel_rfl))
def F53_b5 (R : ER) (k1 : V5) (x0 x1 x4 x10 x11 : Value) : WP :=
  pv (bin .lss x10 x11) fun v100 =>
  cnd v100 (
   F53_j31 R k1 x0 x1 x4 x10 x11) (
   F53_j25 R x0 x1 x10)
theorem F53_b5_ok (R : ER) (k1 : V5) (e : Env) : den Pg R (cd Try.f53 [0,1,0,1,1,0,0,0]) e (setN (inB 0 (setN (setN (kont Pg R Try.f53) (fun e => F53_j1 R (e 0) (e 1) (e 2) (e 3) (e 4))) (fun e => F53_j25 R (e 0) (e 1) (e 10)))) (fun e => k1 (e 0) (e 1) (e 4) (e 10) (e 11))) = (F53_b5 R k1 (e 0) (e 1) (e 4) (e 10) (e 11)) := (den_join Pg R 0 (cd Try.f53 [0,1,0,1,1,0,0,0]) (cd Try.f53 [0,1,0,1,1,0,0,0,1]) e (setN (inB 0 (setN (setN (kont Pg R Try.f53) (fun e => F53_j1 R (e 0) (e 1) (e 2) (e 3) (e 4))) (fun e => F53_j25 R (e 0) (e 1) (e 10)))) (fun e => k1 (e 0) (e 1) (e 4) (e 10) (e 11))) (fun e => F53_j31 R k1 (e 0) (e 1) (e 4) (e 10) (e 11)) _ (by kernel_rfl) (fun e => F53_j31_ok R k1 e) (by kernel_rfl))
noncomputable def F53_l5 (R : ER) (n : Nat) : V5 := Nat.rec (motive := fun _ => V5) (fun _ _ _ _ _ => fun _ => False) (fun _ ih => fun x0 x1 x4 x10 x11 => F53_b5 R ih x0 x1 x4 x10 x11) n
theorem F53_l5_succ (R : ER) (n : Nat) (x0 x1 x4 x10 x11 : Value) : F53_l5 R (n + 1) x0 x1 x4 x10 x11 = F53_b5 R (F53_l5 R n) x0 x1 x4 x10 x11 := rfl
theorem F53_l5_ok (R : ER) : ∀ (n : Nat) (e : Env), iterL (den Pg R (cd Try.f53 [0,1,0,1,1,0,0,0])) n e (inB 0 (setN (setN (kont Pg R Try.f53) (fun e => F53_j1 R (e 0) (e 1) (e 2) (e 3) (e 4))) (fun e => F53_j25 R (e 0) (e 1) (e 10)))) = F53_l5 R n (e 0) (e 1) (e 4) (e 10) (e 11) :=
  iterL_join (den Pg R (cd Try.f53 [0,1,0,1,1,0,0,0])) (inB 0 (setN (setN (kont Pg R Try.f53) (fun e => F53_j1 R (e 0) (e 1) (e 2) (e 3) (e 4))) (fun e => F53_j25 R (e 0) (e 1) (e 10)))) (fun n e => F53_l5 R n (e 0) (e 1) (e 4) (e 10) (e 11)) (fun _ => rfl) (fun n e => (F53_b5_ok R (F53_l5 R n) e).trans (F53_l5_succ R n (e 0) (e 1) (e 4) (e 10) (e 11)).symm)
def F53_j30 (R : ER) (x0 x1 x4 x10 x11 : Value) : WP :=
  exN fun n => F53_l5 R n x0 x1 x4 x10 x11
theorem F53_j30_ok (R : ER) (e : Env) : den Pg R (cd Try.f53 [0,1,0,1,1,0]) e (setN (setN (kont Pg R Try.f53) (fun e => F53_j1 R (e 0) (e 1) (e 2) (e 3) (e 4))) (fun e => F53_j25 R (e 0) (e 1) (e 10))) = (F53_j30 R (e 0) (e 1) (e 4) (e 10) (e 11)) := (den_block Pg R (cd Try.f53 [0,1,0,1,1,0]) 0 (cd Try.f53 [0,1,0,1,1,0,0]) e (setN (setN (kont Pg R Try.f53) (fun e => F53_j1 R (e 0) (e 1) (e 2) (e 3) (e 4))) (fun e => F53_j25 R (e 0) (e 1) (e 10))) _ (by kernel_rfl) (den_loop Pg R (cd Try.f53 [0,1,0,1,1,0,0]) (cd Try.f53 [0,1,0,1,1,0,0,0]) e (inB 0 (setN (setN (kont Pg R Try.f53) (fun e => F53_j1 R (e 0) (e 1) (e 2) (e 3) (e 4))) (fun e => F53_j25 R (e 0) (e 1) (e 10)))) (fun n e => F53_l5 R n (e 0) (e 1) (e 4) (e 10) (e 11)) _ (by kernel_rfl) (F53_l5_ok R) (by kernel_rfl)))
def F53_j24 (R : ER) (x0 x1 x2 x3 x4 : Value) : WP :=
  F53_j30 R x0 x1 x4 x2 x3
theorem F53_j24_ok (R : ER) (e : Env) : den Pg R (cd Try.f53 [0,1,0]) e (setN (kont Pg R Try.f53) (fun e => F53_j1 R (e 0) (e 1) (e 2) (e 3) (e 4))) = (F53_j24 R (e 0) (e 1) (e 2) (e 3) (e 4)) := (den_join Pg R 2 (cd Try.f53 [0,1,0]) (cd Try.f53 [0,1,0,1,1,1]) e (setN (kont Pg R Try.f53) (fun e => F53_j1 R (e 0) (e 1) (e 2) (e 3) (e 4))) (fun e => F53_j25 R (e 0) (e 1) (e 10)) _ (by kernel_rfl) (fun e => F53_j25_ok R e) (den_join Pg R 1 (pre 2 (cd Try.f53 [0,1,0])) (cd Try.f53 [0,1,0,1,1,0]) e (setN (setN (kont Pg R Try.f53) (fun e => F53_j1 R (e 0) (e 1) (e 2) (e 3) (e 4))) (fun e => F53_j25 R (e 0) (e 1) (e 10))) (fun e => F53_j30 R (e 0) (e 1) (e 4) (e 10) (e 11)) _ (by kernel_rfl) (fun e => F53_j30_ok R e) (by kernel_rfl)))
def F53_j23 (R : ER) (x0 x1 x2 x3 x4 x28 : Value) : WP :=
  cnd x28 (F53_j24 R x0 x1 x2 x3 x4) (F53_j1 R x0 x1 x2 x3 x4)
theorem F53_j23_ok (R : ER) (e : Env) : den Pg R (cd Try.f53 [0,1]) e (setN (kont Pg R Try.f53) (fun e => F53_j1 R (e 0) (e 1) (e 2) (e 3) (e 4))) = (F53_j23 R (e 0) (e 1) (e 2) (e 3) (e 4) (e 28)) := (den_if Pg R (cd Try.f53 [0,1]) (cd Try.f53 [0,1,0]) (cd Try.f53 [0,1,1]) e (setN (kont Pg R Try.f53) (fun e => F53_j1 R (e 0) (e 1) (e 2) (e 3) (e 4))) (F53_j24 R (e 0) (e 1) (e 2) (e 3) (e 4)) _ _ (by kernel_rfl) (F53_j24_ok R e) rfl (by kernel_rfl))
def F53_j22 (R : ER) (x0 x1 x2 x3 x4 : Value) : WP :=
  pv (bin .sub x2 x1) fun v101 =>
  pv (bin .eql v101 (.int .i64 1)) fun v102 =>
  F53_j23 R x0 x1 x2 x3 x4 v102
theorem F53_j22_ok (R : ER) (e : Env) : den Pg R (cd Try.f53 [0]) e (setN (kont Pg R Try.f53) (fun e => F53_j1 R (e 0) (e 1) (e 2) (e 3) (e 4))) = (F53_j22 R (e 0) (e 1) (e 2) (e 3) (e 4)) := (den_join Pg R 0 (cd Try.f53 [0]) (cd Try.f53 [0,1]) e (setN (kont Pg R Try.f53) (fun e => F53_j1 R (e 0) (e 1) (e 2) (e 3) (e 4))) (fun e => F53_j23 R (e 0) (e 1) (e 2) (e 3) (e 4) (e 28)) _ (by kernel_rfl) (fun e => F53_j23_ok R e) (by kernel_rfl))
def F53 (R : ER) (x0 x1 x2 x3 x4 : Value) : WP :=
  F53_j22 R x0 x1 x2 x3 x4
theorem F53_den (R : ER) (x0 x1 x2 x3 x4 : Value) : den Pg R (cd Try.f53 []) (argsEnv [x0, x1, x2, x3, x4]) (kont Pg R Try.f53) = F53 R x0 x1 x2 x3 x4 :=
  have h : ∀ e, den Pg R (cd Try.f53 []) e (kont Pg R Try.f53) = F53 R (e 0) (e 1) (e 2) (e 3) (e 4) := fun e => (den_join Pg R 0 (cd Try.f53 []) (cd Try.f53 [1]) e (kont Pg R Try.f53) (fun e => F53_j1 R (e 0) (e 1) (e 2) (e 3) (e 4)) _ (by kernel_rfl) (fun e => F53_j1_ok R e) (den_conv Pg R (pre 0 (cd Try.f53 [])) (cd Try.f53 [0]) e (setN (kont Pg R Try.f53) (fun e => F53_j1 R (e 0) (e 1) (e 2) (e 3) (e 4))) _ (by kernel_rfl) (F53_j22_ok R e)))
  h _
theorem F53_calls {R : ER} {x0 x1 x2 x3 x4 : Value} {w : World} (h : F53 R x0 x1 x2 x3 x4 w) : Calls Pg 53 ⟨[x0, x1, x2, x3, x4]⟩ w R :=
  calls_of_den Try.func53 (by kernel_rfl) (by kernel_rfl) (F53_den R x0 x1 x2 x3 x4) h
/-! ### 54: slices_DeleteFunc -/
def F54_j2 (R : ER) (x0 x5 : Value) : WP :=
  pv (slS 4 x0 (some x5) none) fun v1 =>
  blt Pg R .clear ⟨[74]⟩ 0 ⟨[false]⟩ ⟨[v1]⟩ fun _ =>
  pv (slS 4 x0 none (some x5)) fun v2 =>
  R (.returned v2)
theorem F54_j2_ok (R : ER) (e : Env) : den Pg R (cd Try.f54 [1,1,1,1]) e (kont Pg R Try.f54) = (F54_j2 R (e 0) (e 5)) := by kernel_rfl
def F54_j6 (R : ER) (k1 : V4) (x0 x1 x5 x6 : Value) : WP :=
  pv (bin .add x6 (.int .i64 1)) fun v3 =>
  k1 x0 x1 x5 v3
theorem F54_j6_ok (R : ER) (k1 : V4) (e : Env) : den Pg R (cd Try.f54 [1,1,1,0,1,0,0,1,1]) e (setN (inB 0 (setN (kont Pg R Try.f54) (fun e => F54_j2 R (e 0) (e 5)))) (fun e => k1 (e 0) (e 1) (e 5) (e 6))) = (F54_j6 R k1 (e 0) (e 1) (e 5) (e 6)) := by kernel_rfl
def F54_j7 (R : ER) (k1 : V4) (x0 x1 x5 x6 : Value) : WP :=
  pv (ixS 4 x0 x6) fun v4 =>
  ldN 4 v4 fun v5 =>
  al Pg 88 fun v6 =>
  stN 4 v6 v5 fun _ =>
  ldN 4 v6 fun v7 =>
  calD Pg R x1 ⟨[v7]⟩ fun v8 =>
  pv (unO .not v8) fun v9 =>
  cnd v9 (
   ldN 4 v6 fun v10 =>
   pv (ixS 4 x0 x5) fun v11 =>
   stN 4 v11 v10 fun _ =>
   pv (bin .add x5 (.int .i64 1)) fun v12 =>
   F54_j6 R k1 x0 x1 v12 x6) (
   F54_j6 R k1 x0 x1 x5 x6)
theorem F54_j7_ok (R : ER) (k1 : V4) (e : Env) : den Pg R (cd Try.f54 [1,1,1,0,1,0,0,1,0]) e (setN (setN (inB 0 (setN (kont Pg R Try.f54) (fun e => F54_j2 R (e 0) (e 5)))) (fun e => k1 (e 0) (e 1) (e 5) (e 6))) (fun e => F54_j6 R k1 (e 0) (e 1) (e 5) (e 6))) = (F54_j7 R k1 (e 0) (e 1) (e 5) (e 6)) := (den_block Pg R (cd Try.f54 [1,1,1,0,1,0,0,1,0]) 1 (cd Try.f54 [1,1,1,0,1,0,0,1,0,0]) e (setN (setN (inB 0 (setN (kont Pg R Try.f54) (fun e => F54_j2 R (e 0) (e 5)))) (fun e => k1 (e 0) (e 1) (e 5) (e 6))) (fun e => F54_j6 R k1 (e 0) (e 1) (e 5) (e 6))) _ (by kernel_rfl) (by kernel_rfl))
def F54_j5 (R : ER) (k1 : V4) (x0 x1 x5 x6 : Value) : WP :=
  F54_j7 R k1 x0 x1 x5 x6
theorem F54_j5_ok (R : ER) (k1 : V4) (e : Env) : den Pg R (cd Try.f54 [1,1,1,0,1,0,0,1]) e (setN (inB 0 (setN (kont Pg R Try.f54) (fun e => F54_j2 R (e 0) (e 5)))) (fun e => k1 (e 0) (e 1) (e 5) (e 6))) = (F54_j5 R k1 (e 0) (e 1) (e 5) (e 6)) := (den_join Pg R 0 (cd Try.f54 [1,1,1,0,1,0,0,1]) (cd Try.f54 [1,1,1,0,1,0,0,1,1]) e (setN (inB 0 (setN (kont Pg R Try.f54) (fun e => F54_j2 R (e 0) (e 5)))) (fun e => k1 (e 0) (e 1) (e 5) (e 6))) (fun e => F54_j6 R k1 (e 0) (e 1) (e 5) (e 6)) _ (by kernel_rfl) (fun e => F54_j6_ok R k1 e) (den_conv Pg R (pre 0 (cd Try.f54 [1,1,1,0,1,0,0,1])) (cd Try.f54 [1,1,1,0,1,0,0,1,0]) e (setN (setN (inB 0 (setN (kont Pg R Try.f54) (fun e => F54_j2 R (e 0) (e 5)))) (fun e => k1 (e 0) (e 1) (e 5) (e 6))) (fun e => F54_j6 R k1 (e 0) (e 1) (e 5) (e 6))) _ (by kernel_rfl) (F54_j7_ok R k1 e)))
def F54_b1 (R : ER) (k1 : V4) (x0 x1 x5 x6 : Value) : WP :=
  pv (lenS x0) fun v13 =>
  pv (bin .lss x6 v13) fun v14 =>
  cnd v14 (
   F54_j5 R k1 x0 x1 x5 x6) (
   F54_j2 R x0 x5)
theorem F54_b1_ok (R : ER) (k1 : V4) (e : Env) : den Pg R (cd Try.f54 [1,1,1,0,1,0,0]) e (setN (inB 0 (setN (kont Pg R Try.f54) (fun e => F54_j2 R (e 0) (e 5)))) (fun e => k1 (e 0) (e 1) (e 5) (e 6))) = (F54_b1 R k1 (e 0) (e 1) (e 5) (e 6)) := (den_join Pg R 0 (cd Try.f54 [1,1,1,0,1,0,0]) (cd Try.f54 [1,1,1,0,1,0,0,1]) e (setN (inB 0 (setN (kont Pg R Try.f54) (fun e => F54_j2 R (e 0) (e 5)))) (fun e => k1 (e 0) (e 1) (e 5) (e 6))) (fun e => F54_j5 R k1 (e 0) (e 1) (e 5) (e 6)) _ (by kernel_rfl) (fun e => F54_j5_ok R k1 e) (by kernel_rfl))
noncomputable def F54_l1 (R : ER) (n : Nat) : V4 := Nat.rec (motive := fun _ => V4) (fun _ _ _ _ => fun _ => False) (fun _ ih => fun x0 x1 x5 x6 => F54_b1 R ih x0 x1 x5 x6) n
theorem F54_l1_succ (R : ER) (n : Nat) (x0 x1 x5 x6 : Value) : F54_l1 R (n + 1) x0 x1 x5 x6 = F54_b1 R (F54_l1 R n) x0 x1 x5 x6 := rfl
theorem F54_l1_ok (R : ER) : ∀ (n : Nat) (e : Env), iterL (den Pg R (cd Try.f54 [1,1,1,0,1,0,0])) n e (inB 0 (setN (kont Pg R Try.f54) (fun e => F54_j2 R (e 0) (e 5)))) = F54_l1 R n (e 0) (e 1) (e 5) (e 6) :=
  iterL_join (den Pg R (cd Try.f54 [1,1,1,0,1,0,0])) (inB 0 (setN (kont Pg R Try.f54) (fun e => F54_j2 R (e 0) (e 5)))) (fun n e => F54_l1 R n (e 0) (e 1) (e 5) (e 6)) (fun _ => rfl) (fun n e => (F54_b1_ok R (F54_l1 R n) e).trans (F54_l1_succ R n (e 0) (e 1) (e 5) (e 6)).symm)
def F54_j4 (R : ER) (x0 x1 x5 x6 : Value) : WP :=
  exN fun n => F54_l1 R n x0 x1 x5 x6
theorem F54_j4_ok (R : ER) (e : Env) : den Pg R (cd Try.f54 [1,1,1,0,1]) e (setN (kont Pg R Try.f54) (fun e => F54_j2 R (e 0) (e 5))) = (F54_j4 R (e 0) (e 1) (e 5) (e 6)) := (den_block Pg R (cd Try.f54 [1,1,1,0,1]) 0 (cd Try.f54 [1,1,1,0,1,0]) e (setN (kont Pg R Try.f54) (fun e => F54_j2 R (e 0) (e 5))) _ (by kernel_rfl) (den_loop Pg R (cd Try.f54 [1,1,1,0,1,0]) (cd Try.f54 [1,1,1,0,1,0,0]) e (inB 0 (setN (kont Pg R Try.f54) (fun e => F54_j2 R (e 0) (e 5)))) (fun n e => F54_l1 R n (e 0) (e 1) (e 5) (e 6)) _ (by kernel_rfl) (F54_l1_ok R) (by kernel_rfl)))
def F54_j3 (R : ER) (x0 x1 x5 : Value) : WP :=
  pv (bin .add x5 (.int .i64 1)) fun v15 =>
  F54_j4 R x0 x1 x5 v15
theorem F54_j3_ok (R : ER) (e : Env) : den Pg R (cd Try.f54 [1,1,1,0]) e (setN (kont Pg R Try.f54) (fun e => F54_j2 R (e 0) (e 5))) = (F54_j3 R (e 0) (e 1) (e 5)) := (den_join Pg R 0 (cd Try.f54 [1,1,1,0]) (cd Try.f54 [1,1,1,0,1]) e (setN (kont Pg R Try.f54) (fun e => F54_j2 R (e 0) (e 5))) (fun e => F54_j4 R (e 0) (e 1) (e 5) (e 6)) _ (by kernel_rfl) (fun e => F54_j4_ok R e) (by kernel_rfl))
def F54_j1 (R : ER) (x0 x1 x5 : Value) : WP :=
  F54_j3 R x0 x1 x5
theorem F54_j1_ok (R : ER) (e : Env) : den Pg R (cd Try.f54 [1,1,1]) e (kont Pg R Try.f54) = (F54_j1 R (e 0) (e 1) (e 5)) := (den_join Pg R 0 (cd Try.f54 [1,1,1]) (cd Try.f54 [1,1,1,1]) e (kont Pg R Try.f54) (fun e => F54_j2 R (e 0) (e 5)) _ (by kernel_rfl) (fun e => F54_j2_ok R e) (den_conv Pg R (pre 0 (cd Try.f54 [1,1,1])) (cd Try.f54 [1,1,1,0]) e (setN (kont Pg R Try.f54) (fun e => F54_j2 R (e 0) (e 5))) _ (by kernel_rfl) (F54_j3_ok R e)))
def F54 (R : ER) (x0 x1 : Value) : WP :=
  cal Pg R 70 ⟨[x0, x1]⟩ fun v16 =>
  pv (bin .eql v16 (.int .i64 (-1))) fun v17 =>
  cnd v17 (
   R (.returned x0)) (
   F54_j1 R x0 x1 v16)
theorem F54_den (R : ER) (x0 x1 : Value) : den Pg R (cd Try.f54 []) (argsEnv [x0, x1]) (kont Pg R Try.f54) = F54 R x0 x1 :=
  have h : ∀ e, den Pg R (cd Try.f54 []) e (kont Pg R Try.f54) = F54 R (e 0) (e 1) := fun e => (den_join Pg R 2 (cd Try.f54 []) (cd Try.f54 [1,1,1]) e (kont Pg R Try.f54) (fun e => F54_j1 R (e 0) (e 1) (e 5)) _ (by kernel_rfl) (fun e => F54_j1_ok R e) (by kernel_rfl))
  h _
theorem F54_calls {R : ER} {x0 x1 : Value} {w : World} (h : F54 R x0 x1 w) : Calls Pg 54 ⟨[x0, x1]⟩ w R :=
  calls_of_den Try.func54 (by kernel_rfl) (by kernel_rfl) (F54_den R x0 x1) h
/-! ### 55: mqueue_waiting_55 -/
def F55_j1 (R : ER) (x5 : Value) : WP :=
  R (.returned x5)
theorem F55_j1_ok (R : ER) (e : Env) : den Pg R (cd Try.f55 [1,1,1]) e (kont Pg R Try.f55) = (F55_j1 R (e 5)) := by kernel_rfl
def F55 (R : ER) (x0 x1 x2 : Value) : WP :=
  bx 88 x0 fun v1 =>
  pv (faO 1 v1) fun v2 =>
  ld1 v2 fun v3 =>
  pv (bin .neq v3 (.int .i64 0)) fun v4 =>
  gd v4 true (pv (faO 1 v1)) fun v5 =>
  gd v4 true (ld1 v5) fun v6 =>
  gd v4 true (ld1 x1) fun v7 =>
  gd v4 true (pv (bin .leq v6 v7)) fun v8 =>
  pv (pickO v4 v8 (.bool false)) fun v9 =>
  cnd v9 (
   ld1 x2 fun v10 =>
   ldN 4 v1 fun v11 =>
   valV Pg R (Instr.buildSlice 74 1 ⟨[(0, v11)]⟩) fun v12 =>
   blt Pg R .append ⟨[74,74]⟩ 74 ⟨[false, false]⟩ ⟨[v10, v12]⟩ fun v13 =>
   st1 x2 v13 fun _ =>
   F55_j1 R v9) (
   F55_j1 R v9)
theorem F55_den (R : ER) (x0 x1 x2 : Value) : den Pg R (cd Try.f55 []) (argsEnv [x0, x1, x2]) (kont Pg R Try.f55) = F55 R x0 x1 x2 :=
  have h : ∀ e, den Pg R (cd Try.f55 []) e (kont Pg R Try.f55) = F55 R (e 0) (e 1) (e 2) := fun e => (den_join Pg R 2 (cd Try.f55 []) (cd Try.f55 [1,1,1]) e (kont Pg R Try.f55) (fun e => F55_j1 R (e 5)) _ (by kernel_rfl) (fun e => F55_j1_ok R e) (by kernel_rfl))
  h _
theorem F55_calls {R : ER} {x0 x1 x2 : Value} {w : World} (h : F55 R x0 x1 x2 w) : Calls Pg 55 ⟨[x0, x1, x2]⟩ w R :=
  calls_of_den Try.func55 (by kernel_rfl) (by kernel_rfl) (F55_den R x0 x1 x2) h
/-! ### 56: slices_DeleteFunc_56 -/
def F56_j2 (R : ER) (x0 x5 : Value) : WP :=
  pv (slS 2 x0 (some x5) none) fun v1 =>
  blt Pg R .clear ⟨[71]⟩ 0 ⟨[false]⟩ ⟨[v1]⟩ fun _ =>
  pv (slS 2 x0 none (some x5)) fun v2 =>
  R (.returned v2)
theorem F56_j2_ok (R : ER) (e : Env) : den Pg R (cd Try.f56 [1,1,1,1]) e (kont Pg R Try.f56) = (F56_j2 R (e 0) (e 5)) := by kernel_rfl
def F56_j6 (R : ER) (k1 : V4) (x0 x1 x5 x6 : Value) : WP :=
  pv (bin .add x6 (.int .i64 1)) fun v3 =>
  k1 x0 x1 x5 v3
theorem F56_j6_ok (R : ER) (k1 : V4) (e : Env) : den Pg R (cd Try.f56 [1,1,1,0,1,0,0,1,1]) e (setN (inB 0 (setN (kont Pg R Try.f56) (fun e => F56_j2 R (e 0) (e 5)))) (fun e => k1 (e 0) (e 1) (e 5) (e 6))) = (F56_j6 R k1 (e 0) (e 1) (e 5) (e 6)) := by kernel_rfl
def F56_j7 (R : ER) (k1 : V4) (x0 x1 x5 x6 : Value) : WP :=
  pv (ixS 2 x0 x6) fun v4 =>
  ldN 2 v4 fun v5 =>
  al Pg 91 fun v6 =>
  stN 2 v6 v5 fun _ =>
  ldN 2 v6 fun v7 =>
  calD Pg R x1 ⟨[v7]⟩ fun v8 =>
  pv (unO .not v8) fun v9 =>
  cnd v9 (
   ldN 2 v6 fun v10 =>
   pv (ixS 2 x0 x5) fun v11 =>
   stN 2 v11 v10 fun _ =>
   pv (bin .add x5 (.int .i64 1)) fun v12 =>
   F56_j6 R k1 x0 x1 v12 x6) (
   F56_j6 R k1 x0 x1 x5 x6)
theorem F56_j7_ok (R : ER) (k1 : V4) (e : Env) : den Pg R (cd Try.f56 [1,1,1,0,1,0,0,1,0]) e (setN (setN (inB 0 (setN (kont Pg R Try.f56) (fun e => F56_j2 R (e 0) (e 5)))) (fun e => k1 (e 0) (e 1) (e 5) (e 6))) (fun e => F56_j6 R k1 (e 0) (e 1) (e 5) (e 6))) = (F56_j7 R k1 (e 0) (e 1) (e 5) (e 6)) := (den_block Pg R (cd Try.f56 [1,1,1,0,1,0,0,1,0]) 1 (cd Try.f56 [1,1,1,0,1,0,0,1,0,0]) e (setN (setN (inB 0 (setN (kont Pg R Try.f56) (fun e => F56_j2 R (e 0) (e 5)))) (fun e => k1 (e 0) (e 1) (e 5) (e 6))) (fun e => F56_j6 R k1 (e 0) (e 1) (e 5) (e 6))) _ (by kernel_rfl) (by kernel_rfl))
def F56_j5 (R : ER) (k1 : V4) (x0 x1 x5 x6 : Value) : WP :=
  F56_j7 R k1 x0 x1 x5 x6
theorem F56_j5_ok (R : ER) (k1 : V4) (e : Env) : den Pg R (cd Try.f56 [1,1,1,0,1,0,0,1]) e (setN (inB 0 (setN (kont Pg R Try.f56) (fun e => F56_j2 R (e 0) (e 5)))) (fun e => k1 (e 0) (e 1) (e 5) (e 6))) = (F56_j5 R k1 (e 0) (e 1) (e 5) (e 6)) := (den_join Pg R 0 (cd Try.f56 [1,1,1,0,1,0,0,1]) (cd Try.f56 [1,1,1,0,1,0,0,1,1]) e (setN (inB 0 (setN (kont Pg R Try.f56) (fun e => F56_j2 R (e 0) (e 5)))) (fun e => k1 (e 0) (e 1) (e 5) (e 6))) (fun e => F56_j6 R k1 (e 0) (e 1) (e 5) (e 6)) _ (by kernel_rfl) (fun e => F56_j6_ok R k1 e) (den_conv Pg R (pre 0 (cd Try.f56 [1,1,1,0,1,0,0,1])) (cd Try.f56 [1,1,1,0,1,0,0,1,0]) e (setN (setN (inB 0 (setN (kont Pg R Try.f56) (fun e => F56_j2 R (e 0) (e 5)))) (fun e => k1 (e 0) (e 1) (e 5) (e 6))) (fun e => F56_j6 R k1 (e 0) (e 1) (e 5) (e 6))) _ (by kernel_rfl) (F56_j7_ok R k1 e)))
def F56_b1 (R : ER) (k1 : V4) (x0 x1 x5 x6 : Value) : WP :=
  pv (lenS x0) fun v13 =>
  pv (bin .lss x6 v13) fun v14 =>
  cnd v14 (
   F56_j5 R k1 x0 x1 x5 x6) (
   F56_j2 R x0 x5)
theorem F56_b1_ok (R : ER) (k1 : V4) (e : Env) : den Pg R (cd Try.f56 [1,1,1,0,1,0,0]) e (setN (inB 0 (setN (kont Pg R Try.f56) (fun e => F56_j2 R (e 0) (e 5)))) (fun e => k1 (e 0) (e 1) (e 5) (e 6))) = (F56_b1 R k1 (e 0) (e 1) (e 5) (e 6)) := (den_join Pg R 0 (cd Try.f56 [1,1,1,0,1,0,0]) (cd Try.f56 [1,1,1,0,1,0,0,1]) e (setN (inB 0 (setN (kont Pg R Try.f56) (fun e => F56_j2 R (e 0) (e 5)))) (fun e => k1 (e 0) (e 1) (e 5) (e 6))) (fun e => F56_j5 R k1 (e 0) (e 1) (e 5) (e 6)) _ (by kernel_rfl) (fun e => F56_j5_ok R k1 e) (by kernel_rfl))
noncomputable def F56_l1 (R : ER) (n : Nat) : V4 := Nat.rec (motive := fun _ => V4) (fun _ _ _ _ => fun _ => False) (fun _ ih => fun x0 x1 x5 x6 => F56_b1 R ih x0 x1 x5 x6) n
theorem F56_l1_succ (R : ER) (n : Nat) (x0 x1 x5 x6 : Value) : F56_l1 R (n + 1) x0 x1 x5 x6 = F56_b1 R (F56_l1 R n) x0 x1 x5 x6 := rfl
theorem F56_l1_ok (R : ER) : ∀ (n : Nat) (e : Env), iterL (den Pg R (cd Try.f56 [1,1,1,0,1,0,0])) n e (inB 0 (setN (kont Pg R Try.f56) (fun e => F56_j2 R (e 0) (e 5)))) = F56_l1 R n (e 0) (e 1) (e 5) (e 6) :=
  iterL_join (den Pg R (cd Try.f56 [1,1,1,0,1,0,0])) (inB 0 (setN (kont Pg R Try.f56) (fun e => F56_j2 R (e 0) (e 5)))) (fun n e => F56_l1 R n (e 0) (e 1) (e 5) (e 6)) (fun _ => rfl) (fun n e => (F56_b1_ok R (F56_l1 R n) e).trans (F56_l1_succ R n (e 0) (e 1) (e 5) (e 6)).symm)
def F56_j4 (R : ER) (x0 x1 x5 x6 : Value) : WP :=
  exN fun n => F56_l1 R n x0 x1 x5 x6
theorem F56_j4_ok (R : ER) (e : Env) : den Pg R (cd Try.f56 [1,1,1,0,1]) e (setN (kont Pg R Try.f56) (fun e => F56_j2 R (e 0) (e 5))) = (F56_j4 R (e 0) (e 1) (e 5) (e 6)) := (den_block Pg R (cd Try.f56 [1,1,1,0,1]) 0 (cd Try.f56 [1,1,1,0,1,0]) e (setN (kont Pg R Try.f56) (fun e => F56_j2 R (e 0) (e 5))) _ (by kernel_rfl) (den_loop Pg R (cd Try.f56 [1,1,1,0,1,0]) (cd Try.f56 [1,1,1,0,1,0,0]) e (inB 0 (setN (kont Pg R Try.f56) (fun e => F56_j2 R (e 0) (e 5)))) (fun n e => F56_l1 R n (e 0) (e 1) (e 5) (e 6)) _ (by kernel_rfl) (F56_l1_ok R) (by kernel_rfl)))
def F56_j3 (R : ER) (x0 x1 x5 : Value) : WP :=
  pv (bin .add x5 (.int .i64 1)) fun v15 =>
  F56_j4 R x0 x1 x5 v15
theorem F56_j3_ok (R : ER) (e : Env) : den Pg R (cd Try.f56 [1,1,1,0]) e (setN (kont Pg R Try.f56) (fun e => F56_j2 R (e 0) (e 5))) = (F56_j3 R (e 0) (e 1) (e 5)) := (den_join Pg R 0 (cd Try.f56 [1,1,1,0]) (cd Try.f56 [1,1,1,0,1]) e (setN (kont Pg R Try.f56) (fun e => F56_j2 R (e 0) (e 5))) (fun e => F56_j4 R (e 0) (e 1) (e 5) (e 6)) _ (by kernel_rfl) (fun e => F56_j4_ok R e) (by kernel_rfl))
def F56_j1 (R : ER) (x0 x1 x5 : Value) : WP :=
  F56_j3 R x0 x1 x5
theorem F56_j1_ok (R : ER) (e : Env) : den Pg R (cd Try.f56 [1,1,1]) e (kont Pg R Try.f56) = (F56_j1 R (e 0) (e 1) (e 5)) := (den_join Pg R 0 (cd Try.f56 [1,1,1]) (cd Try.f56 [1,1,1,1]) e (kont Pg R Try.f56) (fun e => F56_j2 R (e 0) (e 5)) _ (by kernel_rfl) (fun e => F56_j2_ok R e) (den_conv Pg R (pre 0 (cd Try.f56 [1,1,1])) (cd Try.f56 [1,1,1,0]) e (setN (kont Pg R Try.f56) (fun e => F56_j2 R (e 0) (e 5))) _ (by kernel_rfl) (F56_j3_ok R e)))
def F56 (R : ER) (x0 x1 : Value) : WP :=
  cal Pg R 71 ⟨[x0, x1]⟩ fun v16 =>
  pv (bin .eql v16 (.int .i64 (-1))) fun v17 =>
  cnd v17 (
   R (.returned x0)) (
   F56_j1 R x0 x1 v16)
theorem F56_den (R : ER) (x0 x1 : Value) : den Pg R (cd Try.f56 []) (argsEnv [x0, x1]) (kont Pg R Try.f56) = F56 R x0 x1 :=
  have h : ∀ e, den Pg R (cd Try.f56 []) e (kont Pg R Try.f56) = F56 R (e 0) (e 1) := fun e => (den_join Pg R 2 (cd Try.f56 []) (cd Try.f56 [1,1,1]) e (kont Pg R Try.f56) (fun e => F56_j1 R (e 0) (e 1) (e 5)) _ (by kernel_rfl) (fun e => F56_j1_ok R e) (by kernel_rfl))
  h _
theorem F56_calls {R : ER} {x0 x1 : Value} {w : World} (h : F56 R x0 x1 w) : Calls Pg 56 ⟨[x0, x1]⟩ w R :=
  calls_of_den Try.func56 (by kernel_rfl) (by kernel_rfl) (F56_den R x0 x1) h
/-! ### 57: mqueue_waiting_57 -/
def F57_j1 (R : ER) (x5 : Value) : WP :=
  R (.returned x5)
theorem F57_j1_ok (R : ER) (e : Env) : den Pg R (cd Try.f57 [1,1,1]) e (kont Pg R Try.f57) = (F57_j1 R (e 5)) := by kernel_rfl
def F57 (R : ER) (x0 x1 x2 : Value) : WP :=
  bx 91 x0 fun v1 =>
  pv (faO 1 v1) fun v2 =>
  ld1 v2 fun v3 =>
  pv (bin .neq v3 (.int .i64 0)) fun v4 =>
  gd v4 true (pv (faO 1 v1)) fun v5 =>
  gd v4 true (ld1 v5) fun v6 =>
  gd v4 true (ld1 x1) fun v7 =>
  gd v4 true (pv (bin .leq v6 v7)) fun v8 =>
  pv (pickO v4 v8 (.bool false)) fun v9 =>
  cnd v9 (
   ld1 x2 fun v10 =>
   ldN 2 v1 fun v11 =>
   valV Pg R (Instr.buildSlice 71 1 ⟨[(0, v11)]⟩) fun v12 =>
   blt Pg R .append ⟨[71,71]⟩ 71 ⟨[false, false]⟩ ⟨[v10, v12]⟩ fun v13 =>
   st1 x2 v13 fun _ =>
   F57_j1 R v9) (
   F57_j1 R v9)
theorem F57_den (R : ER) (x0 x1 x2 : Value) : den Pg R (cd Try.f57 []) (argsEnv [x0, x1, x2]) (kont Pg R Try.f57) = F57 R x0 x1 x2 :=
  have h : ∀ e, den Pg R (cd Try.f57 []) e (kont Pg R Try.f57) = F57 R (e 0) (e 1) (e 2) := fun e => (den_join Pg R 2 (cd Try.f57 []) (cd Try.f57 [1,1,1]) e (kont Pg R Try.f57) (fun e => F57_j1 R (e 5)) _ (by kernel_rfl) (fun e => F57_j1_ok R e) (by kernel_rfl))
  h _
theorem F57_calls {R : ER} {x0 x1 x2 : Value} {w : World} (h : F57 R x0 x1 x2 w) : Calls Pg 57 ⟨[x0, x1, x2]⟩ w R :=
  calls_of_den Try.func57 (by kernel_rfl) (by kernel_rfl) (F57_den R x0 x1 x2) h
end Go.Proofs.Ythcekppbbanfeaa.Den
