/- Printed by a program of this session: what the functions mean, and that the model means just that. Conditions: none. -/
import Derived.Test.YtmkcjopacmadhaaGreatDenRange
set_option linter.unusedVariables false
set_option maxRecDepth 100000
namespace Go.Proofs.YtmkcjopacmadhaaGreat.Den
open Go
/-! ### 5: orpimentlaw11_ChannelsNil -/
def F5_j1 (R : ER) (x1 x3 x4 x5 : Value) : WP :=
  pv (faO 3 x1) fun v1 =>
  ld1 v1 fun v2 =>
  cal Pg R 16 ⟨[x3, v2]⟩ fun v3 =>
  pv (extO 0 v3) fun v4 =>
  pv (extO 1 v3) fun v5 =>
  pv (faO 1 x1) fun v6 =>
  ld1 v6 fun v7 =>
  cal Pg R 15 ⟨[x3, v7]⟩ fun v8 =>
  pv (extO 0 v8) fun v9 =>
  pv (extO 1 v8) fun v10 =>
  al Pg 32 fun v11 =>
  stN 10 v11 v9 fun _ =>
  pv (faO 1 x1) fun v12 =>
  ld1 v12 fun v13 =>
  cal Pg R 18 ⟨[x3, v13]⟩ fun v14 =>
  pv (extO 0 v14) fun v15 =>
  pv (extO 1 v14) fun v16 =>
  ldN 15 x4 fun v17 =>
  pv (bldO [.int .i64 0, .slice none 0 0, .int .i64 0, .int .i64 0, .int .i64 0, .int .i64 0, .int .i64 0, .int .i64 0, .int .i64 0, .slice none 0 0, .int .i64 0, .int .i64 0, .slice none 0 0, .bool false, .int .i64 0] [(14,1, x5)]) fun v18 =>
  cal Pg R 19 ⟨[v17, v18]⟩ fun v19 =>
  gd v19 true (pv (some v4)) fun v20 =>
  gd v19 true (pv (lenS v20)) fun v21 =>
  gd v19 true (pv (bin .eql v21 (.int .i64 0))) fun v22 =>
  pv (pickO v19 v22 (.bool false)) fun v23 =>
  gd v23 true (pv (some v5)) fun v24 =>
  gd v23 true (pv (lenS v24)) fun v25 =>
  gd v23 true (pv (bin .eql v25 (.int .i64 0))) fun v26 =>
  pv (pickO v23 v26 (.bool false)) fun v27 =>
  gd v27 true (pv (some v10)) fun v28 =>
  gd v27 true (pv (unO .not v28)) fun v29 =>
  pv (pickO v27 v29 (.bool false)) fun v30 =>
  gd v30 true (pv (some v16)) fun v31 =>
  gd v30 true (pv (unO .not v31)) fun v32 =>
  pv (pickO v30 v32 (.bool false)) fun v33 =>
  gd v33 true (pv (some x3)) fun v34 =>
  gd v33 true (cal Pg R 17 ⟨[v34]⟩) fun v35 =>
  gd v33 true (pv (lenS v35)) fun v36 =>
  gd v33 true (pv (bin .eql v36 (.int .i64 0))) fun v37 =>
  pv (pickO v33 v37 (.bool false)) fun v38 =>
  gd v38 true (cal Pg R 9 ⟨[]⟩) fun v39 =>
  pv (pickO v38 v39 (.bool false)) fun v40 =>
  R (.returned v40)
theorem F5_j1_ok (R : ER) (e : Env) : den Pg R (cd Tryz.f5 [1,1,1,1,1,1]) e (kont Pg R Tryz.f5) = (F5_j1 R (e 1) (e 3) (e 4) (e 5)) := by kernel_rfl
def F5 (R : ER) (x0 : Value) : WP :=
  bx 36 x0 fun v41 =>
  pv (faO 0 v41) fun v42 =>
  ld1 v42 fun v43 =>
  pv (cvI .u64 v43) fun v44 =>
  pv (bin .rem v44 (.int .u64 15)) fun v45 =>
  pv (cvI .i64 v45) fun v46 =>
  pv (faO 0 v41) fun v47 =>
  st1 v47 v46 fun _ =>
  ldN 9 v41 fun v48 =>
  cal Pg R 14 ⟨[(.pointer none), v48]⟩ fun v49 =>
  al Pg 42 fun v50 =>
  stN 15 v50 v49 fun _ =>
  pv (faO 0 v41) fun v51 =>
  ld1 v51 fun v52 =>
  pv (bin .eql v52 (.int .i64 12)) fun v53 =>
  gd v53 false (pv (faO 0 v41)) fun v54 =>
  gd v53 false (ld1 v54) fun v55 =>
  gd v53 false (pv (bin .eql v55 (.int .i64 13))) fun v56 =>
  pv (pickO v53 (.bool true) v56) fun v57 =>
  cnd v57 (
   F5_j1 R v41 (.pointer none) v50 (.int .i64 0)) (
   F5_j1 R v41 (.pointer none) v50 (.int .i64 35))
theorem F5_den (R : ER) (x0 : Value) : den Pg R (cd Tryz.f5 []) (argsEnv [x0]) (kont Pg R Tryz.f5) = F5 R x0 :=
  have h : ∀ e, den Pg R (cd Tryz.f5 []) e (kont Pg R Tryz.f5) = F5 R (e 0) := fun e => (den_join Pg R 5 (cd Tryz.f5 []) (cd Tryz.f5 [1,1,1,1,1,1]) e (kont Pg R Tryz.f5) (fun e => F5_j1 R (e 1) (e 3) (e 4) (e 5)) _ (by kernel_rfl) (fun e => F5_j1_ok R e) (by kernel_rfl))
  h _
theorem F5_calls {R : ER} {x0 : Value} {w : World} (h : F5 R x0 w) : Calls Pg 5 ⟨[x0]⟩ w R :=
  calls_of_den Tryz.func5 (by kernel_rfl) (by kernel_rfl) (F5_den R x0) h
/-! ### 9: orpimentlaw11_awake -/
def F9_j1 (R : ER) (x1 : Value) : WP :=
  cal Pg R 28 ⟨[x1, (.int .i64 1), (.int .i64 1), (.int .i64 3), (.int .i64 9)]⟩ fun v1 =>
  pv (extO 0 v1) fun v2 =>
  pv (extO 1 v1) fun v3 =>
  valV Pg R (Instr.buildSlice 30 2 ⟨[(0, (.int .u8 111)), (1, (.int .u8 107))]⟩) fun v4 =>
  valV Pg R (convert 30 30 v4) fun v5 =>
  cal Pg R 29 ⟨[x1, (.int .i64 1), (.int .i64 1), (.int .i64 7), v5]⟩ fun v6 =>
  pv (extO 0 v6) fun v7 =>
  pv (extO 1 v6) fun v8 =>
  cal Pg R 18 ⟨[x1, (.int .i64 5)]⟩ fun v9 =>
  pv (extO 0 v9) fun v10 =>
  pv (extO 1 v9) fun v11 =>
  pv (bin .eql v3 (.int .i64 0)) fun v12 =>
  gd v12 true (pv (some v8)) fun v13 =>
  gd v12 true (pv (bin .eql v13 (.int .i64 0))) fun v14 =>
  pv (pickO v12 v14 (.bool false)) fun v15 =>
  gd v15 true (pv (some v2)) fun v16 =>
  gd v15 true (valV Pg R (convert 30 9 v16)) fun v17 =>
  gd v15 true (pv (binS .eql v17 (.string ⟨⟨[108,111]⟩⟩))) fun v18 =>
  pv (pickO v15 v18 (.bool false)) fun v19 =>
  gd v19 true (pv (some v7)) fun v20 =>
  gd v19 true (pv (lenS v20)) fun v21 =>
  gd v19 true (pv (bin .eql v21 (.int .i64 1))) fun v22 =>
  pv (pickO v19 v22 (.bool false)) fun v23 =>
  gd v23 true (pv (some v7)) fun v24 =>
  gd v23 true (pv (ixS 3 v24 (.int .i64 0))) fun v25 =>
  gd v23 true (ldN 3 v25) fun v26 =>
  gd v23 true (pv (bldO [.int .i64 0, .int .i64 0, .int .i64 0] [(0,1, (.int .i64 5)), (2,1, (.int .i64 7))])) fun v27 =>
  gd v23 true (pv (eqAgg [0,0,0] v26 v27)) fun v28 =>
  pv (pickO v23 v28 (.bool false)) fun v29 =>
  gd v29 true (pv (some v11)) fun v30 =>
  pv (pickO v29 v30 (.bool false)) fun v31 =>
  gd v31 true (pv (some v10)) fun v32 =>
  gd v31 true (valV Pg R (convert 30 9 v32)) fun v33 =>
  gd v31 true (pv (binS .eql v33 (.string ⟨⟨[111,107]⟩⟩))) fun v34 =>
  pv (pickO v31 v34 (.bool false)) fun v35 =>
  R (.returned v35)
theorem F9_j1_ok (R : ER) (e : Env) : den Pg R (cd Tryz.f9 [1,1,1,1,1,1,1]) e (kont Pg R Tryz.f9) = (F9_j1 R (e 1)) := by kernel_rfl
def F9_j2 (R : ER) (x1 x3 x5 x7 x8 x9 x10 : Value) : WP :=
  pv (bin .neq x3 (.int .i64 0)) fun v36 =>
  gd v36 false (pv (some x5)) fun v37 =>
  gd v36 false (pv (bin .neq v37 (.int .i64 0))) fun v38 =>
  pv (pickO v36 (.bool true) v38) fun v39 =>
  gd v39 false (pv (some x7)) fun v40 =>
  gd v39 false (pv (bin .neq v40 (.int .i64 0))) fun v41 =>
  pv (pickO v39 (.bool true) v41) fun v42 =>
  gd v42 false (pv (some x10)) fun v43 =>
  gd v42 false (pv (bin .neq v43 (.int .i64 0))) fun v44 =>
  pv (pickO v42 (.bool true) v44) fun v45 =>
  gd v45 false (pv (some x9)) fun v46 =>
  pv (pickO v45 (.bool true) v46) fun v47 =>
  gd v47 false (pv (faO 7 x8)) fun v48 =>
  gd v47 false (ld1 v48) fun v49 =>
  gd v47 false (valV Pg R (convert 30 9 v49)) fun v50 =>
  gd v47 false (pv (binS .neq v50 (.string ⟨⟨[104,101,108]⟩⟩))) fun v51 =>
  pv (pickO v47 (.bool true) v51) fun v52 =>
  gd v52 false (pv (faO 8 x8)) fun v53 =>
  gd v52 false (ld1 v53) fun v54 =>
  gd v52 false (pv (bin .neq v54 (.int .i64 5))) fun v55 =>
  pv (pickO v52 (.bool true) v55) fun v56 =>
  gd v56 false (pv (faO 0 x8)) fun v57 =>
  gd v56 false (ld1 v57) fun v58 =>
  gd v56 false (pv (bin .neq v58 (.int .i64 1))) fun v59 =>
  pv (pickO v56 (.bool true) v59) fun v60 =>
  gd v60 false (pv (faO 1 x8)) fun v61 =>
  gd v60 false (ld1 v61) fun v62 =>
  gd v60 false (pv (bin .neq v62 (.int .i64 5))) fun v63 =>
  pv (pickO v60 (.bool true) v63) fun v64 =>
  cnd v64 (
   R (.returned (.bool false))) (
   F9_j1 R x1)
theorem F9_j2_ok (R : ER) (e : Env) : den Pg R (cd Tryz.f9 [1,1,1,1,1,1,0]) e (setN (kont Pg R Tryz.f9) (fun e => F9_j1 R (e 1))) = (F9_j2 R (e 1) (e 3) (e 5) (e 7) (e 8) (e 9) (e 10)) := (by kernel_rfl)
def F9 (R : ER) : WP :=
  cal Pg R 20 ⟨[]⟩ fun v65 =>
  cal Pg R 24 ⟨[v65, (.int .i64 1), (.bool false)]⟩ fun v66 =>
  pv (extO 0 v66) fun v67 =>
  pv (extO 1 v66) fun v68 =>
  cal Pg R 25 ⟨[v65, (.int .i64 2), v67]⟩ fun v69 =>
  pv (extO 0 v69) fun v70 =>
  pv (extO 1 v69) fun v71 =>
  valV Pg R (Instr.buildSlice 30 5 ⟨[(0, (.int .u8 104)), (1, (.int .u8 101)), (2, (.int .u8 108)), (3, (.int .u8 108)), (4, (.int .u8 111))]⟩) fun v72 =>
  valV Pg R (convert 30 30 v72) fun v73 =>
  cal Pg R 26 ⟨[v65, (.int .i64 5), (.int .i64 2), v70, (.int .i64 10), v73, (.int .i64 4)]⟩ fun v74 =>
  pv (extO 0 v74) fun v75 =>
  pv (extO 1 v74) fun v76 =>
  cal Pg R 27 ⟨[v65, (.int .i64 3), (.int .i64 1), v67, (.int .i64 20), (.int .i64 3)]⟩ fun v77 =>
  pv (extO 0 v77) fun v78 =>
  pv (extO 1 v77) fun v79 =>
  pv (extO 2 v77) fun v80 =>
  al Pg 32 fun v81 =>
  stN 10 v81 v78 fun _ =>
  F9_j2 R v65 v68 v71 v76 v81 v79 v80
theorem F9_den (R : ER) : den Pg R (cd Tryz.f9 []) (argsEnv []) (kont Pg R Tryz.f9) = F9 R :=
  have h : ∀ e, den Pg R (cd Tryz.f9 []) e (kont Pg R Tryz.f9) = F9 R := fun e => (den_join Pg R 6 (cd Tryz.f9 []) (cd Tryz.f9 [1,1,1,1,1,1,1]) e (kont Pg R Tryz.f9) (fun e => F9_j1 R (e 1)) _ (by kernel_rfl) (fun e => F9_j1_ok R e) (den_join Pg R 5 (pre 6 (cd Tryz.f9 [])) (cd Tryz.f9 [1,1,1,1,1,1,0]) e (setN (kont Pg R Tryz.f9) (fun e => F9_j1 R (e 1))) (fun e => F9_j2 R (e 1) (e 3) (e 5) (e 7) (e 8) (e 9) (e 10)) _ (by kernel_rfl) (fun e => F9_j2_ok R e) (by kernel_rfl)))
  h _
theorem F9_calls {R : ER} {w : World} (h : F9 R w) : Calls Pg 9 ⟨[]⟩ w R :=
  calls_of_den Tryz.func9 (by kernel_rfl) (by kernel_rfl) (F9_den R) h
/-! ### 12: channels_Table_State -/
def F12_j1 (R : ER) (x0 x1 : Value) : WP :=
  pv (nilO x0) fun v1 =>
  pv (faO 2 v1) fun v2 =>
  ld1 v2 fun v3 =>
  valV Pg R (Instr.lookup 83 v3 x1 true) fun v4 =>
  pv (extO 0 v4) fun v5 =>
  pv (extO 1 v4) fun v6 =>
  al Pg 79 fun v7 =>
  stN 3 v7 v5 fun _ =>
  cnd v6 (
   pv (faO 0 v7) fun v8 =>
   ld1 v8 fun v9 =>
   R (.returned v9)) (
   R (.returned (.int .i64 1)))
theorem F12_j1_ok (R : ER) (e : Env) : den Pg R (cd Tryz.f12 [1,1]) e (kont Pg R Tryz.f12) = (F12_j1 R (e 0) (e 1)) := (by kernel_rfl)
def F12 (R : ER) (x0 x1 : Value) : WP :=
  pv (eqNilP x0) fun v10 =>
  cnd v10 (
   R (.returned (.int .i64 0))) (
   F12_j1 R x0 x1)
theorem F12_den (R : ER) (x0 x1 : Value) : den Pg R (cd Tryz.f12 []) (argsEnv [x0, x1]) (kont Pg R Tryz.f12) = F12 R x0 x1 :=
  have h : ∀ e, den Pg R (cd Tryz.f12 []) e (kont Pg R Tryz.f12) = F12 R (e 0) (e 1) := fun e => (den_join Pg R 1 (cd Tryz.f12 []) (cd Tryz.f12 [1,1]) e (kont Pg R Tryz.f12) (fun e => F12_j1 R (e 0) (e 1)) _ (by kernel_rfl) (fun e => F12_j1_ok R e) (by kernel_rfl))
  h _
theorem F12_calls {R : ER} {x0 x1 : Value} {w : World} (h : F12 R x0 x1 w) : Calls Pg 12 ⟨[x0, x1]⟩ w R :=
  calls_of_den Tryz.func12 (by kernel_rfl) (by kernel_rfl) (F12_den R x0 x1) h
/-! ### 14: orpimentlaw11_call -/
def F14_j1 (R : ER) (x4 : Value) : WP :=
  ldN 15 x4 fun v1 =>
  stN 15 x4 v1 fun _ =>
  ldN 15 x4 fun v2 => R (.returned v2)
theorem F14_j1_ok (R : ER) (e : Env) : den Pg R (cd Tryz.f14 [1,1]) e (kont Pg R Tryz.f14) = (F14_j1 R (e 4)) := by kernel_rfl
def F14_j5 (R : ER) (x0 x3 x4 : Value) : WP :=
  pv (faO 2 x3) fun v3 =>
  ld1 v3 fun v4 =>
  pv (faO 8 x3) fun v5 =>
  ld1 v5 fun v6 =>
  cal Pg R 24 ⟨[x0, v4, v6]⟩ fun v7 =>
  pv (extO 0 v7) fun v8 =>
  pv (extO 1 v7) fun v9 =>
  pv (faO 0 x4) fun v10 =>
  st1 v10 v8 fun _ =>
  pv (faO 14 x4) fun v11 =>
  st1 v11 v9 fun _ =>
  F14_j1 R x4
theorem F14_j5_ok (R : ER) (e : Env) : den Pg R (cd Tryz.f14 [1,0,1,0,1,0]) e (inB 0 (setN (kont Pg R Tryz.f14) (fun e => F14_j1 R (e 4)))) = (F14_j5 R (e 0) (e 3) (e 4)) := by kernel_rfl
def F14_j8 (R : ER) (x0 x3 x4 : Value) : WP :=
  pv (faO 2 x3) fun v12 =>
  ld1 v12 fun v13 =>
  pv (faO 3 x3) fun v14 =>
  ld1 v14 fun v15 =>
  cal Pg R 30 ⟨[x0, v13, v15]⟩ fun v16 =>
  pv (extO 0 v16) fun v17 =>
  pv (extO 1 v16) fun v18 =>
  pv (faO 1 x4) fun v19 =>
  st1 v19 v17 fun _ =>
  pv (faO 14 x4) fun v20 =>
  st1 v20 v18 fun _ =>
  F14_j1 R x4
theorem F14_j8_ok (R : ER) (e : Env) : den Pg R (cd Tryz.f14 [1,0,1,0,1,1,1,0]) e (inB 0 (setN (kont Pg R Tryz.f14) (fun e => F14_j1 R (e 4)))) = (F14_j8 R (e 0) (e 3) (e 4)) := by kernel_rfl
def F14_j11 (R : ER) (x0 x3 x4 : Value) : WP :=
  pv (faO 2 x3) fun v21 =>
  ld1 v21 fun v22 =>
  pv (faO 3 x3) fun v23 =>
  ld1 v23 fun v24 =>
  cal Pg R 25 ⟨[x0, v22, v24]⟩ fun v25 =>
  pv (extO 0 v25) fun v26 =>
  pv (extO 1 v25) fun v27 =>
  pv (faO 0 x4) fun v28 =>
  st1 v28 v26 fun _ =>
  pv (faO 14 x4) fun v29 =>
  st1 v29 v27 fun _ =>
  F14_j1 R x4
theorem F14_j11_ok (R : ER) (e : Env) : den Pg R (cd Tryz.f14 [1,0,1,0,1,1,1,1,1,0]) e (inB 0 (setN (kont Pg R Tryz.f14) (fun e => F14_j1 R (e 4)))) = (F14_j11 R (e 0) (e 3) (e 4)) := by kernel_rfl
def F14_j14 (R : ER) (x0 x3 x4 : Value) : WP :=
  pv (faO 2 x3) fun v30 =>
  ld1 v30 fun v31 =>
  pv (faO 3 x3) fun v32 =>
  ld1 v32 fun v33 =>
  cal Pg R 31 ⟨[x0, v31, v33]⟩ fun v34 =>
  pv (extO 0 v34) fun v35 =>
  pv (extO 1 v34) fun v36 =>
  pv (faO 1 x4) fun v37 =>
  st1 v37 v35 fun _ =>
  pv (faO 14 x4) fun v38 =>
  st1 v38 v36 fun _ =>
  F14_j1 R x4
theorem F14_j14_ok (R : ER) (e : Env) : den Pg R (cd Tryz.f14 [1,0,1,0,1,1,1,1,1,1,1,0]) e (inB 0 (setN (kont Pg R Tryz.f14) (fun e => F14_j1 R (e 4)))) = (F14_j14 R (e 0) (e 3) (e 4)) := by kernel_rfl
def F14_j17 (R : ER) (x0 x3 x4 : Value) : WP :=
  drewV (
  pv (faO 1 x3) fun v39 =>
  ld1 v39 fun v40 =>
  pv (faO 2 x3) fun v41 =>
  ld1 v41 fun v42 =>
  pv (faO 3 x3) fun v43 =>
  ld1 v43 fun v44 =>
  pv (faO 4 x3) fun v45 =>
  ld1 v45 fun v46 =>
  pv (faO 7 x3) fun v47 =>
  ld1 v47 fun v48 =>
  mem fun w50 => cal Pg noR 32 ⟨[v48]⟩ fun v49 =>
  rd1 v45 v46 <|
  rd1 v43 v44 <|
  rd1 v41 v42 <|
  rd1 v39 v40 <|
  pv (faO 5 x3) fun v51 =>
  ld1S [w50] v51 fun v52 =>
  mem fun w54 => cal Pg noR 26 ⟨[x0, v40, v42, v44, v46, v49, v52]⟩ fun v53 =>
  pv (extO 0 v53) fun v55 =>
  pv (extO 1 v53) fun v56 =>
  pv (faO 1 x4) fun v57 =>
  mem fun w59 => st1 v57 v55 fun v58 =>
  pv (faO 14 x4) fun v60 =>
  mem fun w62 => st1 v60 v56 fun v61 =>
  F14_j1 R x4)
theorem F14_j17_ok (R : ER) (e : Env) : den Pg R (cd Tryz.f14 [1,0,1,0,1,1,1,1,1,1,1,1,1,0]) e (inB 0 (setN (kont Pg R Tryz.f14) (fun e => F14_j1 R (e 4)))) = (F14_j17 R (e 0) (e 3) (e 4)) := by kernel_rfl
def F14_j20 (R : ER) (x0 x3 x4 : Value) : WP :=
  pv (faO 1 x3) fun v63 =>
  ld1 v63 fun v64 =>
  pv (faO 2 x3) fun v65 =>
  ld1 v65 fun v66 =>
  pv (faO 3 x3) fun v67 =>
  ld1 v67 fun v68 =>
  pv (faO 4 x3) fun v69 =>
  ld1 v69 fun v70 =>
  pv (faO 5 x3) fun v71 =>
  ld1 v71 fun v72 =>
  cal Pg R 27 ⟨[x0, v64, v66, v68, v70, v72]⟩ fun v73 =>
  pv (extO 0 v73) fun v74 =>
  pv (extO 1 v73) fun v75 =>
  pv (extO 2 v73) fun v76 =>
  pv (faO 2 x4) fun v77 =>
  stN 10 v77 v74 fun _ =>
  pv (faO 13 x4) fun v78 =>
  st1 v78 v75 fun _ =>
  pv (faO 14 x4) fun v79 =>
  st1 v79 v76 fun _ =>
  F14_j1 R x4
theorem F14_j20_ok (R : ER) (e : Env) : den Pg R (cd Tryz.f14 [1,0,1,0,1,1,1,1,1,1,1,1,1,1,1,0]) e (inB 0 (setN (kont Pg R Tryz.f14) (fun e => F14_j1 R (e 4)))) = (F14_j20 R (e 0) (e 3) (e 4)) := by kernel_rfl
def F14_j23 (R : ER) (x0 x3 x4 : Value) : WP :=
  drewV (
  pv (faO 2 x3) fun v80 =>
  ld1 v80 fun v81 =>
  pv (faO 6 x3) fun v82 =>
  ld1 v82 fun v83 =>
  pv (faO 5 x3) fun v84 =>
  ld1 v84 fun v85 =>
  pv (faO 7 x3) fun v86 =>
  ld1 v86 fun v87 =>
  mem fun w89 => cal Pg noR 32 ⟨[v87]⟩ fun v88 =>
  rd1 v84 v85 <|
  rd1 v82 v83 <|
  rd1 v80 v81 <|
  mem fun w91 => cal Pg noR 29 ⟨[x0, v81, v83, v85, v88]⟩ fun v90 =>
  pv (extO 0 v90) fun v92 =>
  pv (extO 1 v90) fun v93 =>
  pv (faO 1 x4) fun v94 =>
  mem fun w96 => st1 v94 v92 fun v95 =>
  pv (faO 14 x4) fun v97 =>
  mem fun w99 => st1 v97 v93 fun v98 =>
  F14_j1 R x4)
theorem F14_j23_ok (R : ER) (e : Env) : den Pg R (cd Tryz.f14 [1,0,1,0,1,1,1,1,1,1,1,1,1,1,1,1,1,0]) e (inB 0 (setN (kont Pg R Tryz.f14) (fun e => F14_j1 R (e 4)))) = (F14_j23 R (e 0) (e 3) (e 4)) := by kernel_rfl
def F14_j26 (R : ER) (x0 x3 x4 : Value) : WP :=
  pv (faO 2 x3) fun v100 =>
  ld1 v100 fun v101 =>
  pv (faO 6 x3) fun v102 =>
  ld1 v102 fun v103 =>
  pv (faO 5 x3) fun v104 =>
  ld1 v104 fun v105 =>
  cal Pg R 33 ⟨[x0, v101, v103, v105]⟩ fun v106 =>
  pv (extO 0 v106) fun v107 =>
  pv (extO 1 v106) fun v108 =>
  pv (faO 1 x4) fun v109 =>
  st1 v109 v107 fun _ =>
  pv (faO 14 x4) fun v110 =>
  st1 v110 v108 fun _ =>
  F14_j1 R x4
theorem F14_j26_ok (R : ER) (e : Env) : den Pg R (cd Tryz.f14 [1,0,1,0,1,1,1,1,1,1,1,1,1,1,1,1,1,1,1,0]) e (inB 0 (setN (kont Pg R Tryz.f14) (fun e => F14_j1 R (e 4)))) = (F14_j26 R (e 0) (e 3) (e 4)) := by kernel_rfl
def F14_j29 (R : ER) (x0 x3 x4 : Value) : WP :=
  pv (faO 2 x3) fun v111 =>
  ld1 v111 fun v112 =>
  pv (faO 6 x3) fun v113 =>
  ld1 v113 fun v114 =>
  pv (faO 5 x3) fun v115 =>
  ld1 v115 fun v116 =>
  pv (faO 4 x3) fun v117 =>
  ld1 v117 fun v118 =>
  cal Pg R 28 ⟨[x0, v112, v114, v116, v118]⟩ fun v119 =>
  pv (extO 0 v119) fun v120 =>
  pv (extO 1 v119) fun v121 =>
  pv (faO 12 x4) fun v122 =>
  st1 v122 v120 fun _ =>
  pv (faO 14 x4) fun v123 =>
  st1 v123 v121 fun _ =>
  F14_j1 R x4
theorem F14_j29_ok (R : ER) (e : Env) : den Pg R (cd Tryz.f14 [1,0,1,0,1,1,1,1,1,1,1,1,1,1,1,1,1,1,1,1,1,0]) e (inB 0 (setN (kont Pg R Tryz.f14) (fun e => F14_j1 R (e 4)))) = (F14_j29 R (e 0) (e 3) (e 4)) := by kernel_rfl
def F14_j32 (R : ER) (x0 x3 x4 : Value) : WP :=
  drewV (
  pv (faO 2 x3) fun v124 =>
  ld1 v124 fun v125 =>
  pv (faO 6 x3) fun v126 =>
  ld1 v126 fun v127 =>
  pv (faO 5 x3) fun v128 =>
  ld1 v128 fun v129 =>
  pv (faO 7 x3) fun v130 =>
  ld1 v130 fun v131 =>
  mem fun w133 => cal Pg noR 32 ⟨[v131]⟩ fun v132 =>
  rd1 v128 v129 <|
  rd1 v126 v127 <|
  rd1 v124 v125 <|
  mem fun w135 => cal Pg noR 34 ⟨[x0, v125, v127, v129, v132]⟩ fun v134 =>
  pv (extO 0 v134) fun v136 =>
  pv (extO 1 v134) fun v137 =>
  pv (faO 0 x4) fun v138 =>
  mem fun w140 => st1 v138 v136 fun v139 =>
  pv (faO 14 x4) fun v141 =>
  mem fun w143 => st1 v141 v137 fun v142 =>
  F14_j1 R x4)
theorem F14_j32_ok (R : ER) (e : Env) : den Pg R (cd Tryz.f14 [1,0,1,0,1,1,1,1,1,1,1,1,1,1,1,1,1,1,1,1,1,1,1,0]) e (inB 0 (setN (kont Pg R Tryz.f14) (fun e => F14_j1 R (e 4)))) = (F14_j32 R (e 0) (e 3) (e 4)) := by kernel_rfl
def F14_j35 (R : ER) (x0 x3 x4 : Value) : WP :=
  pv (faO 2 x3) fun v144 =>
  ld1 v144 fun v145 =>
  pv (faO 3 x3) fun v146 =>
  ld1 v146 fun v147 =>
  pv (faO 4 x3) fun v148 =>
  ld1 v148 fun v149 =>
  pv (faO 5 x3) fun v150 =>
  ld1 v150 fun v151 =>
  pv (faO 6 x3) fun v152 =>
  ld1 v152 fun v153 =>
  cal Pg R 35 ⟨[x0, v145, v147, v149, v151, v153]⟩ fun v154 =>
  pv (extO 0 v154) fun v155 =>
  pv (extO 1 v154) fun v156 =>
  pv (faO 1 x4) fun v157 =>
  st1 v157 v155 fun _ =>
  pv (faO 14 x4) fun v158 =>
  st1 v158 v156 fun _ =>
  F14_j1 R x4
theorem F14_j35_ok (R : ER) (e : Env) : den Pg R (cd Tryz.f14 [1,0,1,0,1,1,1,1,1,1,1,1,1,1,1,1,1,1,1,1,1,1,1,1,1,0]) e (inB 0 (setN (kont Pg R Tryz.f14) (fun e => F14_j1 R (e 4)))) = (F14_j35 R (e 0) (e 3) (e 4)) := by kernel_rfl
def F14_j38 (R : ER) (x0 x3 x4 : Value) : WP :=
  pv (faO 1 x3) fun v159 =>
  ld1 v159 fun v160 =>
  pv (faO 5 x3) fun v161 =>
  ld1 v161 fun v162 =>
  cal Pg R 36 ⟨[x0, v160, v162]⟩ fun v163 =>
  pv (extO 0 v163) fun v164 =>
  pv (extO 1 v163) fun v165 =>
  pv (faO 1 x4) fun v166 =>
  st1 v166 v164 fun _ =>
  pv (faO 14 x4) fun v167 =>
  st1 v167 v165 fun _ =>
  F14_j1 R x4
theorem F14_j38_ok (R : ER) (e : Env) : den Pg R (cd Tryz.f14 [1,0,1,0,1,1,1,1,1,1,1,1,1,1,1,1,1,1,1,1,1,1,1,1,1,1,1,0]) e (inB 0 (setN (kont Pg R Tryz.f14) (fun e => F14_j1 R (e 4)))) = (F14_j38 R (e 0) (e 3) (e 4)) := by kernel_rfl
def F14_j43 (R : ER) (x0 x3 x4 x6 : Value) : WP :=
  pv (bin .eql x6 (.int .i64 14)) fun v168 =>
  cnd v168 (
   pv (faO 1 x3) fun v169 =>
   ld1 v169 fun v170 =>
   pv (faO 4 x3) fun v171 =>
   ld1 v171 fun v172 =>
   cal Pg R 39 ⟨[x0, v170, v172]⟩ fun v173 =>
   pv (faO 14 x4) fun v174 =>
   st1 v174 v173 fun _ =>
   F14_j1 R x4) (
   F14_j1 R x4)
theorem F14_j43_ok (R : ER) (e : Env) : den Pg R (cd Tryz.f14 [1,0,1,0,1,1,1,1,1,1,1,1,1,1,1,1,1,1,1,1,1,1,1,1,1,1,1,1,1,1,1,1]) e (inB 0 (setN (kont Pg R Tryz.f14) (fun e => F14_j1 R (e 4)))) = (F14_j43 R (e 0) (e 3) (e 4) (e 6)) := by kernel_rfl
def F14_j42 (R : ER) (x0 x3 x4 x6 x209 : Value) : WP :=
  cnd x209 (pv (faO 2 x3) fun v175 =>
  ld1 v175 fun v176 =>
  cal Pg R 38 ⟨[x0, v176]⟩ fun v177 =>
  pv (faO 1 x4) fun v178 =>
  st1 v178 v177 fun _ =>
  F14_j1 R x4) (F14_j43 R x0 x3 x4 x6)
theorem F14_j42_ok (R : ER) (e : Env) : den Pg R (cd Tryz.f14 [1,0,1,0,1,1,1,1,1,1,1,1,1,1,1,1,1,1,1,1,1,1,1,1,1,1,1,1,1,1,1]) e (inB 0 (setN (kont Pg R Tryz.f14) (fun e => F14_j1 R (e 4)))) = (F14_j42 R (e 0) (e 3) (e 4) (e 6) (e 209)) := (den_if Pg R (cd Tryz.f14 [1,0,1,0,1,1,1,1,1,1,1,1,1,1,1,1,1,1,1,1,1,1,1,1,1,1,1,1,1,1,1]) (cd Tryz.f14 [1,0,1,0,1,1,1,1,1,1,1,1,1,1,1,1,1,1,1,1,1,1,1,1,1,1,1,1,1,1,1,0]) (cd Tryz.f14 [1,0,1,0,1,1,1,1,1,1,1,1,1,1,1,1,1,1,1,1,1,1,1,1,1,1,1,1,1,1,1,1]) e (inB 0 (setN (kont Pg R Tryz.f14) (fun e => F14_j1 R (e 4)))) _ (F14_j43 R (e 0) (e 3) (e 4) (e 6)) _ (by kernel_rfl) rfl (F14_j43_ok R e) (by kernel_rfl))
def F14_j41 (R : ER) (x0 x3 x4 x6 : Value) : WP :=
  pv (bin .eql x6 (.int .i64 13)) fun v179 =>
  F14_j42 R x0 x3 x4 x6 v179
theorem F14_j41_ok (R : ER) (e : Env) : den Pg R (cd Tryz.f14 [1,0,1,0,1,1,1,1,1,1,1,1,1,1,1,1,1,1,1,1,1,1,1,1,1,1,1,1,1,1]) e (inB 0 (setN (kont Pg R Tryz.f14) (fun e => F14_j1 R (e 4)))) = (F14_j41 R (e 0) (e 3) (e 4) (e 6)) := (den_join Pg R 0 (cd Tryz.f14 [1,0,1,0,1,1,1,1,1,1,1,1,1,1,1,1,1,1,1,1,1,1,1,1,1,1,1,1,1,1]) (cd Tryz.f14 [1,0,1,0,1,1,1,1,1,1,1,1,1,1,1,1,1,1,1,1,1,1,1,1,1,1,1,1,1,1,1]) e (inB 0 (setN (kont Pg R Tryz.f14) (fun e => F14_j1 R (e 4)))) (fun e => F14_j42 R (e 0) (e 3) (e 4) (e 6) (e 209)) _ (by kernel_rfl) (fun e => F14_j42_ok R e) (by kernel_rfl))
def F14_j40 (R : ER) (x0 x3 x4 x6 x202 : Value) : WP :=
  cnd x202 (pv (faO 1 x3) fun v180 =>
  ld1 v180 fun v181 =>
  cal Pg R 37 ⟨[x0, v181]⟩ fun v182 =>
  pv (faO 1 x4) fun v183 =>
  st1 v183 v182 fun _ =>
  F14_j1 R x4) (F14_j41 R x0 x3 x4 x6)
theorem F14_j40_ok (R : ER) (e : Env) : den Pg R (cd Tryz.f14 [1,0,1,0,1,1,1,1,1,1,1,1,1,1,1,1,1,1,1,1,1,1,1,1,1,1,1,1,1]) e (inB 0 (setN (kont Pg R Tryz.f14) (fun e => F14_j1 R (e 4)))) = (F14_j40 R (e 0) (e 3) (e 4) (e 6) (e 202)) := (den_if Pg R (cd Tryz.f14 [1,0,1,0,1,1,1,1,1,1,1,1,1,1,1,1,1,1,1,1,1,1,1,1,1,1,1,1,1]) (cd Tryz.f14 [1,0,1,0,1,1,1,1,1,1,1,1,1,1,1,1,1,1,1,1,1,1,1,1,1,1,1,1,1,0]) (cd Tryz.f14 [1,0,1,0,1,1,1,1,1,1,1,1,1,1,1,1,1,1,1,1,1,1,1,1,1,1,1,1,1,1]) e (inB 0 (setN (kont Pg R Tryz.f14) (fun e => F14_j1 R (e 4)))) _ (F14_j41 R (e 0) (e 3) (e 4) (e 6)) _ (by kernel_rfl) rfl (F14_j41_ok R e) (by kernel_rfl))
def F14_j39 (R : ER) (x0 x3 x4 x6 : Value) : WP :=
  pv (bin .eql x6 (.int .i64 12)) fun v184 =>
  F14_j40 R x0 x3 x4 x6 v184
theorem F14_j39_ok (R : ER) (e : Env) : den Pg R (cd Tryz.f14 [1,0,1,0,1,1,1,1,1,1,1,1,1,1,1,1,1,1,1,1,1,1,1,1,1,1,1,1]) e (inB 0 (setN (kont Pg R Tryz.f14) (fun e => F14_j1 R (e 4)))) = (F14_j39 R (e 0) (e 3) (e 4) (e 6)) := (den_join Pg R 0 (cd Tryz.f14 [1,0,1,0,1,1,1,1,1,1,1,1,1,1,1,1,1,1,1,1,1,1,1,1,1,1,1,1]) (cd Tryz.f14 [1,0,1,0,1,1,1,1,1,1,1,1,1,1,1,1,1,1,1,1,1,1,1,1,1,1,1,1,1]) e (inB 0 (setN (kont Pg R Tryz.f14) (fun e => F14_j1 R (e 4)))) (fun e => F14_j40 R (e 0) (e 3) (e 4) (e 6) (e 202)) _ (by kernel_rfl) (fun e => F14_j40_ok R e) (by kernel_rfl))
def F14_j37 (R : ER) (x0 x3 x4 x6 x189 : Value) : WP :=
  cnd x189 (F14_j38 R x0 x3 x4) (F14_j39 R x0 x3 x4 x6)
theorem F14_j37_ok (R : ER) (e : Env) : den Pg R (cd Tryz.f14 [1,0,1,0,1,1,1,1,1,1,1,1,1,1,1,1,1,1,1,1,1,1,1,1,1,1,1]) e (inB 0 (setN (kont Pg R Tryz.f14) (fun e => F14_j1 R (e 4)))) = (F14_j37 R (e 0) (e 3) (e 4) (e 6) (e 189)) := (den_if Pg R (cd Tryz.f14 [1,0,1,0,1,1,1,1,1,1,1,1,1,1,1,1,1,1,1,1,1,1,1,1,1,1,1]) (cd Tryz.f14 [1,0,1,0,1,1,1,1,1,1,1,1,1,1,1,1,1,1,1,1,1,1,1,1,1,1,1,0]) (cd Tryz.f14 [1,0,1,0,1,1,1,1,1,1,1,1,1,1,1,1,1,1,1,1,1,1,1,1,1,1,1,1]) e (inB 0 (setN (kont Pg R Tryz.f14) (fun e => F14_j1 R (e 4)))) (F14_j38 R (e 0) (e 3) (e 4)) (F14_j39 R (e 0) (e 3) (e 4) (e 6)) _ (by kernel_rfl) (F14_j38_ok R e) (F14_j39_ok R e) (by kernel_rfl))
def F14_j36 (R : ER) (x0 x3 x4 x6 : Value) : WP :=
  pv (bin .eql x6 (.int .i64 11)) fun v185 =>
  F14_j37 R x0 x3 x4 x6 v185
theorem F14_j36_ok (R : ER) (e : Env) : den Pg R (cd Tryz.f14 [1,0,1,0,1,1,1,1,1,1,1,1,1,1,1,1,1,1,1,1,1,1,1,1,1,1]) e (inB 0 (setN (kont Pg R Tryz.f14) (fun e => F14_j1 R (e 4)))) = (F14_j36 R (e 0) (e 3) (e 4) (e 6)) := (den_join Pg R 0 (cd Tryz.f14 [1,0,1,0,1,1,1,1,1,1,1,1,1,1,1,1,1,1,1,1,1,1,1,1,1,1]) (cd Tryz.f14 [1,0,1,0,1,1,1,1,1,1,1,1,1,1,1,1,1,1,1,1,1,1,1,1,1,1,1]) e (inB 0 (setN (kont Pg R Tryz.f14) (fun e => F14_j1 R (e 4)))) (fun e => F14_j37 R (e 0) (e 3) (e 4) (e 6) (e 189)) _ (by kernel_rfl) (fun e => F14_j37_ok R e) (by kernel_rfl))
def F14_j34 (R : ER) (x0 x3 x4 x6 x170 : Value) : WP :=
  cnd x170 (F14_j35 R x0 x3 x4) (F14_j36 R x0 x3 x4 x6)
theorem F14_j34_ok (R : ER) (e : Env) : den Pg R (cd Tryz.f14 [1,0,1,0,1,1,1,1,1,1,1,1,1,1,1,1,1,1,1,1,1,1,1,1,1]) e (inB 0 (setN (kont Pg R Tryz.f14) (fun e => F14_j1 R (e 4)))) = (F14_j34 R (e 0) (e 3) (e 4) (e 6) (e 170)) := (den_if Pg R (cd Tryz.f14 [1,0,1,0,1,1,1,1,1,1,1,1,1,1,1,1,1,1,1,1,1,1,1,1,1]) (cd Tryz.f14 [1,0,1,0,1,1,1,1,1,1,1,1,1,1,1,1,1,1,1,1,1,1,1,1,1,0]) (cd Tryz.f14 [1,0,1,0,1,1,1,1,1,1,1,1,1,1,1,1,1,1,1,1,1,1,1,1,1,1]) e (inB 0 (setN (kont Pg R Tryz.f14) (fun e => F14_j1 R (e 4)))) (F14_j35 R (e 0) (e 3) (e 4)) (F14_j36 R (e 0) (e 3) (e 4) (e 6)) _ (by kernel_rfl) (F14_j35_ok R e) (F14_j36_ok R e) (by kernel_rfl))
def F14_j33 (R : ER) (x0 x3 x4 x6 : Value) : WP :=
  pv (bin .eql x6 (.int .i64 10)) fun v186 =>
  F14_j34 R x0 x3 x4 x6 v186
theorem F14_j33_ok (R : ER) (e : Env) : den Pg R (cd Tryz.f14 [1,0,1,0,1,1,1,1,1,1,1,1,1,1,1,1,1,1,1,1,1,1,1,1]) e (inB 0 (setN (kont Pg R Tryz.f14) (fun e => F14_j1 R (e 4)))) = (F14_j33 R (e 0) (e 3) (e 4) (e 6)) := (den_join Pg R 0 (cd Tryz.f14 [1,0,1,0,1,1,1,1,1,1,1,1,1,1,1,1,1,1,1,1,1,1,1,1]) (cd Tryz.f14 [1,0,1,0,1,1,1,1,1,1,1,1,1,1,1,1,1,1,1,1,1,1,1,1,1]) e (inB 0 (setN (kont Pg R Tryz.f14) (fun e => F14_j1 R (e 4)))) (fun e => F14_j34 R (e 0) (e 3) (e 4) (e 6) (e 170)) _ (by kernel_rfl) (fun e => F14_j34_ok R e) (by kernel_rfl))
def F14_j31 (R : ER) (x0 x3 x4 x6 x152 : Value) : WP :=
  cnd x152 (F14_j32 R x0 x3 x4) (F14_j33 R x0 x3 x4 x6)
theorem F14_j31_ok (R : ER) (e : Env) : den Pg R (cd Tryz.f14 [1,0,1,0,1,1,1,1,1,1,1,1,1,1,1,1,1,1,1,1,1,1,1]) e (inB 0 (setN (kont Pg R Tryz.f14) (fun e => F14_j1 R (e 4)))) = (F14_j31 R (e 0) (e 3) (e 4) (e 6) (e 152)) := (den_if Pg R (cd Tryz.f14 [1,0,1,0,1,1,1,1,1,1,1,1,1,1,1,1,1,1,1,1,1,1,1]) (cd Tryz.f14 [1,0,1,0,1,1,1,1,1,1,1,1,1,1,1,1,1,1,1,1,1,1,1,0]) (cd Tryz.f14 [1,0,1,0,1,1,1,1,1,1,1,1,1,1,1,1,1,1,1,1,1,1,1,1]) e (inB 0 (setN (kont Pg R Tryz.f14) (fun e => F14_j1 R (e 4)))) (F14_j32 R (e 0) (e 3) (e 4)) (F14_j33 R (e 0) (e 3) (e 4) (e 6)) _ (by kernel_rfl) (F14_j32_ok R e) (F14_j33_ok R e) (by kernel_rfl))
def F14_j30 (R : ER) (x0 x3 x4 x6 : Value) : WP :=
  pv (bin .eql x6 (.int .i64 9)) fun v187 =>
  F14_j31 R x0 x3 x4 x6 v187
theorem F14_j30_ok (R : ER) (e : Env) : den Pg R (cd Tryz.f14 [1,0,1,0,1,1,1,1,1,1,1,1,1,1,1,1,1,1,1,1,1,1]) e (inB 0 (setN (kont Pg R Tryz.f14) (fun e => F14_j1 R (e 4)))) = (F14_j30 R (e 0) (e 3) (e 4) (e 6)) := (den_join Pg R 0 (cd Tryz.f14 [1,0,1,0,1,1,1,1,1,1,1,1,1,1,1,1,1,1,1,1,1,1]) (cd Tryz.f14 [1,0,1,0,1,1,1,1,1,1,1,1,1,1,1,1,1,1,1,1,1,1,1]) e (inB 0 (setN (kont Pg R Tryz.f14) (fun e => F14_j1 R (e 4)))) (fun e => F14_j31 R (e 0) (e 3) (e 4) (e 6) (e 152)) _ (by kernel_rfl) (fun e => F14_j31_ok R e) (by kernel_rfl))
def F14_j28 (R : ER) (x0 x3 x4 x6 x135 : Value) : WP :=
  cnd x135 (F14_j29 R x0 x3 x4) (F14_j30 R x0 x3 x4 x6)
theorem F14_j28_ok (R : ER) (e : Env) : den Pg R (cd Tryz.f14 [1,0,1,0,1,1,1,1,1,1,1,1,1,1,1,1,1,1,1,1,1]) e (inB 0 (setN (kont Pg R Tryz.f14) (fun e => F14_j1 R (e 4)))) = (F14_j28 R (e 0) (e 3) (e 4) (e 6) (e 135)) := (den_if Pg R (cd Tryz.f14 [1,0,1,0,1,1,1,1,1,1,1,1,1,1,1,1,1,1,1,1,1]) (cd Tryz.f14 [1,0,1,0,1,1,1,1,1,1,1,1,1,1,1,1,1,1,1,1,1,0]) (cd Tryz.f14 [1,0,1,0,1,1,1,1,1,1,1,1,1,1,1,1,1,1,1,1,1,1]) e (inB 0 (setN (kont Pg R Tryz.f14) (fun e => F14_j1 R (e 4)))) (F14_j29 R (e 0) (e 3) (e 4)) (F14_j30 R (e 0) (e 3) (e 4) (e 6)) _ (by kernel_rfl) (F14_j29_ok R e) (F14_j30_ok R e) (by kernel_rfl))
def F14_j27 (R : ER) (x0 x3 x4 x6 : Value) : WP :=
  pv (bin .eql x6 (.int .i64 8)) fun v188 =>
  F14_j28 R x0 x3 x4 x6 v188
theorem F14_j27_ok (R : ER) (e : Env) : den Pg R (cd Tryz.f14 [1,0,1,0,1,1,1,1,1,1,1,1,1,1,1,1,1,1,1,1]) e (inB 0 (setN (kont Pg R Tryz.f14) (fun e => F14_j1 R (e 4)))) = (F14_j27 R (e 0) (e 3) (e 4) (e 6)) := (den_join Pg R 0 (cd Tryz.f14 [1,0,1,0,1,1,1,1,1,1,1,1,1,1,1,1,1,1,1,1]) (cd Tryz.f14 [1,0,1,0,1,1,1,1,1,1,1,1,1,1,1,1,1,1,1,1,1]) e (inB 0 (setN (kont Pg R Tryz.f14) (fun e => F14_j1 R (e 4)))) (fun e => F14_j28 R (e 0) (e 3) (e 4) (e 6) (e 135)) _ (by kernel_rfl) (fun e => F14_j28_ok R e) (by kernel_rfl))
def F14_j25 (R : ER) (x0 x3 x4 x6 x120 : Value) : WP :=
  cnd x120 (F14_j26 R x0 x3 x4) (F14_j27 R x0 x3 x4 x6)
theorem F14_j25_ok (R : ER) (e : Env) : den Pg R (cd Tryz.f14 [1,0,1,0,1,1,1,1,1,1,1,1,1,1,1,1,1,1,1]) e (inB 0 (setN (kont Pg R Tryz.f14) (fun e => F14_j1 R (e 4)))) = (F14_j25 R (e 0) (e 3) (e 4) (e 6) (e 120)) := (den_if Pg R (cd Tryz.f14 [1,0,1,0,1,1,1,1,1,1,1,1,1,1,1,1,1,1,1]) (cd Tryz.f14 [1,0,1,0,1,1,1,1,1,1,1,1,1,1,1,1,1,1,1,0]) (cd Tryz.f14 [1,0,1,0,1,1,1,1,1,1,1,1,1,1,1,1,1,1,1,1]) e (inB 0 (setN (kont Pg R Tryz.f14) (fun e => F14_j1 R (e 4)))) (F14_j26 R (e 0) (e 3) (e 4)) (F14_j27 R (e 0) (e 3) (e 4) (e 6)) _ (by kernel_rfl) (F14_j26_ok R e) (F14_j27_ok R e) (by kernel_rfl))
def F14_j24 (R : ER) (x0 x3 x4 x6 : Value) : WP :=
  pv (bin .eql x6 (.int .i64 7)) fun v189 =>
  F14_j25 R x0 x3 x4 x6 v189
theorem F14_j24_ok (R : ER) (e : Env) : den Pg R (cd Tryz.f14 [1,0,1,0,1,1,1,1,1,1,1,1,1,1,1,1,1,1]) e (inB 0 (setN (kont Pg R Tryz.f14) (fun e => F14_j1 R (e 4)))) = (F14_j24 R (e 0) (e 3) (e 4) (e 6)) := (den_join Pg R 0 (cd Tryz.f14 [1,0,1,0,1,1,1,1,1,1,1,1,1,1,1,1,1,1]) (cd Tryz.f14 [1,0,1,0,1,1,1,1,1,1,1,1,1,1,1,1,1,1,1]) e (inB 0 (setN (kont Pg R Tryz.f14) (fun e => F14_j1 R (e 4)))) (fun e => F14_j25 R (e 0) (e 3) (e 4) (e 6) (e 120)) _ (by kernel_rfl) (fun e => F14_j25_ok R e) (by kernel_rfl))
def F14_j22 (R : ER) (x0 x3 x4 x6 x102 : Value) : WP :=
  cnd x102 (F14_j23 R x0 x3 x4) (F14_j24 R x0 x3 x4 x6)
theorem F14_j22_ok (R : ER) (e : Env) : den Pg R (cd Tryz.f14 [1,0,1,0,1,1,1,1,1,1,1,1,1,1,1,1,1]) e (inB 0 (setN (kont Pg R Tryz.f14) (fun e => F14_j1 R (e 4)))) = (F14_j22 R (e 0) (e 3) (e 4) (e 6) (e 102)) := (den_if Pg R (cd Tryz.f14 [1,0,1,0,1,1,1,1,1,1,1,1,1,1,1,1,1]) (cd Tryz.f14 [1,0,1,0,1,1,1,1,1,1,1,1,1,1,1,1,1,0]) (cd Tryz.f14 [1,0,1,0,1,1,1,1,1,1,1,1,1,1,1,1,1,1]) e (inB 0 (setN (kont Pg R Tryz.f14) (fun e => F14_j1 R (e 4)))) (F14_j23 R (e 0) (e 3) (e 4)) (F14_j24 R (e 0) (e 3) (e 4) (e 6)) _ (by kernel_rfl) (F14_j23_ok R e) (F14_j24_ok R e) (by kernel_rfl))
def F14_j21 (R : ER) (x0 x3 x4 x6 : Value) : WP :=
  pv (bin .eql x6 (.int .i64 6)) fun v190 =>
  F14_j22 R x0 x3 x4 x6 v190
theorem F14_j21_ok (R : ER) (e : Env) : den Pg R (cd Tryz.f14 [1,0,1,0,1,1,1,1,1,1,1,1,1,1,1,1]) e (inB 0 (setN (kont Pg R Tryz.f14) (fun e => F14_j1 R (e 4)))) = (F14_j21 R (e 0) (e 3) (e 4) (e 6)) := (den_join Pg R 0 (cd Tryz.f14 [1,0,1,0,1,1,1,1,1,1,1,1,1,1,1,1]) (cd Tryz.f14 [1,0,1,0,1,1,1,1,1,1,1,1,1,1,1,1,1]) e (inB 0 (setN (kont Pg R Tryz.f14) (fun e => F14_j1 R (e 4)))) (fun e => F14_j22 R (e 0) (e 3) (e 4) (e 6) (e 102)) _ (by kernel_rfl) (fun e => F14_j22_ok R e) (by kernel_rfl))
def F14_j19 (R : ER) (x0 x3 x4 x6 x81 : Value) : WP :=
  cnd x81 (F14_j20 R x0 x3 x4) (F14_j21 R x0 x3 x4 x6)
theorem F14_j19_ok (R : ER) (e : Env) : den Pg R (cd Tryz.f14 [1,0,1,0,1,1,1,1,1,1,1,1,1,1,1]) e (inB 0 (setN (kont Pg R Tryz.f14) (fun e => F14_j1 R (e 4)))) = (F14_j19 R (e 0) (e 3) (e 4) (e 6) (e 81)) := (den_if Pg R (cd Tryz.f14 [1,0,1,0,1,1,1,1,1,1,1,1,1,1,1]) (cd Tryz.f14 [1,0,1,0,1,1,1,1,1,1,1,1,1,1,1,0]) (cd Tryz.f14 [1,0,1,0,1,1,1,1,1,1,1,1,1,1,1,1]) e (inB 0 (setN (kont Pg R Tryz.f14) (fun e => F14_j1 R (e 4)))) (F14_j20 R (e 0) (e 3) (e 4)) (F14_j21 R (e 0) (e 3) (e 4) (e 6)) _ (by kernel_rfl) (F14_j20_ok R e) (F14_j21_ok R e) (by kernel_rfl))
def F14_j18 (R : ER) (x0 x3 x4 x6 : Value) : WP :=
  pv (bin .eql x6 (.int .i64 5)) fun v191 =>
  F14_j19 R x0 x3 x4 x6 v191
theorem F14_j18_ok (R : ER) (e : Env) : den Pg R (cd Tryz.f14 [1,0,1,0,1,1,1,1,1,1,1,1,1,1]) e (inB 0 (setN (kont Pg R Tryz.f14) (fun e => F14_j1 R (e 4)))) = (F14_j18 R (e 0) (e 3) (e 4) (e 6)) := (den_join Pg R 0 (cd Tryz.f14 [1,0,1,0,1,1,1,1,1,1,1,1,1,1]) (cd Tryz.f14 [1,0,1,0,1,1,1,1,1,1,1,1,1,1,1]) e (inB 0 (setN (kont Pg R Tryz.f14) (fun e => F14_j1 R (e 4)))) (fun e => F14_j19 R (e 0) (e 3) (e 4) (e 6) (e 81)) _ (by kernel_rfl) (fun e => F14_j19_ok R e) (by kernel_rfl))
def F14_j16 (R : ER) (x0 x3 x4 x6 x59 : Value) : WP :=
  cnd x59 (F14_j17 R x0 x3 x4) (F14_j18 R x0 x3 x4 x6)
theorem F14_j16_ok (R : ER) (e : Env) : den Pg R (cd Tryz.f14 [1,0,1,0,1,1,1,1,1,1,1,1,1]) e (inB 0 (setN (kont Pg R Tryz.f14) (fun e => F14_j1 R (e 4)))) = (F14_j16 R (e 0) (e 3) (e 4) (e 6) (e 59)) := (den_if Pg R (cd Tryz.f14 [1,0,1,0,1,1,1,1,1,1,1,1,1]) (cd Tryz.f14 [1,0,1,0,1,1,1,1,1,1,1,1,1,0]) (cd Tryz.f14 [1,0,1,0,1,1,1,1,1,1,1,1,1,1]) e (inB 0 (setN (kont Pg R Tryz.f14) (fun e => F14_j1 R (e 4)))) (F14_j17 R (e 0) (e 3) (e 4)) (F14_j18 R (e 0) (e 3) (e 4) (e 6)) _ (by kernel_rfl) (F14_j17_ok R e) (F14_j18_ok R e) (by kernel_rfl))
def F14_j15 (R : ER) (x0 x3 x4 x6 : Value) : WP :=
  pv (bin .eql x6 (.int .i64 4)) fun v192 =>
  F14_j16 R x0 x3 x4 x6 v192
theorem F14_j15_ok (R : ER) (e : Env) : den Pg R (cd Tryz.f14 [1,0,1,0,1,1,1,1,1,1,1,1]) e (inB 0 (setN (kont Pg R Tryz.f14) (fun e => F14_j1 R (e 4)))) = (F14_j15 R (e 0) (e 3) (e 4) (e 6)) := (den_join Pg R 0 (cd Tryz.f14 [1,0,1,0,1,1,1,1,1,1,1,1]) (cd Tryz.f14 [1,0,1,0,1,1,1,1,1,1,1,1,1]) e (inB 0 (setN (kont Pg R Tryz.f14) (fun e => F14_j1 R (e 4)))) (fun e => F14_j16 R (e 0) (e 3) (e 4) (e 6) (e 59)) _ (by kernel_rfl) (fun e => F14_j16_ok R e) (by kernel_rfl))
def F14_j13 (R : ER) (x0 x3 x4 x6 x46 : Value) : WP :=
  cnd x46 (F14_j14 R x0 x3 x4) (F14_j15 R x0 x3 x4 x6)
theorem F14_j13_ok (R : ER) (e : Env) : den Pg R (cd Tryz.f14 [1,0,1,0,1,1,1,1,1,1,1]) e (inB 0 (setN (kont Pg R Tryz.f14) (fun e => F14_j1 R (e 4)))) = (F14_j13 R (e 0) (e 3) (e 4) (e 6) (e 46)) := (den_if Pg R (cd Tryz.f14 [1,0,1,0,1,1,1,1,1,1,1]) (cd Tryz.f14 [1,0,1,0,1,1,1,1,1,1,1,0]) (cd Tryz.f14 [1,0,1,0,1,1,1,1,1,1,1,1]) e (inB 0 (setN (kont Pg R Tryz.f14) (fun e => F14_j1 R (e 4)))) (F14_j14 R (e 0) (e 3) (e 4)) (F14_j15 R (e 0) (e 3) (e 4) (e 6)) _ (by kernel_rfl) (F14_j14_ok R e) (F14_j15_ok R e) (by kernel_rfl))
def F14_j12 (R : ER) (x0 x3 x4 x6 : Value) : WP :=
  pv (bin .eql x6 (.int .i64 3)) fun v193 =>
  F14_j13 R x0 x3 x4 x6 v193
theorem F14_j12_ok (R : ER) (e : Env) : den Pg R (cd Tryz.f14 [1,0,1,0,1,1,1,1,1,1]) e (inB 0 (setN (kont Pg R Tryz.f14) (fun e => F14_j1 R (e 4)))) = (F14_j12 R (e 0) (e 3) (e 4) (e 6)) := (den_join Pg R 0 (cd Tryz.f14 [1,0,1,0,1,1,1,1,1,1]) (cd Tryz.f14 [1,0,1,0,1,1,1,1,1,1,1]) e (inB 0 (setN (kont Pg R Tryz.f14) (fun e => F14_j1 R (e 4)))) (fun e => F14_j13 R (e 0) (e 3) (e 4) (e 6) (e 46)) _ (by kernel_rfl) (fun e => F14_j13_ok R e) (by kernel_rfl))
def F14_j10 (R : ER) (x0 x3 x4 x6 x33 : Value) : WP :=
  cnd x33 (F14_j11 R x0 x3 x4) (F14_j12 R x0 x3 x4 x6)
theorem F14_j10_ok (R : ER) (e : Env) : den Pg R (cd Tryz.f14 [1,0,1,0,1,1,1,1,1]) e (inB 0 (setN (kont Pg R Tryz.f14) (fun e => F14_j1 R (e 4)))) = (F14_j10 R (e 0) (e 3) (e 4) (e 6) (e 33)) := (den_if Pg R (cd Tryz.f14 [1,0,1,0,1,1,1,1,1]) (cd Tryz.f14 [1,0,1,0,1,1,1,1,1,0]) (cd Tryz.f14 [1,0,1,0,1,1,1,1,1,1]) e (inB 0 (setN (kont Pg R Tryz.f14) (fun e => F14_j1 R (e 4)))) (F14_j11 R (e 0) (e 3) (e 4)) (F14_j12 R (e 0) (e 3) (e 4) (e 6)) _ (by kernel_rfl) (F14_j11_ok R e) (F14_j12_ok R e) (by kernel_rfl))
def F14_j9 (R : ER) (x0 x3 x4 x6 : Value) : WP :=
  pv (bin .eql x6 (.int .i64 2)) fun v194 =>
  F14_j10 R x0 x3 x4 x6 v194
theorem F14_j9_ok (R : ER) (e : Env) : den Pg R (cd Tryz.f14 [1,0,1,0,1,1,1,1]) e (inB 0 (setN (kont Pg R Tryz.f14) (fun e => F14_j1 R (e 4)))) = (F14_j9 R (e 0) (e 3) (e 4) (e 6)) := (den_join Pg R 0 (cd Tryz.f14 [1,0,1,0,1,1,1,1]) (cd Tryz.f14 [1,0,1,0,1,1,1,1,1]) e (inB 0 (setN (kont Pg R Tryz.f14) (fun e => F14_j1 R (e 4)))) (fun e => F14_j10 R (e 0) (e 3) (e 4) (e 6) (e 33)) _ (by kernel_rfl) (fun e => F14_j10_ok R e) (by kernel_rfl))
def F14_j7 (R : ER) (x0 x3 x4 x6 x20 : Value) : WP :=
  cnd x20 (F14_j8 R x0 x3 x4) (F14_j9 R x0 x3 x4 x6)
theorem F14_j7_ok (R : ER) (e : Env) : den Pg R (cd Tryz.f14 [1,0,1,0,1,1,1]) e (inB 0 (setN (kont Pg R Tryz.f14) (fun e => F14_j1 R (e 4)))) = (F14_j7 R (e 0) (e 3) (e 4) (e 6) (e 20)) := (den_if Pg R (cd Tryz.f14 [1,0,1,0,1,1,1]) (cd Tryz.f14 [1,0,1,0,1,1,1,0]) (cd Tryz.f14 [1,0,1,0,1,1,1,1]) e (inB 0 (setN (kont Pg R Tryz.f14) (fun e => F14_j1 R (e 4)))) (F14_j8 R (e 0) (e 3) (e 4)) (F14_j9 R (e 0) (e 3) (e 4) (e 6)) _ (by kernel_rfl) (F14_j8_ok R e) (F14_j9_ok R e) (by kernel_rfl))
def F14_j6 (R : ER) (x0 x3 x4 x6 : Value) : WP :=
  pv (bin .eql x6 (.int .i64 1)) fun v195 =>
  F14_j7 R x0 x3 x4 x6 v195
theorem F14_j6_ok (R : ER) (e : Env) : den Pg R (cd Tryz.f14 [1,0,1,0,1,1]) e (inB 0 (setN (kont Pg R Tryz.f14) (fun e => F14_j1 R (e 4)))) = (F14_j6 R (e 0) (e 3) (e 4) (e 6)) := (den_join Pg R 0 (cd Tryz.f14 [1,0,1,0,1,1]) (cd Tryz.f14 [1,0,1,0,1,1,1]) e (inB 0 (setN (kont Pg R Tryz.f14) (fun e => F14_j1 R (e 4)))) (fun e => F14_j7 R (e 0) (e 3) (e 4) (e 6) (e 20)) _ (by kernel_rfl) (fun e => F14_j7_ok R e) (by kernel_rfl))
def F14_j4 (R : ER) (x0 x3 x4 x6 x7 : Value) : WP :=
  cnd x7 (F14_j5 R x0 x3 x4) (F14_j6 R x0 x3 x4 x6)
theorem F14_j4_ok (R : ER) (e : Env) : den Pg R (cd Tryz.f14 [1,0,1,0,1]) e (inB 0 (setN (kont Pg R Tryz.f14) (fun e => F14_j1 R (e 4)))) = (F14_j4 R (e 0) (e 3) (e 4) (e 6) (e 7)) := (den_if Pg R (cd Tryz.f14 [1,0,1,0,1]) (cd Tryz.f14 [1,0,1,0,1,0]) (cd Tryz.f14 [1,0,1,0,1,1]) e (inB 0 (setN (kont Pg R Tryz.f14) (fun e => F14_j1 R (e 4)))) (F14_j5 R (e 0) (e 3) (e 4)) (F14_j6 R (e 0) (e 3) (e 4) (e 6)) _ (by kernel_rfl) (F14_j5_ok R e) (F14_j6_ok R e) (by kernel_rfl))
def F14_j3 (R : ER) (x0 x3 x4 x6 : Value) : WP :=
  pv (bin .eql x6 (.int .i64 0)) fun v196 =>
  F14_j4 R x0 x3 x4 x6 v196
theorem F14_j3_ok (R : ER) (e : Env) : den Pg R (cd Tryz.f14 [1,0,1]) e (setN (kont Pg R Tryz.f14) (fun e => F14_j1 R (e 4))) = (F14_j3 R (e 0) (e 3) (e 4) (e 6)) := (den_block Pg R (cd Tryz.f14 [1,0,1]) 0 (cd Tryz.f14 [1,0,1,0]) e (setN (kont Pg R Tryz.f14) (fun e => F14_j1 R (e 4))) _ (by kernel_rfl) (den_join Pg R 0 (cd Tryz.f14 [1,0,1,0]) (cd Tryz.f14 [1,0,1,0,1]) e (inB 0 (setN (kont Pg R Tryz.f14) (fun e => F14_j1 R (e 4)))) (fun e => F14_j4 R (e 0) (e 3) (e 4) (e 6) (e 7)) _ (by kernel_rfl) (fun e => F14_j4_ok R e) (by kernel_rfl)))
def F14_j2 (R : ER) (x0 x3 x4 : Value) : WP :=
  pv (faO 0 x3) fun v197 =>
  ld1 v197 fun v198 =>
  F14_j3 R x0 x3 x4 v198
theorem F14_j2_ok (R : ER) (e : Env) : den Pg R (cd Tryz.f14 [1,0]) e (setN (kont Pg R Tryz.f14) (fun e => F14_j1 R (e 4))) = (F14_j2 R (e 0) (e 3) (e 4)) := (den_join Pg R 0 (cd Tryz.f14 [1,0]) (cd Tryz.f14 [1,0,1]) e (setN (kont Pg R Tryz.f14) (fun e => F14_j1 R (e 4))) (fun e => F14_j3 R (e 0) (e 3) (e 4) (e 6)) _ (by kernel_rfl) (fun e => F14_j3_ok R e) (by kernel_rfl))
def F14 (R : ER) (x0 x1 : Value) : WP :=
  bx 36 x1 fun v199 =>
  al Pg 42 fun v200 =>
  F14_j2 R x0 v199 v200
theorem F14_den (R : ER) (x0 x1 : Value) : den Pg R (cd Tryz.f14 []) (argsEnv [x0, x1]) (kont Pg R Tryz.f14) = F14 R x0 x1 :=
  have h : ∀ e, den Pg R (cd Tryz.f14 []) e (kont Pg R Tryz.f14) = F14 R (e 0) (e 1) := fun e => (den_join Pg R 1 (cd Tryz.f14 []) (cd Tryz.f14 [1,1]) e (kont Pg R Tryz.f14) (fun e => F14_j1 R (e 4)) _ (by kernel_rfl) (fun e => F14_j1_ok R e) (den_join Pg R 0 (pre 1 (cd Tryz.f14 [])) (cd Tryz.f14 [1,0]) e (setN (kont Pg R Tryz.f14) (fun e => F14_j1 R (e 4))) (fun e => F14_j2 R (e 0) (e 3) (e 4)) _ (by kernel_rfl) (fun e => F14_j2_ok R e) (by kernel_rfl)))
  h _
theorem F14_calls {R : ER} {x0 x1 : Value} {w : World} (h : F14 R x0 x1 w) : Calls Pg 14 ⟨[x0, x1]⟩ w R :=
  calls_of_den Tryz.func14 (by kernel_rfl) (by kernel_rfl) (F14_den R x0 x1) h
/-! ### 15: channels_Table_Taken -/
def F15_j1 (R : ER) (x0 x1 x4 : Value) : WP :=
  pv (nilO x0) fun v1 =>
  pv (faO 4 v1) fun v2 =>
  ld1 v2 fun v3 =>
  valV Pg R (Instr.lookup 85 v3 x1 false) fun v4 =>
  pv (nilO v4) fun v5 =>
  ldN 10 v5 fun v6 =>
  al Pg 32 fun v7 =>
  stN 10 v7 v6 fun _ =>
  pv (faO 7 v7) fun v8 =>
  ld1 v8 fun v9 =>
  cal Pg R 32 ⟨[v9]⟩ fun v10 =>
  pv (faO 7 v7) fun v11 =>
  st1 v11 v10 fun _ =>
  ldN 10 v7 fun v12 =>
  stN 10 x4 v12 fun _ =>
  ldN 10 x4 fun v13 => R (.returned (.tuple ⟨[v13, (.bool true)]⟩))
theorem F15_j1_ok (R : ER) (e : Env) : den Pg R (cd Tryz.f15 [1,1]) e (kont Pg R Tryz.f15) = (F15_j1 R (e 0) (e 1) (e 4)) := by kernel_rfl
def F15_j2 (R : ER) (x0 x1 x4 : Value) : WP :=
  pv (eqNilP x0) fun v14 =>
  gd v14 false (pv (some x0)) fun v15 =>
  gd v14 false (pv (nilO v15)) fun v16 =>
  gd v14 false (pv (faO 4 v16)) fun v17 =>
  gd v14 false (ld1 v17) fun v18 =>
  gd v14 false (pv (some x1)) fun v19 =>
  gd v14 false (valV Pg R (Instr.lookup 85 v18 v19 false)) fun v20 =>
  gd v14 false (pv (eqNilP v20)) fun v21 =>
  pv (pickO v14 (.bool true) v21) fun v22 =>
  cnd v22 (
   pv (bldO [.int .i64 0, .int .i64 0, .int .i64 0, .int .i64 0, .int .i64 0, .int .i64 0, .int .i64 0, .slice none 0 0, .int .i64 0, .int .i64 0] []) fun v23 =>
   stN 10 x4 v23 fun _ =>
   ldN 10 x4 fun v24 => R (.returned (.tuple ⟨[v24, (.bool false)]⟩))) (
   F15_j1 R x0 x1 x4)
theorem F15_j2_ok (R : ER) (e : Env) : den Pg R (cd Tryz.f15 [1,0]) e (setN (kont Pg R Tryz.f15) (fun e => F15_j1 R (e 0) (e 1) (e 4))) = (F15_j2 R (e 0) (e 1) (e 4)) := (by kernel_rfl)
def F15 (R : ER) (x0 x1 : Value) : WP :=
  al Pg 32 fun v25 =>
  F15_j2 R x0 x1 v25
theorem F15_den (R : ER) (x0 x1 : Value) : den Pg R (cd Tryz.f15 []) (argsEnv [x0, x1]) (kont Pg R Tryz.f15) = F15 R x0 x1 :=
  have h : ∀ e, den Pg R (cd Tryz.f15 []) e (kont Pg R Tryz.f15) = F15 R (e 0) (e 1) := fun e => (den_join Pg R 1 (cd Tryz.f15 []) (cd Tryz.f15 [1,1]) e (kont Pg R Tryz.f15) (fun e => F15_j1 R (e 0) (e 1) (e 4)) _ (by kernel_rfl) (fun e => F15_j1_ok R e) (den_join Pg R 0 (pre 1 (cd Tryz.f15 [])) (cd Tryz.f15 [1,0]) e (setN (kont Pg R Tryz.f15) (fun e => F15_j1 R (e 0) (e 1) (e 4))) (fun e => F15_j2 R (e 0) (e 1) (e 4)) _ (by kernel_rfl) (fun e => F15_j2_ok R e) (by kernel_rfl)))
  h _
theorem F15_calls {R : ER} {x0 x1 : Value} {w : World} (h : F15 R x0 x1 w) : Calls Pg 15 ⟨[x0, x1]⟩ w R :=
  calls_of_den Tryz.func15 (by kernel_rfl) (by kernel_rfl) (F15_den R x0 x1) h
/-! ### 16: channels_Table_Waiting -/
def F16_j3 (R : ER) (x4 x5 : Value) : WP :=
  R (.returned (.tuple ⟨[x4, x5]⟩))
theorem F16_j3_ok (R : ER) (e : Env) : den Pg R (cd Tryz.f16 [1,1,1,1]) e (kont Pg R Tryz.f16) = (F16_j3 R (e 4) (e 5)) := by kernel_rfl
def F16_j6 (R : ER) (k1 : V5) (x4 x5 x49 x50 x51 : Value) : WP :=
  pv (ixS 11 x49 x51) fun v1 =>
  ldN 11 v1 fun v2 =>
  al Pg 110 fun v3 =>
  stN 11 v3 v2 fun _ =>
  pv (faO 2 v3) fun v4 =>
  ld1 v4 fun v5 =>
  valV Pg R (Instr.buildSlice 50 1 ⟨[(0, v5)]⟩) fun v6 =>
  blt Pg R .append ⟨[50,50]⟩ 50 ⟨[false, false]⟩ ⟨[x5, v6]⟩ fun v7 =>
  pv (bin .add x51 (.int .i64 1)) fun v8 =>
  k1 x4 v7 x49 x50 v8
theorem F16_j6_ok (R : ER) (k1 : V5) (e : Env) : den Pg R (cd Tryz.f16 [1,1,1,0,1,0,0,1,1]) e (setN (inB 2 (setN (kont Pg R Tryz.f16) (fun e => F16_j3 R (e 4) (e 5)))) (fun e => k1 (e 4) (e 5) (e 49) (e 50) (e 51))) = (F16_j6 R k1 (e 4) (e 5) (e 49) (e 50) (e 51)) := by kernel_rfl
def F16_b1 (R : ER) (k1 : V5) (x4 x5 x49 x50 x51 : Value) : WP :=
  pv (bin .lss x51 x50) fun v9 =>
  cnd v9 (
   F16_j6 R k1 x4 x5 x49 x50 x51) (
   F16_j3 R x4 x5)
theorem F16_b1_ok (R : ER) (k1 : V5) (e : Env) : den Pg R (cd Tryz.f16 [1,1,1,0,1,0,0]) e (setN (inB 2 (setN (kont Pg R Tryz.f16) (fun e => F16_j3 R (e 4) (e 5)))) (fun e => k1 (e 4) (e 5) (e 49) (e 50) (e 51))) = (F16_b1 R k1 (e 4) (e 5) (e 49) (e 50) (e 51)) := (den_join Pg R 1 (cd Tryz.f16 [1,1,1,0,1,0,0]) (cd Tryz.f16 [1,1,1,0,1,0,0,1,1]) e (setN (inB 2 (setN (kont Pg R Tryz.f16) (fun e => F16_j3 R (e 4) (e 5)))) (fun e => k1 (e 4) (e 5) (e 49) (e 50) (e 51))) (fun e => F16_j6 R k1 (e 4) (e 5) (e 49) (e 50) (e 51)) _ (by kernel_rfl) (fun e => F16_j6_ok R k1 e) (by kernel_rfl))
noncomputable def F16_l1 (R : ER) (n : Nat) : V5 := Nat.rec (motive := fun _ => V5) (fun _ _ _ _ _ => fun _ => False) (fun _ ih => fun x4 x5 x49 x50 x51 => F16_b1 R ih x4 x5 x49 x50 x51) n
theorem F16_l1_succ (R : ER) (n : Nat) (x4 x5 x49 x50 x51 : Value) : F16_l1 R (n + 1) x4 x5 x49 x50 x51 = F16_b1 R (F16_l1 R n) x4 x5 x49 x50 x51 := rfl
theorem F16_l1_ok (R : ER) : ∀ (n : Nat) (e : Env), iterL (den Pg R (cd Tryz.f16 [1,1,1,0,1,0,0])) n e (inB 2 (setN (kont Pg R Tryz.f16) (fun e => F16_j3 R (e 4) (e 5)))) = F16_l1 R n (e 4) (e 5) (e 49) (e 50) (e 51) :=
  iterL_join (den Pg R (cd Tryz.f16 [1,1,1,0,1,0,0])) (inB 2 (setN (kont Pg R Tryz.f16) (fun e => F16_j3 R (e 4) (e 5)))) (fun n e => F16_l1 R n (e 4) (e 5) (e 49) (e 50) (e 51)) (fun _ => rfl) (fun n e => (F16_b1_ok R (F16_l1 R n) e).trans (F16_l1_succ R n (e 4) (e 5) (e 49) (e 50) (e 51)).symm)
def F16_j5 (R : ER) (x4 x5 x49 x50 x51 : Value) : WP :=
  exN fun n => F16_l1 R n x4 x5 x49 x50 x51
theorem F16_j5_ok (R : ER) (e : Env) : den Pg R (cd Tryz.f16 [1,1,1,0,1]) e (setN (kont Pg R Tryz.f16) (fun e => F16_j3 R (e 4) (e 5))) = (F16_j5 R (e 4) (e 5) (e 49) (e 50) (e 51)) := (den_block Pg R (cd Tryz.f16 [1,1,1,0,1]) 2 (cd Tryz.f16 [1,1,1,0,1,0]) e (setN (kont Pg R Tryz.f16) (fun e => F16_j3 R (e 4) (e 5))) _ (by kernel_rfl) (den_loop Pg R (cd Tryz.f16 [1,1,1,0,1,0]) (cd Tryz.f16 [1,1,1,0,1,0,0]) e (inB 2 (setN (kont Pg R Tryz.f16) (fun e => F16_j3 R (e 4) (e 5)))) (fun n e => F16_l1 R n (e 4) (e 5) (e 49) (e 50) (e 51)) _ (by kernel_rfl) (F16_l1_ok R) (by kernel_rfl)))
def F16_j4 (R : ER) (x0 x1 x4 x5 : Value) : WP :=
  pv (nilO x0) fun v10 =>
  pv (faO 0 v10) fun v11 =>
  ld1 v11 fun v12 =>
  valV Pg R (Instr.lookup 81 v12 x1 false) fun v13 =>
  pv (nilO v13) fun v14 =>
  pv (faO 3 v14) fun v15 =>
  ld1 v15 fun v16 =>
  pv (lenS v16) fun v17 =>
  F16_j5 R x4 x5 v16 v17 (.int .i64 0)
theorem F16_j4_ok (R : ER) (e : Env) : den Pg R (cd Tryz.f16 [1,1,1,0]) e (setN (kont Pg R Tryz.f16) (fun e => F16_j3 R (e 4) (e 5))) = (F16_j4 R (e 0) (e 1) (e 4) (e 5)) := (den_join Pg R 0 (cd Tryz.f16 [1,1,1,0]) (cd Tryz.f16 [1,1,1,0,1]) e (setN (kont Pg R Tryz.f16) (fun e => F16_j3 R (e 4) (e 5))) (fun e => F16_j5 R (e 4) (e 5) (e 49) (e 50) (e 51)) _ (by kernel_rfl) (fun e => F16_j5_ok R e) (by kernel_rfl))
def F16_j2 (R : ER) (x0 x1 x4 x5 : Value) : WP :=
  F16_j4 R x0 x1 x4 x5
theorem F16_j2_ok (R : ER) (e : Env) : den Pg R (cd Tryz.f16 [1,1,1]) e (kont Pg R Tryz.f16) = (F16_j2 R (e 0) (e 1) (e 4) (e 5)) := (den_join Pg R 0 (cd Tryz.f16 [1,1,1]) (cd Tryz.f16 [1,1,1,1]) e (kont Pg R Tryz.f16) (fun e => F16_j3 R (e 4) (e 5)) _ (by kernel_rfl) (fun e => F16_j3_ok R e) (den_conv Pg R (pre 0 (cd Tryz.f16 [1,1,1])) (cd Tryz.f16 [1,1,1,0]) e (setN (kont Pg R Tryz.f16) (fun e => F16_j3 R (e 4) (e 5))) _ (by kernel_rfl) (F16_j4_ok R e)))
def F16_j9 (R : ER) (k1 : V7) (x0 x1 x4 x5 x29 x30 x31 : Value) : WP :=
  pv (ixS 4 x29 x31) fun v18 =>
  ldN 4 v18 fun v19 =>
  al Pg 107 fun v20 =>
  stN 4 v20 v19 fun _ =>
  pv (faO 2 v20) fun v21 =>
  ld1 v21 fun v22 =>
  valV Pg R (Instr.buildSlice 50 1 ⟨[(0, v22)]⟩) fun v23 =>
  blt Pg R .append ⟨[50,50]⟩ 50 ⟨[false, false]⟩ ⟨[x4, v23]⟩ fun v24 =>
  pv (bin .add x31 (.int .i64 1)) fun v25 =>
  k1 x0 x1 v24 x5 x29 x30 v25
theorem F16_j9_ok (R : ER) (k1 : V7) (e : Env) : den Pg R (cd Tryz.f16 [1,1,0,1,0,0,1,1]) e (setN (inB 0 (setN (kont Pg R Tryz.f16) (fun e => F16_j2 R (e 0) (e 1) (e 4) (e 5)))) (fun e => k1 (e 0) (e 1) (e 4) (e 5) (e 29) (e 30) (e 31))) = (F16_j9 R k1 (e 0) (e 1) (e 4) (e 5) (e 29) (e 30) (e 31)) := by kernel_rfl
def F16_b2 (R : ER) (k1 : V7) (x0 x1 x4 x5 x29 x30 x31 : Value) : WP :=
  pv (bin .lss x31 x30) fun v26 =>
  cnd v26 (
   F16_j9 R k1 x0 x1 x4 x5 x29 x30 x31) (
   F16_j2 R x0 x1 x4 x5)
theorem F16_b2_ok (R : ER) (k1 : V7) (e : Env) : den Pg R (cd Tryz.f16 [1,1,0,1,0,0]) e (setN (inB 0 (setN (kont Pg R Tryz.f16) (fun e => F16_j2 R (e 0) (e 1) (e 4) (e 5)))) (fun e => k1 (e 0) (e 1) (e 4) (e 5) (e 29) (e 30) (e 31))) = (F16_b2 R k1 (e 0) (e 1) (e 4) (e 5) (e 29) (e 30) (e 31)) := (den_join Pg R 1 (cd Tryz.f16 [1,1,0,1,0,0]) (cd Tryz.f16 [1,1,0,1,0,0,1,1]) e (setN (inB 0 (setN (kont Pg R Tryz.f16) (fun e => F16_j2 R (e 0) (e 1) (e 4) (e 5)))) (fun e => k1 (e 0) (e 1) (e 4) (e 5) (e 29) (e 30) (e 31))) (fun e => F16_j9 R k1 (e 0) (e 1) (e 4) (e 5) (e 29) (e 30) (e 31)) _ (by kernel_rfl) (fun e => F16_j9_ok R k1 e) (by kernel_rfl))
noncomputable def F16_l2 (R : ER) (n : Nat) : V7 := Nat.rec (motive := fun _ => V7) (fun _ _ _ _ _ _ _ => fun _ => False) (fun _ ih => fun x0 x1 x4 x5 x29 x30 x31 => F16_b2 R ih x0 x1 x4 x5 x29 x30 x31) n
theorem F16_l2_succ (R : ER) (n : Nat) (x0 x1 x4 x5 x29 x30 x31 : Value) : F16_l2 R (n + 1) x0 x1 x4 x5 x29 x30 x31 = F16_b2 R (F16_l2 R n) x0 x1 x4 x5 x29 x30 x31 := rfl
theorem F16_l2_ok (R : ER) : ∀ (n : Nat) (e : Env), iterL (den Pg R (cd Tryz.f16 [1,1,0,1,0,0])) n e (inB 0 (setN (kont Pg R Tryz.f16) (fun e => F16_j2 R (e 0) (e 1) (e 4) (e 5)))) = F16_l2 R n (e 0) (e 1) (e 4) (e 5) (e 29) (e 30) (e 31) :=
  iterL_join (den Pg R (cd Tryz.f16 [1,1,0,1,0,0])) (inB 0 (setN (kont Pg R Tryz.f16) (fun e => F16_j2 R (e 0) (e 1) (e 4) (e 5)))) (fun n e => F16_l2 R n (e 0) (e 1) (e 4) (e 5) (e 29) (e 30) (e 31)) (fun _ => rfl) (fun n e => (F16_b2_ok R (F16_l2 R n) e).trans (F16_l2_succ R n (e 0) (e 1) (e 4) (e 5) (e 29) (e 30) (e 31)).symm)
def F16_j8 (R : ER) (x0 x1 x4 x5 x29 x30 x31 : Value) : WP :=
  exN fun n => F16_l2 R n x0 x1 x4 x5 x29 x30 x31
theorem F16_j8_ok (R : ER) (e : Env) : den Pg R (cd Tryz.f16 [1,1,0,1]) e (setN (kont Pg R Tryz.f16) (fun e => F16_j2 R (e 0) (e 1) (e 4) (e 5))) = (F16_j8 R (e 0) (e 1) (e 4) (e 5) (e 29) (e 30) (e 31)) := (den_block Pg R (cd Tryz.f16 [1,1,0,1]) 0 (cd Tryz.f16 [1,1,0,1,0]) e (setN (kont Pg R Tryz.f16) (fun e => F16_j2 R (e 0) (e 1) (e 4) (e 5))) _ (by kernel_rfl) (den_loop Pg R (cd Tryz.f16 [1,1,0,1,0]) (cd Tryz.f16 [1,1,0,1,0,0]) e (inB 0 (setN (kont Pg R Tryz.f16) (fun e => F16_j2 R (e 0) (e 1) (e 4) (e 5)))) (fun n e => F16_l2 R n (e 0) (e 1) (e 4) (e 5) (e 29) (e 30) (e 31)) _ (by kernel_rfl) (F16_l2_ok R) (by kernel_rfl)))
def F16_j7 (R : ER) (x0 x1 x4 x5 : Value) : WP :=
  pv (nilO x0) fun v27 =>
  pv (faO 0 v27) fun v28 =>
  ld1 v28 fun v29 =>
  valV Pg R (Instr.lookup 81 v29 x1 false) fun v30 =>
  pv (nilO v30) fun v31 =>
  pv (faO 4 v31) fun v32 =>
  ld1 v32 fun v33 =>
  pv (lenS v33) fun v34 =>
  F16_j8 R x0 x1 x4 x5 v33 v34 (.int .i64 0)
theorem F16_j7_ok (R : ER) (e : Env) : den Pg R (cd Tryz.f16 [1,1,0]) e (setN (kont Pg R Tryz.f16) (fun e => F16_j2 R (e 0) (e 1) (e 4) (e 5))) = (F16_j7 R (e 0) (e 1) (e 4) (e 5)) := (den_join Pg R 0 (cd Tryz.f16 [1,1,0]) (cd Tryz.f16 [1,1,0,1]) e (setN (kont Pg R Tryz.f16) (fun e => F16_j2 R (e 0) (e 1) (e 4) (e 5))) (fun e => F16_j8 R (e 0) (e 1) (e 4) (e 5) (e 29) (e 30) (e 31)) _ (by kernel_rfl) (fun e => F16_j8_ok R e) (by kernel_rfl))
def F16_j1 (R : ER) (x0 x1 x4 x5 : Value) : WP :=
  F16_j7 R x0 x1 x4 x5
theorem F16_j1_ok (R : ER) (e : Env) : den Pg R (cd Tryz.f16 [1,1]) e (kont Pg R Tryz.f16) = (F16_j1 R (e 0) (e 1) (e 4) (e 5)) := (den_join Pg R 0 (cd Tryz.f16 [1,1]) (cd Tryz.f16 [1,1,1]) e (kont Pg R Tryz.f16) (fun e => F16_j2 R (e 0) (e 1) (e 4) (e 5)) _ (by kernel_rfl) (fun e => F16_j2_ok R e) (den_conv Pg R (pre 0 (cd Tryz.f16 [1,1])) (cd Tryz.f16 [1,1,0]) e (setN (kont Pg R Tryz.f16) (fun e => F16_j2 R (e 0) (e 1) (e 4) (e 5))) _ (by kernel_rfl) (F16_j7_ok R e)))
def F16_j10 (R : ER) (x0 x1 x4 x5 : Value) : WP :=
  pv (eqNilP x0) fun v35 =>
  gd v35 false (pv (some x0)) fun v36 =>
  gd v35 false (pv (nilO v36)) fun v37 =>
  gd v35 false (pv (faO 0 v37)) fun v38 =>
  gd v35 false (ld1 v38) fun v39 =>
  gd v35 false (pv (some x1)) fun v40 =>
  gd v35 false (valV Pg R (Instr.lookup 81 v39 v40 false)) fun v41 =>
  gd v35 false (pv (eqNilP v41)) fun v42 =>
  pv (pickO v35 (.bool true) v42) fun v43 =>
  cnd v43 (
   R (.returned (.tuple ⟨[(.slice none 0 0), (.slice none 0 0)]⟩))) (
   F16_j1 R x0 x1 x4 x5)
theorem F16_j10_ok (R : ER) (e : Env) : den Pg R (cd Tryz.f16 [1,0]) e (setN (kont Pg R Tryz.f16) (fun e => F16_j1 R (e 0) (e 1) (e 4) (e 5))) = (F16_j10 R (e 0) (e 1) (e 4) (e 5)) := (by kernel_rfl)
def F16 (R : ER) (x0 x1 : Value) : WP :=
  F16_j10 R x0 x1 (.slice none 0 0) (.slice none 0 0)
theorem F16_den (R : ER) (x0 x1 : Value) : den Pg R (cd Tryz.f16 []) (argsEnv [x0, x1]) (kont Pg R Tryz.f16) = F16 R x0 x1 :=
  have h : ∀ e, den Pg R (cd Tryz.f16 []) e (kont Pg R Tryz.f16) = F16 R (e 0) (e 1) := fun e => (den_join Pg R 1 (cd Tryz.f16 []) (cd Tryz.f16 [1,1]) e (kont Pg R Tryz.f16) (fun e => F16_j1 R (e 0) (e 1) (e 4) (e 5)) _ (by kernel_rfl) (fun e => F16_j1_ok R e) (den_join Pg R 0 (pre 1 (cd Tryz.f16 [])) (cd Tryz.f16 [1,0]) e (setN (kont Pg R Tryz.f16) (fun e => F16_j1 R (e 0) (e 1) (e 4) (e 5))) (fun e => F16_j10 R (e 0) (e 1) (e 4) (e 5)) _ (by kernel_rfl) (fun e => F16_j10_ok R e) (by kernel_rfl)))
  h _
theorem F16_calls {R : ER} {x0 x1 : Value} {w : World} (h : F16 R x0 x1 w) : Calls Pg 16 ⟨[x0, x1]⟩ w R :=
  calls_of_den Tryz.func16 (by kernel_rfl) (by kernel_rfl) (F16_den R x0 x1) h
/-! ### 17: channels_Table_Edges -/
def F17_j2 (R : ER) (x3 : Value) : WP :=
  cal Pg R 40 ⟨[x3, (.func (.func 41) ⟨[]⟩ ⟨[]⟩)]⟩ fun v1 =>
  cal Pg R 44 ⟨[x3]⟩ fun v2 =>
  R (.returned v2)
theorem F17_j2_ok (R : ER) (e : Env) : den Pg R (cd Tryz.f17 [1,1,1,1]) e (kont Pg R Tryz.f17) = (F17_j2 R (e 3)) := by kernel_rfl
def F17_j6 (R : ER) (k1 : V4) (x3 x13 x14 x15 : Value) : WP :=
  pv (bin .add x15 (.int .i64 1)) fun v3 =>
  k1 x3 x13 x14 v3
theorem F17_j6_ok (R : ER) (k1 : V4) (e : Env) : den Pg R (cd Tryz.f17 [1,1,1,0,1,0,0,1,1,1]) e (setN (inB 0 (setN (kont Pg R Tryz.f17) (fun e => F17_j2 R (e 3)))) (fun e => k1 (e 3) (e 13) (e 14) (e 15))) = (F17_j6 R k1 (e 3) (e 13) (e 14) (e 15)) := by kernel_rfl
def F17_j10 (R : ER) (k1 : V4) (k2 : V8) (x3 x5 x13 x14 x15 x37 x38 x39 : Value) : WP :=
  pv (bin .add x39 (.int .i64 1)) fun v4 =>
  k2 x3 x5 x13 x14 x15 x37 x38 v4
theorem F17_j10_ok (R : ER) (k1 : V4) (k2 : V8) (e : Env) : den Pg R (cd Tryz.f17 [1,1,1,0,1,0,0,1,1,0,0,1,1,1,0,0,1,1,1]) e (setN (inB 2 (inB 1 (setN (setN (inB 0 (setN (kont Pg R Tryz.f17) (fun e => F17_j2 R (e 3)))) (fun e => k1 (e 3) (e 13) (e 14) (e 15))) (fun e => F17_j6 R k1 (e 3) (e 13) (e 14) (e 15))))) (fun e => k2 (e 3) (e 5) (e 13) (e 14) (e 15) (e 37) (e 38) (e 39))) = (F17_j10 R k1 k2 (e 3) (e 5) (e 13) (e 14) (e 15) (e 37) (e 38) (e 39)) := by kernel_rfl
def F17_j11 (R : ER) (k1 : V4) (k2 : V8) (x3 x5 x13 x14 x15 x37 x38 x39 : Value) : WP :=
  pv (ixS 11 x37 x39) fun v5 =>
  ldN 11 v5 fun v6 =>
  al Pg 110 fun v7 =>
  stN 11 v7 v6 fun _ =>
  pv (faO 2 v7) fun v8 =>
  ld1 v8 fun v9 =>
  pv (bin .neq v9 (.int .i64 (-1))) fun v10 =>
  cnd v10 (
   drewV (
   pv (faO 2 v7) fun v11 =>
   ld1 v11 fun v12 =>
   pv (nilO x5) fun v13 =>
   pv (faO 2 v13) fun v14 =>
   ld1 v14 fun v15 =>
   pv (bldO [.int .i64 0, .int .i64 0] [(0,1, v12), (1,1, v15)]) fun v16 =>
   mem fun w18 => valV Pg noR (Instr.buildSlice 53 1 ⟨[(0, v16)]⟩) fun v17 =>
   mem fun w20 => blt Pg noR .append ⟨[53,53]⟩ 53 ⟨[false, false]⟩ ⟨[x3, v17]⟩ fun v19 =>
   F17_j10 R k1 k2 v19 x5 x13 x14 x15 x37 x38 x39)) (
   F17_j10 R k1 k2 x3 x5 x13 x14 x15 x37 x38 x39)
theorem F17_j11_ok (R : ER) (k1 : V4) (k2 : V8) (e : Env) : den Pg R (cd Tryz.f17 [1,1,1,0,1,0,0,1,1,0,0,1,1,1,0,0,1,1,0]) e (setN (setN (inB 2 (inB 1 (setN (setN (inB 0 (setN (kont Pg R Tryz.f17) (fun e => F17_j2 R (e 3)))) (fun e => k1 (e 3) (e 13) (e 14) (e 15))) (fun e => F17_j6 R k1 (e 3) (e 13) (e 14) (e 15))))) (fun e => k2 (e 3) (e 5) (e 13) (e 14) (e 15) (e 37) (e 38) (e 39))) (fun e => F17_j10 R k1 k2 (e 3) (e 5) (e 13) (e 14) (e 15) (e 37) (e 38) (e 39))) = (F17_j11 R k1 k2 (e 3) (e 5) (e 13) (e 14) (e 15) (e 37) (e 38) (e 39)) := (den_block Pg R (cd Tryz.f17 [1,1,1,0,1,0,0,1,1,0,0,1,1,1,0,0,1,1,0]) 3 (cd Tryz.f17 [1,1,1,0,1,0,0,1,1,0,0,1,1,1,0,0,1,1,0,0]) e (setN (setN (inB 2 (inB 1 (setN (setN (inB 0 (setN (kont Pg R Tryz.f17) (fun e => F17_j2 R (e 3)))) (fun e => k1 (e 3) (e 13) (e 14) (e 15))) (fun e => F17_j6 R k1 (e 3) (e 13) (e 14) (e 15))))) (fun e => k2 (e 3) (e 5) (e 13) (e 14) (e 15) (e 37) (e 38) (e 39))) (fun e => F17_j10 R k1 k2 (e 3) (e 5) (e 13) (e 14) (e 15) (e 37) (e 38) (e 39))) _ (by kernel_rfl) (by kernel_rfl))
def F17_j9 (R : ER) (k1 : V4) (k2 : V8) (x3 x5 x13 x14 x15 x37 x38 x39 : Value) : WP :=
  F17_j11 R k1 k2 x3 x5 x13 x14 x15 x37 x38 x39
theorem F17_j9_ok (R : ER) (k1 : V4) (k2 : V8) (e : Env) : den Pg R (cd Tryz.f17 [1,1,1,0,1,0,0,1,1,0,0,1,1,1,0,0,1,1]) e (setN (inB 2 (inB 1 (setN (setN (inB 0 (setN (kont Pg R Tryz.f17) (fun e => F17_j2 R (e 3)))) (fun e => k1 (e 3) (e 13) (e 14) (e 15))) (fun e => F17_j6 R k1 (e 3) (e 13) (e 14) (e 15))))) (fun e => k2 (e 3) (e 5) (e 13) (e 14) (e 15) (e 37) (e 38) (e 39))) = (F17_j9 R k1 k2 (e 3) (e 5) (e 13) (e 14) (e 15) (e 37) (e 38) (e 39)) := (den_join Pg R 0 (cd Tryz.f17 [1,1,1,0,1,0,0,1,1,0,0,1,1,1,0,0,1,1]) (cd Tryz.f17 [1,1,1,0,1,0,0,1,1,0,0,1,1,1,0,0,1,1,1]) e (setN (inB 2 (inB 1 (setN (setN (inB 0 (setN (kont Pg R Tryz.f17) (fun e => F17_j2 R (e 3)))) (fun e => k1 (e 3) (e 13) (e 14) (e 15))) (fun e => F17_j6 R k1 (e 3) (e 13) (e 14) (e 15))))) (fun e => k2 (e 3) (e 5) (e 13) (e 14) (e 15) (e 37) (e 38) (e 39))) (fun e => F17_j10 R k1 k2 (e 3) (e 5) (e 13) (e 14) (e 15) (e 37) (e 38) (e 39)) _ (by kernel_rfl) (fun e => F17_j10_ok R k1 k2 e) (den_conv Pg R (pre 0 (cd Tryz.f17 [1,1,1,0,1,0,0,1,1,0,0,1,1,1,0,0,1,1])) (cd Tryz.f17 [1,1,1,0,1,0,0,1,1,0,0,1,1,1,0,0,1,1,0]) e (setN (setN (inB 2 (inB 1 (setN (setN (inB 0 (setN (kont Pg R Tryz.f17) (fun e => F17_j2 R (e 3)))) (fun e => k1 (e 3) (e 13) (e 14) (e 15))) (fun e => F17_j6 R k1 (e 3) (e 13) (e 14) (e 15))))) (fun e => k2 (e 3) (e 5) (e 13) (e 14) (e 15) (e 37) (e 38) (e 39))) (fun e => F17_j10 R k1 k2 (e 3) (e 5) (e 13) (e 14) (e 15) (e 37) (e 38) (e 39))) _ (by kernel_rfl) (F17_j11_ok R k1 k2 e)))
def F17_b2 (R : ER) (k1 : V4) (k2 : V8) (x3 x5 x13 x14 x15 x37 x38 x39 : Value) : WP :=
  pv (bin .lss x39 x38) fun v21 =>
  cnd v21 (
   F17_j9 R k1 k2 x3 x5 x13 x14 x15 x37 x38 x39) (
   F17_j6 R k1 x3 x13 x14 x15)
theorem F17_b2_ok (R : ER) (k1 : V4) (k2 : V8) (e : Env) : den Pg R (cd Tryz.f17 [1,1,1,0,1,0,0,1,1,0,0,1,1,1,0,0]) e (setN (inB 2 (inB 1 (setN (setN (inB 0 (setN (kont Pg R Tryz.f17) (fun e => F17_j2 R (e 3)))) (fun e => k1 (e 3) (e 13) (e 14) (e 15))) (fun e => F17_j6 R k1 (e 3) (e 13) (e 14) (e 15))))) (fun e => k2 (e 3) (e 5) (e 13) (e 14) (e 15) (e 37) (e 38) (e 39))) = (F17_b2 R k1 k2 (e 3) (e 5) (e 13) (e 14) (e 15) (e 37) (e 38) (e 39)) := (den_join Pg R 1 (cd Tryz.f17 [1,1,1,0,1,0,0,1,1,0,0,1,1,1,0,0]) (cd Tryz.f17 [1,1,1,0,1,0,0,1,1,0,0,1,1,1,0,0,1,1]) e (setN (inB 2 (inB 1 (setN (setN (inB 0 (setN (kont Pg R Tryz.f17) (fun e => F17_j2 R (e 3)))) (fun e => k1 (e 3) (e 13) (e 14) (e 15))) (fun e => F17_j6 R k1 (e 3) (e 13) (e 14) (e 15))))) (fun e => k2 (e 3) (e 5) (e 13) (e 14) (e 15) (e 37) (e 38) (e 39))) (fun e => F17_j9 R k1 k2 (e 3) (e 5) (e 13) (e 14) (e 15) (e 37) (e 38) (e 39)) _ (by kernel_rfl) (fun e => F17_j9_ok R k1 k2 e) (by kernel_rfl))
noncomputable def F17_l1 (R : ER) (k1 : V4) (n : Nat) : V8 := Nat.rec (motive := fun _ => V8) (fun _ _ _ _ _ _ _ _ => fun _ => False) (fun _ ih => fun x3 x5 x13 x14 x15 x37 x38 x39 => F17_b2 R k1 ih x3 x5 x13 x14 x15 x37 x38 x39) n
theorem F17_l1_succ (R : ER) (k1 : V4) (n : Nat) (x3 x5 x13 x14 x15 x37 x38 x39 : Value) : F17_l1 R k1 (n + 1) x3 x5 x13 x14 x15 x37 x38 x39 = F17_b2 R k1 (F17_l1 R k1 n) x3 x5 x13 x14 x15 x37 x38 x39 := rfl
theorem F17_l1_ok (R : ER) (k1 : V4) : ∀ (n : Nat) (e : Env), iterL (den Pg R (cd Tryz.f17 [1,1,1,0,1,0,0,1,1,0,0,1,1,1,0,0])) n e (inB 2 (inB 1 (setN (setN (inB 0 (setN (kont Pg R Tryz.f17) (fun e => F17_j2 R (e 3)))) (fun e => k1 (e 3) (e 13) (e 14) (e 15))) (fun e => F17_j6 R k1 (e 3) (e 13) (e 14) (e 15))))) = F17_l1 R k1 n (e 3) (e 5) (e 13) (e 14) (e 15) (e 37) (e 38) (e 39) :=
  iterL_join (den Pg R (cd Tryz.f17 [1,1,1,0,1,0,0,1,1,0,0,1,1,1,0,0])) (inB 2 (inB 1 (setN (setN (inB 0 (setN (kont Pg R Tryz.f17) (fun e => F17_j2 R (e 3)))) (fun e => k1 (e 3) (e 13) (e 14) (e 15))) (fun e => F17_j6 R k1 (e 3) (e 13) (e 14) (e 15))))) (fun n e => F17_l1 R k1 n (e 3) (e 5) (e 13) (e 14) (e 15) (e 37) (e 38) (e 39)) (fun _ => rfl) (fun n e => (F17_b2_ok R k1 (F17_l1 R k1 n) e).trans (F17_l1_succ R k1 n (e 3) (e 5) (e 13) (e 14) (e 15) (e 37) (e 38) (e 39)).symm)
def F17_j8 (R : ER) (k1 : V4) (x3 x5 x13 x14 x15 x37 x38 x39 : Value) : WP :=
  exN fun n => F17_l1 R k1 n x3 x5 x13 x14 x15 x37 x38 x39
theorem F17_j8_ok (R : ER) (k1 : V4) (e : Env) : den Pg R (cd Tryz.f17 [1,1,1,0,1,0,0,1,1,0,0,1,1,1]) e (inB 1 (setN (setN (inB 0 (setN (kont Pg R Tryz.f17) (fun e => F17_j2 R (e 3)))) (fun e => k1 (e 3) (e 13) (e 14) (e 15))) (fun e => F17_j6 R k1 (e 3) (e 13) (e 14) (e 15)))) = (F17_j8 R k1 (e 3) (e 5) (e 13) (e 14) (e 15) (e 37) (e 38) (e 39)) := (den_block Pg R (cd Tryz.f17 [1,1,1,0,1,0,0,1,1,0,0,1,1,1]) 2 (cd Tryz.f17 [1,1,1,0,1,0,0,1,1,0,0,1,1,1,0]) e (inB 1 (setN (setN (inB 0 (setN (kont Pg R Tryz.f17) (fun e => F17_j2 R (e 3)))) (fun e => k1 (e 3) (e 13) (e 14) (e 15))) (fun e => F17_j6 R k1 (e 3) (e 13) (e 14) (e 15)))) _ (by kernel_rfl) (den_loop Pg R (cd Tryz.f17 [1,1,1,0,1,0,0,1,1,0,0,1,1,1,0]) (cd Tryz.f17 [1,1,1,0,1,0,0,1,1,0,0,1,1,1,0,0]) e (inB 2 (inB 1 (setN (setN (inB 0 (setN (kont Pg R Tryz.f17) (fun e => F17_j2 R (e 3)))) (fun e => k1 (e 3) (e 13) (e 14) (e 15))) (fun e => F17_j6 R k1 (e 3) (e 13) (e 14) (e 15))))) (fun n e => F17_l1 R k1 n (e 3) (e 5) (e 13) (e 14) (e 15) (e 37) (e 38) (e 39)) _ (by kernel_rfl) (F17_l1_ok R k1) (by kernel_rfl)))
def F17_j7 (R : ER) (k1 : V4) (x3 x13 x14 x15 : Value) : WP :=
  pv (ixS 1 x13 x15) fun v22 =>
  ld1 v22 fun v23 =>
  drewV (
  pv (nilO v23) fun v24 =>
  pv (faO 1 v24) fun v25 =>
  ld1 v25 fun v26 =>
  pv (nilO v23) fun v27 =>
  pv (faO 2 v27) fun v28 =>
  ld1 v28 fun v29 =>
  pv (bldO [.int .i64 0, .int .i64 0] [(0,1, v26), (1,1, v29)]) fun v30 =>
  mem fun w32 => valV Pg noR (Instr.buildSlice 53 1 ⟨[(0, v30)]⟩) fun v31 =>
  mem fun w34 => blt Pg noR .append ⟨[53,53]⟩ 53 ⟨[false, false]⟩ ⟨[x3, v31]⟩ fun v33 =>
  pv (nilO v23) fun v35 =>
  pv (faO 4 v35) fun v36 =>
  ld1 v36 fun v37 =>
  pv (nilO v37) fun v38 =>
  pv (faO 3 v38) fun v39 =>
  ld1 v39 fun v40 =>
  pv (lenS v40) fun v41 =>
  F17_j8 R k1 v33 v23 x13 x14 x15 v40 v41 (.int .i64 0))
theorem F17_j7_ok (R : ER) (k1 : V4) (e : Env) : den Pg R (cd Tryz.f17 [1,1,1,0,1,0,0,1,1,0]) e (setN (setN (inB 0 (setN (kont Pg R Tryz.f17) (fun e => F17_j2 R (e 3)))) (fun e => k1 (e 3) (e 13) (e 14) (e 15))) (fun e => F17_j6 R k1 (e 3) (e 13) (e 14) (e 15))) = (F17_j7 R k1 (e 3) (e 13) (e 14) (e 15)) := (den_block Pg R (cd Tryz.f17 [1,1,1,0,1,0,0,1,1,0]) 1 (cd Tryz.f17 [1,1,1,0,1,0,0,1,1,0,0]) e (setN (setN (inB 0 (setN (kont Pg R Tryz.f17) (fun e => F17_j2 R (e 3)))) (fun e => k1 (e 3) (e 13) (e 14) (e 15))) (fun e => F17_j6 R k1 (e 3) (e 13) (e 14) (e 15))) _ (by kernel_rfl) (den_join Pg R 2 (cd Tryz.f17 [1,1,1,0,1,0,0,1,1,0,0]) (cd Tryz.f17 [1,1,1,0,1,0,0,1,1,0,0,1,1,1]) e (inB 1 (setN (setN (inB 0 (setN (kont Pg R Tryz.f17) (fun e => F17_j2 R (e 3)))) (fun e => k1 (e 3) (e 13) (e 14) (e 15))) (fun e => F17_j6 R k1 (e 3) (e 13) (e 14) (e 15)))) (fun e => F17_j8 R k1 (e 3) (e 5) (e 13) (e 14) (e 15) (e 37) (e 38) (e 39)) _ (by kernel_rfl) (fun e => F17_j8_ok R k1 e) (by kernel_rfl)))
def F17_j5 (R : ER) (k1 : V4) (x3 x13 x14 x15 : Value) : WP :=
  F17_j7 R k1 x3 x13 x14 x15
theorem F17_j5_ok (R : ER) (k1 : V4) (e : Env) : den Pg R (cd Tryz.f17 [1,1,1,0,1,0,0,1,1]) e (setN (inB 0 (setN (kont Pg R Tryz.f17) (fun e => F17_j2 R (e 3)))) (fun e => k1 (e 3) (e 13) (e 14) (e 15))) = (F17_j5 R k1 (e 3) (e 13) (e 14) (e 15)) := (den_join Pg R 0 (cd Tryz.f17 [1,1,1,0,1,0,0,1,1]) (cd Tryz.f17 [1,1,1,0,1,0,0,1,1,1]) e (setN (inB 0 (setN (kont Pg R Tryz.f17) (fun e => F17_j2 R (e 3)))) (fun e => k1 (e 3) (e 13) (e 14) (e 15))) (fun e => F17_j6 R k1 (e 3) (e 13) (e 14) (e 15)) _ (by kernel_rfl) (fun e => F17_j6_ok R k1 e) (den_conv Pg R (pre 0 (cd Tryz.f17 [1,1,1,0,1,0,0,1,1])) (cd Tryz.f17 [1,1,1,0,1,0,0,1,1,0]) e (setN (setN (inB 0 (setN (kont Pg R Tryz.f17) (fun e => F17_j2 R (e 3)))) (fun e => k1 (e 3) (e 13) (e 14) (e 15))) (fun e => F17_j6 R k1 (e 3) (e 13) (e 14) (e 15))) _ (by kernel_rfl) (F17_j7_ok R k1 e)))
def F17_b1 (R : ER) (k1 : V4) (x3 x13 x14 x15 : Value) : WP :=
  pv (bin .lss x15 x14) fun v42 =>
  cnd v42 (
   F17_j5 R k1 x3 x13 x14 x15) (
   F17_j2 R x3)
theorem F17_b1_ok (R : ER) (k1 : V4) (e : Env) : den Pg R (cd Tryz.f17 [1,1,1,0,1,0,0]) e (setN (inB 0 (setN (kont Pg R Tryz.f17) (fun e => F17_j2 R (e 3)))) (fun e => k1 (e 3) (e 13) (e 14) (e 15))) = (F17_b1 R k1 (e 3) (e 13) (e 14) (e 15)) := (den_join Pg R 1 (cd Tryz.f17 [1,1,1,0,1,0,0]) (cd Tryz.f17 [1,1,1,0,1,0,0,1,1]) e (setN (inB 0 (setN (kont Pg R Tryz.f17) (fun e => F17_j2 R (e 3)))) (fun e => k1 (e 3) (e 13) (e 14) (e 15))) (fun e => F17_j5 R k1 (e 3) (e 13) (e 14) (e 15)) _ (by kernel_rfl) (fun e => F17_j5_ok R k1 e) (by kernel_rfl))
noncomputable def F17_l2 (R : ER) (n : Nat) : V4 := Nat.rec (motive := fun _ => V4) (fun _ _ _ _ => fun _ => False) (fun _ ih => fun x3 x13 x14 x15 => F17_b1 R ih x3 x13 x14 x15) n
theorem F17_l2_succ (R : ER) (n : Nat) (x3 x13 x14 x15 : Value) : F17_l2 R (n + 1) x3 x13 x14 x15 = F17_b1 R (F17_l2 R n) x3 x13 x14 x15 := rfl
theorem F17_l2_ok (R : ER) : ∀ (n : Nat) (e : Env), iterL (den Pg R (cd Tryz.f17 [1,1,1,0,1,0,0])) n e (inB 0 (setN (kont Pg R Tryz.f17) (fun e => F17_j2 R (e 3)))) = F17_l2 R n (e 3) (e 13) (e 14) (e 15) :=
  iterL_join (den Pg R (cd Tryz.f17 [1,1,1,0,1,0,0])) (inB 0 (setN (kont Pg R Tryz.f17) (fun e => F17_j2 R (e 3)))) (fun n e => F17_l2 R n (e 3) (e 13) (e 14) (e 15)) (fun _ => rfl) (fun n e => (F17_b1_ok R (F17_l2 R n) e).trans (F17_l2_succ R n (e 3) (e 13) (e 14) (e 15)).symm)
def F17_j4 (R : ER) (x3 x13 x14 x15 : Value) : WP :=
  exN fun n => F17_l2 R n x3 x13 x14 x15
theorem F17_j4_ok (R : ER) (e : Env) : den Pg R (cd Tryz.f17 [1,1,1,0,1]) e (setN (kont Pg R Tryz.f17) (fun e => F17_j2 R (e 3))) = (F17_j4 R (e 3) (e 13) (e 14) (e 15)) := (den_block Pg R (cd Tryz.f17 [1,1,1,0,1]) 0 (cd Tryz.f17 [1,1,1,0,1,0]) e (setN (kont Pg R Tryz.f17) (fun e => F17_j2 R (e 3))) _ (by kernel_rfl) (den_loop Pg R (cd Tryz.f17 [1,1,1,0,1,0]) (cd Tryz.f17 [1,1,1,0,1,0,0]) e (inB 0 (setN (kont Pg R Tryz.f17) (fun e => F17_j2 R (e 3)))) (fun n e => F17_l2 R n (e 3) (e 13) (e 14) (e 15)) _ (by kernel_rfl) (F17_l2_ok R) (by kernel_rfl)))
def F17_j3 (R : ER) (x0 x3 : Value) : WP :=
  pv (nilO x0) fun v43 =>
  pv (faO 3 v43) fun v44 =>
  ld1 v44 fun v45 =>
  pv (lenS v45) fun v46 =>
  F17_j4 R x3 v45 v46 (.int .i64 0)
theorem F17_j3_ok (R : ER) (e : Env) : den Pg R (cd Tryz.f17 [1,1,1,0]) e (setN (kont Pg R Tryz.f17) (fun e => F17_j2 R (e 3))) = (F17_j3 R (e 0) (e 3)) := (den_join Pg R 0 (cd Tryz.f17 [1,1,1,0]) (cd Tryz.f17 [1,1,1,0,1]) e (setN (kont Pg R Tryz.f17) (fun e => F17_j2 R (e 3))) (fun e => F17_j4 R (e 3) (e 13) (e 14) (e 15)) _ (by kernel_rfl) (fun e => F17_j4_ok R e) (by kernel_rfl))
def F17_j1 (R : ER) (x0 : Value) : WP :=
  F17_j3 R x0 (.slice none 0 0)
theorem F17_j1_ok (R : ER) (e : Env) : den Pg R (cd Tryz.f17 [1,1]) e (kont Pg R Tryz.f17) = (F17_j1 R (e 0)) := (den_join Pg R 1 (cd Tryz.f17 [1,1]) (cd Tryz.f17 [1,1,1,1]) e (kont Pg R Tryz.f17) (fun e => F17_j2 R (e 3)) _ (by kernel_rfl) (fun e => F17_j2_ok R e) (den_join Pg R 0 (pre 1 (cd Tryz.f17 [1,1])) (cd Tryz.f17 [1,1,1,0]) e (setN (kont Pg R Tryz.f17) (fun e => F17_j2 R (e 3))) (fun e => F17_j3 R (e 0) (e 3)) _ (by kernel_rfl) (fun e => F17_j3_ok R e) (by kernel_rfl)))
def F17 (R : ER) (x0 : Value) : WP :=
  pv (eqNilP x0) fun v47 =>
  cnd v47 (
   R (.returned (.slice none 0 0))) (
   F17_j1 R x0)
theorem F17_den (R : ER) (x0 : Value) : den Pg R (cd Tryz.f17 []) (argsEnv [x0]) (kont Pg R Tryz.f17) = F17 R x0 :=
  have h : ∀ e, den Pg R (cd Tryz.f17 []) e (kont Pg R Tryz.f17) = F17 R (e 0) := fun e => (den_join Pg R 1 (cd Tryz.f17 []) (cd Tryz.f17 [1,1]) e (kont Pg R Tryz.f17) (fun e => F17_j1 R (e 0)) _ (by kernel_rfl) (fun e => F17_j1_ok R e) (by kernel_rfl))
  h _
theorem F17_calls {R : ER} {x0 : Value} {w : World} (h : F17 R x0 w) : Calls Pg 17 ⟨[x0]⟩ w R :=
  calls_of_den Tryz.func17 (by kernel_rfl) (by kernel_rfl) (F17_den R x0) h
/-! ### 18: channels_Table_Answer -/
def F18_j1 (R : ER) (x0 x1 : Value) : WP :=
  pv (nilO x0) fun v1 =>
  pv (faO 5 v1) fun v2 =>
  ld1 v2 fun v3 =>
  valV Pg R (Instr.lookup 86 v3 x1 true) fun v4 =>
  pv (extO 0 v4) fun v5 =>
  pv (extO 1 v4) fun v6 =>
  cal Pg R 32 ⟨[v5]⟩ fun v7 =>
  R (.returned (.tuple ⟨[v7, v6]⟩))
theorem F18_j1_ok (R : ER) (e : Env) : den Pg R (cd Tryz.f18 [1,1]) e (kont Pg R Tryz.f18) = (F18_j1 R (e 0) (e 1)) := by kernel_rfl
def F18 (R : ER) (x0 x1 : Value) : WP :=
  pv (eqNilP x0) fun v8 =>
  cnd v8 (
   R (.returned (.tuple ⟨[(.slice none 0 0), (.bool false)]⟩))) (
   F18_j1 R x0 x1)
theorem F18_den (R : ER) (x0 x1 : Value) : den Pg R (cd Tryz.f18 []) (argsEnv [x0, x1]) (kont Pg R Tryz.f18) = F18 R x0 x1 :=
  have h : ∀ e, den Pg R (cd Tryz.f18 []) e (kont Pg R Tryz.f18) = F18 R (e 0) (e 1) := fun e => (den_join Pg R 1 (cd Tryz.f18 []) (cd Tryz.f18 [1,1]) e (kont Pg R Tryz.f18) (fun e => F18_j1 R (e 0) (e 1)) _ (by kernel_rfl) (fun e => F18_j1_ok R e) (by kernel_rfl))
  h _
theorem F18_calls {R : ER} {x0 x1 : Value} {w : World} (h : F18 R x0 x1 w) : Calls Pg 18 ⟨[x0, x1]⟩ w R :=
  calls_of_den Tryz.func18 (by kernel_rfl) (by kernel_rfl) (F18_den R x0 x1) h
/-! ### 19: orpimentlaw11_equal -/
def F19 (R : ER) (x0 x1 : Value) : WP :=
  bx 42 x0 fun v1 =>
  bx 42 x1 fun v2 =>
  pv (faO 0 v1) fun v3 =>
  ld1 v3 fun v4 =>
  pv (faO 0 v2) fun v5 =>
  ld1 v5 fun v6 =>
  pv (bin .eql v4 v6) fun v7 =>
  gd v7 true (pv (faO 1 v1)) fun v8 =>
  gd v7 true (ld1 v8) fun v9 =>
  gd v7 true (pv (faO 1 v2)) fun v10 =>
  gd v7 true (ld1 v10) fun v11 =>
  gd v7 true (cal Pg R 45 ⟨[v9, v11]⟩) fun v12 =>
  pv (pickO v7 v12 (.bool false)) fun v13 =>
  gd v13 true (pv (faO 2 v1)) fun v14 =>
  gd v13 true (ldN 10 v14) fun v15 =>
  gd v13 true (pv (faO 2 v2)) fun v16 =>
  gd v13 true (ldN 10 v16) fun v17 =>
  gd v13 true (cal Pg R 46 ⟨[v15, v17]⟩) fun v18 =>
  pv (pickO v13 v18 (.bool false)) fun v19 =>
  gd v19 true (pv (faO 12 v1)) fun v20 =>
  gd v19 true (ld1 v20) fun v21 =>
  gd v19 true (pv (faO 12 v2)) fun v22 =>
  gd v19 true (ld1 v22) fun v23 =>
  gd v19 true (cal Pg R 47 ⟨[v21, v23]⟩) fun v24 =>
  pv (pickO v19 v24 (.bool false)) fun v25 =>
  gd v25 true (pv (faO 13 v1)) fun v26 =>
  gd v25 true (ld1 v26) fun v27 =>
  gd v25 true (pv (faO 13 v2)) fun v28 =>
  gd v25 true (ld1 v28) fun v29 =>
  gd v25 true (pv (binB .eql v27 v29)) fun v30 =>
  pv (pickO v25 v30 (.bool false)) fun v31 =>
  gd v31 true (pv (faO 14 v1)) fun v32 =>
  gd v31 true (ld1 v32) fun v33 =>
  gd v31 true (pv (faO 14 v2)) fun v34 =>
  gd v31 true (ld1 v34) fun v35 =>
  gd v31 true (pv (bin .eql v33 v35)) fun v36 =>
  pv (pickO v31 v36 (.bool false)) fun v37 =>
  R (.returned v37)
theorem F19_den (R : ER) (x0 x1 : Value) : den Pg R (cd Tryz.f19 []) (argsEnv [x0, x1]) (kont Pg R Tryz.f19) = F19 R x0 x1 :=
  have h : ∀ e, den Pg R (cd Tryz.f19 []) e (kont Pg R Tryz.f19) = F19 R (e 0) (e 1) := fun e => by kernel_rfl
  h _
theorem F19_calls {R : ER} {x0 x1 : Value} {w : World} (h : F19 R x0 x1 w) : Calls Pg 19 ⟨[x0, x1]⟩ w R :=
  calls_of_den Tryz.func19 (by kernel_rfl) (by kernel_rfl) (F19_den R x0 x1) h
/-! ### 20: channels_New -/
def F20 (R : ER) : WP :=
  valV Pg R (Instr.makeMap 81 none) fun v1 =>
  valV Pg R (Instr.makeMap 82 none) fun v2 =>
  valV Pg R (Instr.makeMap 83 none) fun v3 =>
  valV Pg R (Instr.makeMap 85 none) fun v4 =>
  valV Pg R (Instr.makeMap 86 none) fun v5 =>
  pv (bldO [.map none, .map none, .map none, .slice none 0 0, .map none, .map none, .int .i64 0, .int .i64 0] [(0,1, v1), (1,1, v2), (2,1, v3), (4,1, v4), (5,1, v5)]) fun v6 =>
  bx 88 v6 fun v7 =>
  R (.returned v7)
theorem F20_den (R : ER) : den Pg R (cd Tryz.f20 []) (argsEnv []) (kont Pg R Tryz.f20) = F20 R :=
  have h : ∀ e, den Pg R (cd Tryz.f20 []) e (kont Pg R Tryz.f20) = F20 R := fun e => by kernel_rfl
  h _
theorem F20_calls {R : ER} {w : World} (h : F20 R w) : Calls Pg 20 ⟨[]⟩ w R :=
  calls_of_den Tryz.func20 (by kernel_rfl) (by kernel_rfl) (F20_den R) h
/-! ### 24: channels_Table_Create -/
def F24_j1 (R : ER) (x0 x1 x2 : Value) : WP :=
  pv (nilO x0) fun v1 =>
  pv (faO 0 v1) fun v2 =>
  ld1 v2 fun v3 =>
  cal Pg R 75 ⟨[v3]⟩ fun v4 =>
  pv (nilO x0) fun v5 =>
  pv (faO 0 v5) fun v6 =>
  ld1 v6 fun v7 =>
  valV Pg R (Instr.makeMap 101 none) fun v8 =>
  pv (bldO [.int .i64 0, .int .i64 0, .bool false, .slice none 0 0, .slice none 0 0, .map none] [(0,1, v4), (1,1, x1), (2,1, x2), (5,1, v8)]) fun v9 =>
  bx 103 v9 fun v10 =>
  unitV Pg R (Instr.mapUpdate 81 v7 v4 v10) fun _ =>
  R (.returned (.tuple ⟨[v4, (.int .i64 0)]⟩))
theorem F24_j1_ok (R : ER) (e : Env) : den Pg R (cd Tryz.f24 [1,1]) e (kont Pg R Tryz.f24) = (F24_j1 R (e 0) (e 1) (e 2)) := by kernel_rfl
def F24_j4 (R : ER) (x0 x1 x2 : Value) : WP :=
  cal Pg R 74 ⟨[x1]⟩ fun v11 =>
  pv (unO .not v11) fun v12 =>
  cnd v12 (
   R (.returned (.tuple ⟨[(.int .i64 0), (.int .i64 34)]⟩))) (
   pv (nilO x0) fun v13 =>
   pv (faO 0 v13) fun v14 =>
   ld1 v14 fun v15 =>
   blt Pg R .len ⟨[81]⟩ 3 ⟨[false]⟩ ⟨[v15]⟩ fun v16 =>
   pv (bin .geq v16 (.int .i64 200)) fun v17 =>
   cnd v17 (
    R (.returned (.tuple ⟨[(.int .i64 0), (.int .i64 18)]⟩))) (
    F24_j1 R x0 x1 x2))
theorem F24_j4_ok (R : ER) (e : Env) : den Pg R (cd Tryz.f24 [1,0,0,1,1]) e (inB 0 (setN (kont Pg R Tryz.f24) (fun e => F24_j1 R (e 0) (e 1) (e 2)))) = (F24_j4 R (e 0) (e 1) (e 2)) := (by kernel_rfl)
def F24_j3 (R : ER) (x0 x1 x2 x9 : Value) : WP :=
  cnd x9 (R (.returned (.tuple ⟨[(.int .i64 0), (.int .i64 35)]⟩))) (F24_j4 R x0 x1 x2)
theorem F24_j3_ok (R : ER) (e : Env) : den Pg R (cd Tryz.f24 [1,0,0,1]) e (inB 0 (setN (kont Pg R Tryz.f24) (fun e => F24_j1 R (e 0) (e 1) (e 2)))) = (F24_j3 R (e 0) (e 1) (e 2) (e 9)) := (den_if Pg R (cd Tryz.f24 [1,0,0,1]) (cd Tryz.f24 [1,0,0,1,0]) (cd Tryz.f24 [1,0,0,1,1]) e (inB 0 (setN (kont Pg R Tryz.f24) (fun e => F24_j1 R (e 0) (e 1) (e 2)))) _ (F24_j4 R (e 0) (e 1) (e 2)) _ (by kernel_rfl) rfl (F24_j4_ok R e) (by kernel_rfl))
def F24_j2 (R : ER) (x0 x1 x2 : Value) : WP :=
  pv (eqNilP x0) fun v18 =>
  F24_j3 R x0 x1 x2 v18
theorem F24_j2_ok (R : ER) (e : Env) : den Pg R (cd Tryz.f24 [1,0]) e (setN (kont Pg R Tryz.f24) (fun e => F24_j1 R (e 0) (e 1) (e 2))) = (F24_j2 R (e 0) (e 1) (e 2)) := (den_block Pg R (cd Tryz.f24 [1,0]) 0 (cd Tryz.f24 [1,0,0]) e (setN (kont Pg R Tryz.f24) (fun e => F24_j1 R (e 0) (e 1) (e 2))) _ (by kernel_rfl) (den_join Pg R 0 (cd Tryz.f24 [1,0,0]) (cd Tryz.f24 [1,0,0,1]) e (inB 0 (setN (kont Pg R Tryz.f24) (fun e => F24_j1 R (e 0) (e 1) (e 2)))) (fun e => F24_j3 R (e 0) (e 1) (e 2) (e 9)) _ (by kernel_rfl) (fun e => F24_j3_ok R e) (by kernel_rfl)))
def F24 (R : ER) (x0 x1 x2 : Value) : WP :=
  F24_j2 R x0 x1 x2
theorem F24_den (R : ER) (x0 x1 x2 : Value) : den Pg R (cd Tryz.f24 []) (argsEnv [x0, x1, x2]) (kont Pg R Tryz.f24) = F24 R x0 x1 x2 :=
  have h : ∀ e, den Pg R (cd Tryz.f24 []) e (kont Pg R Tryz.f24) = F24 R (e 0) (e 1) (e 2) := fun e => (den_join Pg R 1 (cd Tryz.f24 []) (cd Tryz.f24 [1,1]) e (kont Pg R Tryz.f24) (fun e => F24_j1 R (e 0) (e 1) (e 2)) _ (by kernel_rfl) (fun e => F24_j1_ok R e) (den_join Pg R 0 (pre 1 (cd Tryz.f24 [])) (cd Tryz.f24 [1,0]) e (setN (kont Pg R Tryz.f24) (fun e => F24_j1 R (e 0) (e 1) (e 2))) (fun e => F24_j2 R (e 0) (e 1) (e 2)) _ (by kernel_rfl) (fun e => F24_j2_ok R e) (by kernel_rfl)))
  h _
theorem F24_calls {R : ER} {x0 x1 x2 : Value} {w : World} (h : F24 R x0 x1 x2 w) : Calls Pg 24 ⟨[x0, x1, x2]⟩ w R :=
  calls_of_den Tryz.func24 (by kernel_rfl) (by kernel_rfl) (F24_den R x0 x1 x2) h
/-! ### 25: channels_Table_Attach -/
def F25_j5 (R : ER) (x0 x1 x8 x10 : Value) : WP :=
  pv (nilO x8) fun v1 =>
  pv (faO 5 v1) fun v2 =>
  ld1 v2 fun v3 =>
  cal Pg R 76 ⟨[v3]⟩ fun v4 =>
  pv (bldO [.pointer none, .int .i64 0] [(0,1, x8), (1,1, v4)]) fun v5 =>
  bx 139 v5 fun v6 =>
  drewV (
  pv (nilO x8) fun v7 =>
  pv (faO 5 v7) fun v8 =>
  ld1 v8 fun v9 =>
  pv (nilO v6) fun v10 =>
  pv (faO 1 v10) fun v11 =>
  ld1 v11 fun v12 =>
  mem fun w14 => unitV Pg noR (Instr.mapUpdate 101 v9 v12 v6) fun v13 =>
  pv (nilO x0) fun v15 =>
  pv (faO 1 v15) fun v16 =>
  ld1 v16 fun v17 =>
  pv (bldO [.int .i64 0, .int .i64 0] [(0,1, x1), (1,1, x10)]) fun v18 =>
  unitV Pg R (Instr.mapUpdate 82 v17 v18 v6) fun _ =>
  R (.returned (.tuple ⟨[x10, (.int .i64 0)]⟩)))
theorem F25_j5_ok (R : ER) (e : Env) : den Pg R (cd Tryz.f25 [1,1,1,1,1,1,1,1]) e (kont Pg R Tryz.f25) = (F25_j5 R (e 0) (e 1) (e 8) (e 10)) := by kernel_rfl
def F25_j4 (R : ER) (x0 x1 x8 x10 : Value) : WP :=
  pv (bin .geq x10 (.int .i64 256)) fun v19 =>
  cnd v19 (
   R (.returned (.tuple ⟨[(.int .i64 0), (.int .i64 18)]⟩))) (
   F25_j5 R x0 x1 x8 x10)
theorem F25_j4_ok (R : ER) (e : Env) : den Pg R (cd Tryz.f25 [1,1,1,1,1,1,1]) e (kont Pg R Tryz.f25) = (F25_j4 R (e 0) (e 1) (e 8) (e 10)) := (den_join Pg R 0 (cd Tryz.f25 [1,1,1,1,1,1,1]) (cd Tryz.f25 [1,1,1,1,1,1,1,1]) e (kont Pg R Tryz.f25) (fun e => F25_j5 R (e 0) (e 1) (e 8) (e 10)) _ (by kernel_rfl) (fun e => F25_j5_ok R e) (by kernel_rfl))
def F25_b1 (R : ER) (k1 : V4) (x0 x1 x8 x10 : Value) : WP :=
  pv (nilO x0) fun v20 =>
  pv (faO 1 v20) fun v21 =>
  ld1 v21 fun v22 =>
  pv (bldO [.int .i64 0, .int .i64 0] [(0,1, x1), (1,1, x10)]) fun v23 =>
  valV Pg R (Instr.lookup 82 v22 v23 false) fun v24 =>
  pv (neNilP v24) fun v25 =>
  cnd v25 (
   pv (bin .add x10 (.int .i64 1)) fun v26 =>
  k1 x0 x1 x8 v26) (
   F25_j4 R x0 x1 x8 x10)
theorem F25_b1_ok (R : ER) (k1 : V4) (e : Env) : den Pg R (cd Tryz.f25 [1,1,1,1,1,1,0,0,0]) e (setN (inB 0 (setN (kont Pg R Tryz.f25) (fun e => F25_j4 R (e 0) (e 1) (e 8) (e 10)))) (fun e => k1 (e 0) (e 1) (e 8) (e 10))) = (F25_b1 R k1 (e 0) (e 1) (e 8) (e 10)) := by kernel_rfl
noncomputable def F25_l1 (R : ER) (n : Nat) : V4 := Nat.rec (motive := fun _ => V4) (fun _ _ _ _ => fun _ => False) (fun _ ih => fun x0 x1 x8 x10 => F25_b1 R ih x0 x1 x8 x10) n
theorem F25_l1_succ (R : ER) (n : Nat) (x0 x1 x8 x10 : Value) : F25_l1 R (n + 1) x0 x1 x8 x10 = F25_b1 R (F25_l1 R n) x0 x1 x8 x10 := rfl
theorem F25_l1_ok (R : ER) : ∀ (n : Nat) (e : Env), iterL (den Pg R (cd Tryz.f25 [1,1,1,1,1,1,0,0,0])) n e (inB 0 (setN (kont Pg R Tryz.f25) (fun e => F25_j4 R (e 0) (e 1) (e 8) (e 10)))) = F25_l1 R n (e 0) (e 1) (e 8) (e 10) :=
  iterL_join (den Pg R (cd Tryz.f25 [1,1,1,1,1,1,0,0,0])) (inB 0 (setN (kont Pg R Tryz.f25) (fun e => F25_j4 R (e 0) (e 1) (e 8) (e 10)))) (fun n e => F25_l1 R n (e 0) (e 1) (e 8) (e 10)) (fun _ => rfl) (fun n e => (F25_b1_ok R (F25_l1 R n) e).trans (F25_l1_succ R n (e 0) (e 1) (e 8) (e 10)).symm)
def F25_j6 (R : ER) (x0 x1 x8 x10 : Value) : WP :=
  exN fun n => F25_l1 R n x0 x1 x8 x10
theorem F25_j6_ok (R : ER) (e : Env) : den Pg R (cd Tryz.f25 [1,1,1,1,1,1,0]) e (setN (kont Pg R Tryz.f25) (fun e => F25_j4 R (e 0) (e 1) (e 8) (e 10))) = (F25_j6 R (e 0) (e 1) (e 8) (e 10)) := (den_block Pg R (cd Tryz.f25 [1,1,1,1,1,1,0]) 0 (cd Tryz.f25 [1,1,1,1,1,1,0,0]) e (setN (kont Pg R Tryz.f25) (fun e => F25_j4 R (e 0) (e 1) (e 8) (e 10))) _ (by kernel_rfl) (den_loop Pg R (cd Tryz.f25 [1,1,1,1,1,1,0,0]) (cd Tryz.f25 [1,1,1,1,1,1,0,0,0]) e (inB 0 (setN (kont Pg R Tryz.f25) (fun e => F25_j4 R (e 0) (e 1) (e 8) (e 10)))) (fun n e => F25_l1 R n (e 0) (e 1) (e 8) (e 10)) _ (by kernel_rfl) (F25_l1_ok R) (by kernel_rfl)))
def F25_j3 (R : ER) (x0 x1 x8 : Value) : WP :=
  F25_j6 R x0 x1 x8 (.int .i64 0)
theorem F25_j3_ok (R : ER) (e : Env) : den Pg R (cd Tryz.f25 [1,1,1,1,1]) e (kont Pg R Tryz.f25) = (F25_j3 R (e 0) (e 1) (e 8)) := (den_join Pg R 1 (cd Tryz.f25 [1,1,1,1,1]) (cd Tryz.f25 [1,1,1,1,1,1,1]) e (kont Pg R Tryz.f25) (fun e => F25_j4 R (e 0) (e 1) (e 8) (e 10)) _ (by kernel_rfl) (fun e => F25_j4_ok R e) (den_join Pg R 0 (pre 1 (cd Tryz.f25 [1,1,1,1,1])) (cd Tryz.f25 [1,1,1,1,1,1,0]) e (setN (kont Pg R Tryz.f25) (fun e => F25_j4 R (e 0) (e 1) (e 8) (e 10))) (fun e => F25_j6 R (e 0) (e 1) (e 8) (e 10)) _ (by kernel_rfl) (fun e => F25_j6_ok R e) (by kernel_rfl)))
def F25_j2 (R : ER) (x0 x1 x2 : Value) : WP :=
  pv (nilO x0) fun v27 =>
  pv (faO 0 v27) fun v28 =>
  ld1 v28 fun v29 =>
  valV Pg R (Instr.lookup 81 v29 x2 true) fun v30 =>
  pv (extO 0 v30) fun v31 =>
  pv (extO 1 v30) fun v32 =>
  pv (unO .not v32) fun v33 =>
  cnd v33 (
   R (.returned (.tuple ⟨[(.int .i64 0), (.int .i64 3)]⟩))) (
   F25_j3 R x0 x1 v31)
theorem F25_j2_ok (R : ER) (e : Env) : den Pg R (cd Tryz.f25 [1,1,1]) e (kont Pg R Tryz.f25) = (F25_j2 R (e 0) (e 1) (e 2)) := (den_join Pg R 1 (cd Tryz.f25 [1,1,1]) (cd Tryz.f25 [1,1,1,1,1]) e (kont Pg R Tryz.f25) (fun e => F25_j3 R (e 0) (e 1) (e 8)) _ (by kernel_rfl) (fun e => F25_j3_ok R e) (by kernel_rfl))
def F25_j1 (R : ER) (x0 x1 x2 : Value) : WP :=
  cal Pg R 74 ⟨[x1]⟩ fun v34 =>
  pv (unO .not v34) fun v35 =>
  cnd v35 (
   R (.returned (.tuple ⟨[(.int .i64 0), (.int .i64 34)]⟩))) (
   F25_j2 R x0 x1 x2)
theorem F25_j1_ok (R : ER) (e : Env) : den Pg R (cd Tryz.f25 [1,1]) e (kont Pg R Tryz.f25) = (F25_j1 R (e 0) (e 1) (e 2)) := (den_join Pg R 0 (cd Tryz.f25 [1,1]) (cd Tryz.f25 [1,1,1]) e (kont Pg R Tryz.f25) (fun e => F25_j2 R (e 0) (e 1) (e 2)) _ (by kernel_rfl) (fun e => F25_j2_ok R e) (by kernel_rfl))
def F25 (R : ER) (x0 x1 x2 : Value) : WP :=
  pv (eqNilP x0) fun v36 =>
  cnd v36 (
   R (.returned (.tuple ⟨[(.int .i64 0), (.int .i64 35)]⟩))) (
   F25_j1 R x0 x1 x2)
theorem F25_den (R : ER) (x0 x1 x2 : Value) : den Pg R (cd Tryz.f25 []) (argsEnv [x0, x1, x2]) (kont Pg R Tryz.f25) = F25 R x0 x1 x2 :=
  have h : ∀ e, den Pg R (cd Tryz.f25 []) e (kont Pg R Tryz.f25) = F25 R (e 0) (e 1) (e 2) := fun e => (den_join Pg R 1 (cd Tryz.f25 []) (cd Tryz.f25 [1,1]) e (kont Pg R Tryz.f25) (fun e => F25_j1 R (e 0) (e 1) (e 2)) _ (by kernel_rfl) (fun e => F25_j1_ok R e) (by kernel_rfl))
  h _
theorem F25_calls {R : ER} {x0 x1 x2 : Value} {w : World} (h : F25 R x0 x1 x2 w) : Calls Pg 25 ⟨[x0, x1, x2]⟩ w R :=
  calls_of_den Tryz.func25 (by kernel_rfl) (by kernel_rfl) (F25_den R x0 x1 x2) h
/-! ### 26: channels_Table_Send -/
def F26_j8 (R : ER) (x0 x1 x18 x19 : Value) : WP :=
  ldN 11 x19 fun v1 =>
  cal Pg R 81 ⟨[x18, v1]⟩ fun v2 =>
  pv (nilO x0) fun v3 =>
  pv (faO 2 v3) fun v4 =>
  ld1 v4 fun v5 =>
  pv (bldO [.int .i64 0, .pointer none, .pointer none] [(0,1, (.int .i64 2)), (1,1, x18)]) fun v6 =>
  unitV Pg R (Instr.mapUpdate 83 v5 x1 v6) fun _ =>
  R (.returned (.tuple ⟨[(.slice none 0 0), (.int .i64 0)]⟩))
theorem F26_j8_ok (R : ER) (e : Env) : den Pg R (cd Tryz.f26 [1,1,1,1,1,1,1,1,1,1,1,1]) e (kont Pg R Tryz.f26) = (F26_j8 R (e 0) (e 1) (e 18) (e 19)) := by kernel_rfl
def F26_j7 (R : ER) (x0 x1 x18 x19 : Value) : WP :=
  pv (nilO x18) fun v7 =>
  pv (faO 4 v7) fun v8 =>
  ld1 v8 fun v9 =>
  pv (lenS v9) fun v10 =>
  pv (bin .gtr v10 (.int .i64 0)) fun v11 =>
  cnd v11 (
   ldN 11 x19 fun v12 =>
   cal Pg R 80 ⟨[x0, x18, v12]⟩ fun v13 =>
   R (.returned (.tuple ⟨[v13, (.int .i64 0)]⟩))) (
   F26_j8 R x0 x1 x18 x19)
theorem F26_j7_ok (R : ER) (e : Env) : den Pg R (cd Tryz.f26 [1,1,1,1,1,1,1,1,1,1,1]) e (kont Pg R Tryz.f26) = (F26_j7 R (e 0) (e 1) (e 18) (e 19)) := (den_join Pg R 0 (cd Tryz.f26 [1,1,1,1,1,1,1,1,1,1,1]) (cd Tryz.f26 [1,1,1,1,1,1,1,1,1,1,1,1]) e (kont Pg R Tryz.f26) (fun e => F26_j8 R (e 0) (e 1) (e 18) (e 19)) _ (by kernel_rfl) (fun e => F26_j8_ok R e) (by kernel_rfl))
def F26_j6 (R : ER) (x0 x1 x2 x4 x5 x6 x16 : Value) : WP :=
  pv (nilO x0) fun v14 =>
  pv (faO 5 v14) fun v15 =>
  ld1 v15 fun v16 =>
  blt Pg R .delete ⟨[86,3]⟩ 0 ⟨[false, false]⟩ ⟨[v16, x1]⟩ fun _ =>
  pv (nilO x16) fun v17 =>
  pv (faO 0 v17) fun v18 =>
  ld1 v18 fun v19 =>
  drewV (
  pv (nilO x16) fun v20 =>
  pv (faO 1 v20) fun v21 =>
  ld1 v21 fun v22 =>
  allW [
  (mem fun w24 => cal Pg noR 79 ⟨[x0, x4]⟩ fun v23 =>
   rd1 v21 v22 <|
   allW [
   (mem fun w26 => cal Pg noR 32 ⟨[x5]⟩ fun v25 =>
    rd1 v21 v22 <|
    pv (bldO [.int .i64 0, .int .i64 0, .int .i64 0, .int .i64 0, .int .i64 0, .pointer none, .slice none 0 0, .int .i64 0, .int .i64 0, .int .i64 0, .int .i64 0] [(0,2, v23), (2,1, x1), (3,1, x2), (4,1, v22), (5,1, x16), (6,1, v25), (7,1, x6)]) fun v27 =>
    mem fun w29 => al Pg 110 fun v28 =>
    rd1 v21 v22 <|
    mem fun w31 => stN 11 v28 v27 fun v30 =>
    F26_j7 R x0 x1 v19 v28),
   (mem fun w33 => al Pg 110 fun v32 =>
    rd1 v21 v22 <|
    mem fun w35 => cal Pg noR 32 ⟨[x5]⟩ fun v34 =>
    rd1 v21 v22 <|
    pv (bldO [.int .i64 0, .int .i64 0, .int .i64 0, .int .i64 0, .int .i64 0, .pointer none, .slice none 0 0, .int .i64 0, .int .i64 0, .int .i64 0, .int .i64 0] [(0,2, v23), (2,1, x1), (3,1, x2), (4,1, v22), (5,1, x16), (6,1, v34), (7,1, x6)]) fun v36 =>
    mem fun w38 => stN 11 v32 v36 fun v37 =>
    F26_j7 R x0 x1 v19 v32)]),
  (mem fun w40 => al Pg 110 fun v39 =>
   rd1 v21 v22 <|
   mem fun w42 => cal Pg noR 79 ⟨[x0, x4]⟩ fun v41 =>
   rd1 v21 v22 <|
   mem fun w44 => cal Pg noR 32 ⟨[x5]⟩ fun v43 =>
   rd1 v21 v22 <|
   pv (bldO [.int .i64 0, .int .i64 0, .int .i64 0, .int .i64 0, .int .i64 0, .pointer none, .slice none 0 0, .int .i64 0, .int .i64 0, .int .i64 0, .int .i64 0] [(0,2, v41), (2,1, x1), (3,1, x2), (4,1, v22), (5,1, x16), (6,1, v43), (7,1, x6)]) fun v45 =>
   mem fun w47 => stN 11 v39 v45 fun v46 =>
   F26_j7 R x0 x1 v19 v39)])
theorem F26_j6_ok (R : ER) (e : Env) : den Pg R (cd Tryz.f26 [1,1,1,1,1,1,1,1]) e (kont Pg R Tryz.f26) = (F26_j6 R (e 0) (e 1) (e 2) (e 4) (e 5) (e 6) (e 16)) := (den_join Pg R 2 (cd Tryz.f26 [1,1,1,1,1,1,1,1]) (cd Tryz.f26 [1,1,1,1,1,1,1,1,1,1,1]) e (kont Pg R Tryz.f26) (fun e => F26_j7 R (e 0) (e 1) (e 18) (e 19)) _ (by kernel_rfl) (fun e => F26_j7_ok R e) (by kernel_rfl))
def F26_j5 (R : ER) (x0 x1 x2 x4 x5 x6 x16 : Value) : WP :=
  pv (nilO x16) fun v48 =>
  pv (faO 0 v48) fun v49 =>
  ld1 v49 fun v50 =>
  pv (eqNilP v50) fun v51 =>
  cnd v51 (
   R (.returned (.tuple ⟨[(.slice none 0 0), (.int .i64 4)]⟩))) (
   F26_j6 R x0 x1 x2 x4 x5 x6 x16)
theorem F26_j5_ok (R : ER) (e : Env) : den Pg R (cd Tryz.f26 [1,1,1,1,1,1,1]) e (kont Pg R Tryz.f26) = (F26_j5 R (e 0) (e 1) (e 2) (e 4) (e 5) (e 6) (e 16)) := (den_join Pg R 0 (cd Tryz.f26 [1,1,1,1,1,1,1]) (cd Tryz.f26 [1,1,1,1,1,1,1,1]) e (kont Pg R Tryz.f26) (fun e => F26_j6 R (e 0) (e 1) (e 2) (e 4) (e 5) (e 6) (e 16)) _ (by kernel_rfl) (fun e => F26_j6_ok R e) (by kernel_rfl))
def F26_j4 (R : ER) (x0 x1 x2 x3 x4 x5 x6 : Value) : WP :=
  pv (nilO x0) fun v52 =>
  pv (faO 1 v52) fun v53 =>
  ld1 v53 fun v54 =>
  pv (bldO [.int .i64 0, .int .i64 0] [(0,1, x2), (1,1, x3)]) fun v55 =>
  valV Pg R (Instr.lookup 82 v54 v55 true) fun v56 =>
  pv (extO 0 v56) fun v57 =>
  pv (extO 1 v56) fun v58 =>
  pv (unO .not v58) fun v59 =>
  cnd v59 (
   R (.returned (.tuple ⟨[(.slice none 0 0), (.int .i64 3)]⟩))) (
   F26_j5 R x0 x1 x2 x4 x5 x6 v57)
theorem F26_j4_ok (R : ER) (e : Env) : den Pg R (cd Tryz.f26 [1,1,1,1,1]) e (kont Pg R Tryz.f26) = (F26_j4 R (e 0) (e 1) (e 2) (e 3) (e 4) (e 5) (e 6)) := (den_join Pg R 1 (cd Tryz.f26 [1,1,1,1,1]) (cd Tryz.f26 [1,1,1,1,1,1,1]) e (kont Pg R Tryz.f26) (fun e => F26_j5 R (e 0) (e 1) (e 2) (e 4) (e 5) (e 6) (e 16)) _ (by kernel_rfl) (fun e => F26_j5_ok R e) (by kernel_rfl))
def F26_j3 (R : ER) (x0 x1 x2 x3 x4 x5 x6 : Value) : WP :=
  cal Pg R 12 ⟨[x0, x1]⟩ fun v60 =>
  pv (bin .neq v60 (.int .i64 1)) fun v61 =>
  cnd v61 (
   R (.returned (.tuple ⟨[(.slice none 0 0), (.int .i64 35)]⟩))) (
   F26_j4 R x0 x1 x2 x3 x4 x5 x6)
theorem F26_j3_ok (R : ER) (e : Env) : den Pg R (cd Tryz.f26 [1,1,1,1]) e (kont Pg R Tryz.f26) = (F26_j3 R (e 0) (e 1) (e 2) (e 3) (e 4) (e 5) (e 6)) := (den_join Pg R 0 (cd Tryz.f26 [1,1,1,1]) (cd Tryz.f26 [1,1,1,1,1]) e (kont Pg R Tryz.f26) (fun e => F26_j4 R (e 0) (e 1) (e 2) (e 3) (e 4) (e 5) (e 6)) _ (by kernel_rfl) (fun e => F26_j4_ok R e) (by kernel_rfl))
def F26_j2 (R : ER) (x0 x1 x2 x3 x4 x5 x6 : Value) : WP :=
  pv (lenS x5) fun v62 =>
  pv (bin .gtr v62 (.int .i64 4096)) fun v63 =>
  cnd v63 (
   R (.returned (.tuple ⟨[(.slice none 0 0), (.int .i64 20)]⟩))) (
   F26_j3 R x0 x1 x2 x3 x4 x5 x6)
theorem F26_j2_ok (R : ER) (e : Env) : den Pg R (cd Tryz.f26 [1,1,1]) e (kont Pg R Tryz.f26) = (F26_j2 R (e 0) (e 1) (e 2) (e 3) (e 4) (e 5) (e 6)) := (den_join Pg R 0 (cd Tryz.f26 [1,1,1]) (cd Tryz.f26 [1,1,1,1]) e (kont Pg R Tryz.f26) (fun e => F26_j3 R (e 0) (e 1) (e 2) (e 3) (e 4) (e 5) (e 6)) _ (by kernel_rfl) (fun e => F26_j3_ok R e) (by kernel_rfl))
def F26_j9 (R : ER) (x0 x1 x2 x3 x4 x5 x6 : Value) : WP :=
  cal Pg R 77 ⟨[x1]⟩ fun v64 =>
  pv (unO .not v64) fun v65 =>
  gd v65 false (pv (some x2)) fun v66 =>
  gd v65 false (cal Pg R 74 ⟨[v66]⟩) fun v67 =>
  gd v65 false (pv (unO .not v67)) fun v68 =>
  pv (pickO v65 (.bool true) v68) fun v69 =>
  gd v69 false (pv (some x4)) fun v70 =>
  gd v69 false (cal Pg R 78 ⟨[v70, (.int .i64 255)]⟩) fun v71 =>
  gd v69 false (pv (unO .not v71)) fun v72 =>
  pv (pickO v69 (.bool true) v72) fun v73 =>
  gd v73 false (pv (some x6)) fun v74 =>
  gd v73 false (cal Pg R 78 ⟨[v74, (.int .i64 4096)]⟩) fun v75 =>
  gd v73 false (pv (unO .not v75)) fun v76 =>
  pv (pickO v73 (.bool true) v76) fun v77 =>
  cnd v77 (
   R (.returned (.tuple ⟨[(.slice none 0 0), (.int .i64 34)]⟩))) (
   F26_j2 R x0 x1 x2 x3 x4 x5 x6)
theorem F26_j9_ok (R : ER) (e : Env) : den Pg R (cd Tryz.f26 [1,1,0]) e (setN (kont Pg R Tryz.f26) (fun e => F26_j2 R (e 0) (e 1) (e 2) (e 3) (e 4) (e 5) (e 6))) = (F26_j9 R (e 0) (e 1) (e 2) (e 3) (e 4) (e 5) (e 6)) := (by kernel_rfl)
def F26_j1 (R : ER) (x0 x1 x2 x3 x4 x5 x6 : Value) : WP :=
  F26_j9 R x0 x1 x2 x3 x4 x5 x6
theorem F26_j1_ok (R : ER) (e : Env) : den Pg R (cd Tryz.f26 [1,1]) e (kont Pg R Tryz.f26) = (F26_j1 R (e 0) (e 1) (e 2) (e 3) (e 4) (e 5) (e 6)) := (den_join Pg R 0 (cd Tryz.f26 [1,1]) (cd Tryz.f26 [1,1,1]) e (kont Pg R Tryz.f26) (fun e => F26_j2 R (e 0) (e 1) (e 2) (e 3) (e 4) (e 5) (e 6)) _ (by kernel_rfl) (fun e => F26_j2_ok R e) (den_conv Pg R (pre 0 (cd Tryz.f26 [1,1])) (cd Tryz.f26 [1,1,0]) e (setN (kont Pg R Tryz.f26) (fun e => F26_j2 R (e 0) (e 1) (e 2) (e 3) (e 4) (e 5) (e 6))) _ (by kernel_rfl) (F26_j9_ok R e)))
def F26 (R : ER) (x0 x1 x2 x3 x4 x5 x6 : Value) : WP :=
  pv (eqNilP x0) fun v78 =>
  cnd v78 (
   R (.returned (.tuple ⟨[(.slice none 0 0), (.int .i64 35)]⟩))) (
   F26_j1 R x0 x1 x2 x3 x4 x5 x6)
theorem F26_den (R : ER) (x0 x1 x2 x3 x4 x5 x6 : Value) : den Pg R (cd Tryz.f26 []) (argsEnv [x0, x1, x2, x3, x4, x5, x6]) (kont Pg R Tryz.f26) = F26 R x0 x1 x2 x3 x4 x5 x6 :=
  have h : ∀ e, den Pg R (cd Tryz.f26 []) e (kont Pg R Tryz.f26) = F26 R (e 0) (e 1) (e 2) (e 3) (e 4) (e 5) (e 6) := fun e => (den_join Pg R 1 (cd Tryz.f26 []) (cd Tryz.f26 [1,1]) e (kont Pg R Tryz.f26) (fun e => F26_j1 R (e 0) (e 1) (e 2) (e 3) (e 4) (e 5) (e 6)) _ (by kernel_rfl) (fun e => F26_j1_ok R e) (by kernel_rfl))
  h _
theorem F26_calls {R : ER} {x0 x1 x2 x3 x4 x5 x6 : Value} {w : World} (h : F26 R x0 x1 x2 x3 x4 x5 x6 w) : Calls Pg 26 ⟨[x0, x1, x2, x3, x4, x5, x6]⟩ w R :=
  calls_of_den Tryz.func26 (by kernel_rfl) (by kernel_rfl) (F26_den R x0 x1 x2 x3 x4 x5 x6) h
/-! ### 27: channels_Table_Receive -/
def F27_j5 (R : ER) (x0 x1 x4 x5 x12 x15 : Value) : WP :=
  pv (nilO x0) fun v1 =>
  pv (faO 4 v1) fun v2 =>
  ld1 v2 fun v3 =>
  blt Pg R .delete ⟨[85,3]⟩ 0 ⟨[false, false]⟩ ⟨[v3, x1]⟩ fun _ =>
  drewV (
  pv (nilO x15) fun v4 =>
  pv (faO 4 v4) fun v5 =>
  ld1 v5 fun v6 =>
  mem fun w8 => cal Pg noR 79 ⟨[x0, x4]⟩ fun v7 =>
  rd1 v5 v6 <|
  pv (bldO [.int .i64 0, .int .i64 0, .int .i64 0, .int .i64 0] [(0,2, v7), (2,1, x1), (3,1, x5)]) fun v9 =>
  mem fun w11 => cal Pg noR 85 ⟨[v6, v9, (.func (.func 86) ⟨[]⟩ ⟨[]⟩)]⟩ fun v10 =>
  pv (nilO x15) fun v12 =>
  pv (faO 4 v12) fun v13 =>
  mem fun w15 => st1 v13 v10 fun v14 =>
  pv (nilO x0) fun v16 =>
  pv (faO 2 v16) fun v17 =>
  ld1 v17 fun v18 =>
  pv (bldO [.int .i64 0, .pointer none, .pointer none] [(0,1, (.int .i64 3)), (1,1, x15)]) fun v19 =>
  unitV Pg R (Instr.mapUpdate 83 v18 x1 v19) fun _ =>
  pv (bldO [.int .i64 0, .int .i64 0, .int .i64 0, .int .i64 0, .int .i64 0, .int .i64 0, .int .i64 0, .slice none 0 0, .int .i64 0, .int .i64 0] []) fun v20 =>
  stN 10 x12 v20 fun _ =>
  ldN 10 x12 fun v21 => R (.returned (.tuple ⟨[v21, (.bool true), (.int .i64 0)]⟩)))
theorem F27_j5_ok (R : ER) (e : Env) : den Pg R (cd Tryz.f27 [1,1,1,1,1,1,1]) e (kont Pg R Tryz.f27) = (F27_j5 R (e 0) (e 1) (e 4) (e 5) (e 12) (e 15)) := by kernel_rfl
def F27_j8 (R : ER) (x0 x1 x5 x12 x15 : Value) : WP :=
  pv (nilO x15) fun v22 =>
  pv (faO 3 v22) fun v23 =>
  ld1 v23 fun v24 =>
  pv (ixS 11 v24 (.int .i64 0)) fun v25 =>
  ldN 11 v25 fun v26 =>
  al Pg 110 fun v27 =>
  stN 11 v27 v26 fun _ =>
  pv (nilO x15) fun v28 =>
  pv (faO 3 v28) fun v29 =>
  ld1 v29 fun v30 =>
  cal Pg R 83 ⟨[v30, (.int .i64 0), (.int .i64 1)]⟩ fun v31 =>
  pv (nilO x15) fun v32 =>
  pv (faO 3 v32) fun v33 =>
  st1 v33 v31 fun _ =>
  ldN 11 v27 fun v34 =>
  cal Pg R 84 ⟨[x0, x15, v34, x1, x5]⟩ fun v35 =>
  stN 10 x12 v35 fun _ =>
  ldN 10 x12 fun v36 => R (.returned (.tuple ⟨[v36, (.bool false), (.int .i64 0)]⟩))
theorem F27_j8_ok (R : ER) (e : Env) : den Pg R (cd Tryz.f27 [1,1,1,1,1,1,0,1,0]) e (setN (kont Pg R Tryz.f27) (fun e => F27_j5 R (e 0) (e 1) (e 4) (e 5) (e 12) (e 15))) = (F27_j8 R (e 0) (e 1) (e 5) (e 12) (e 15)) := by kernel_rfl
def F27_j7 (R : ER) (x0 x1 x4 x5 x12 x15 x61 : Value) : WP :=
  cnd x61 (F27_j8 R x0 x1 x5 x12 x15) (F27_j5 R x0 x1 x4 x5 x12 x15)
theorem F27_j7_ok (R : ER) (e : Env) : den Pg R (cd Tryz.f27 [1,1,1,1,1,1,0,1]) e (setN (kont Pg R Tryz.f27) (fun e => F27_j5 R (e 0) (e 1) (e 4) (e 5) (e 12) (e 15))) = (F27_j7 R (e 0) (e 1) (e 4) (e 5) (e 12) (e 15) (e 61)) := (den_if Pg R (cd Tryz.f27 [1,1,1,1,1,1,0,1]) (cd Tryz.f27 [1,1,1,1,1,1,0,1,0]) (cd Tryz.f27 [1,1,1,1,1,1,0,1,1]) e (setN (kont Pg R Tryz.f27) (fun e => F27_j5 R (e 0) (e 1) (e 4) (e 5) (e 12) (e 15))) (F27_j8 R (e 0) (e 1) (e 5) (e 12) (e 15)) _ _ (by kernel_rfl) (F27_j8_ok R e) rfl (by kernel_rfl))
def F27_j6 (R : ER) (x0 x1 x4 x5 x12 x15 : Value) : WP :=
  pv (nilO x15) fun v37 =>
  pv (faO 3 v37) fun v38 =>
  ld1 v38 fun v39 =>
  pv (lenS v39) fun v40 =>
  pv (bin .gtr v40 (.int .i64 0)) fun v41 =>
  F27_j7 R x0 x1 x4 x5 x12 x15 v41
theorem F27_j6_ok (R : ER) (e : Env) : den Pg R (cd Tryz.f27 [1,1,1,1,1,1,0]) e (setN (kont Pg R Tryz.f27) (fun e => F27_j5 R (e 0) (e 1) (e 4) (e 5) (e 12) (e 15))) = (F27_j6 R (e 0) (e 1) (e 4) (e 5) (e 12) (e 15)) := (den_join Pg R 0 (cd Tryz.f27 [1,1,1,1,1,1,0]) (cd Tryz.f27 [1,1,1,1,1,1,0,1]) e (setN (kont Pg R Tryz.f27) (fun e => F27_j5 R (e 0) (e 1) (e 4) (e 5) (e 12) (e 15))) (fun e => F27_j7 R (e 0) (e 1) (e 4) (e 5) (e 12) (e 15) (e 61)) _ (by kernel_rfl) (fun e => F27_j7_ok R e) (by kernel_rfl))
def F27_j4 (R : ER) (x0 x1 x4 x5 x12 x15 : Value) : WP :=
  F27_j6 R x0 x1 x4 x5 x12 x15
theorem F27_j4_ok (R : ER) (e : Env) : den Pg R (cd Tryz.f27 [1,1,1,1,1,1]) e (kont Pg R Tryz.f27) = (F27_j4 R (e 0) (e 1) (e 4) (e 5) (e 12) (e 15)) := (den_join Pg R 0 (cd Tryz.f27 [1,1,1,1,1,1]) (cd Tryz.f27 [1,1,1,1,1,1,1]) e (kont Pg R Tryz.f27) (fun e => F27_j5 R (e 0) (e 1) (e 4) (e 5) (e 12) (e 15)) _ (by kernel_rfl) (fun e => F27_j5_ok R e) (den_conv Pg R (pre 0 (cd Tryz.f27 [1,1,1,1,1,1])) (cd Tryz.f27 [1,1,1,1,1,1,0]) e (setN (kont Pg R Tryz.f27) (fun e => F27_j5 R (e 0) (e 1) (e 4) (e 5) (e 12) (e 15))) _ (by kernel_rfl) (F27_j6_ok R e)))
def F27_j3 (R : ER) (x0 x1 x2 x3 x4 x5 x12 : Value) : WP :=
  cal Pg R 82 ⟨[x0, x2, x3]⟩ fun v42 =>
  pv (extO 0 v42) fun v43 =>
  pv (extO 1 v42) fun v44 =>
  pv (bin .neq v44 (.int .i64 0)) fun v45 =>
  cnd v45 (
   pv (bldO [.int .i64 0, .int .i64 0, .int .i64 0, .int .i64 0, .int .i64 0, .int .i64 0, .int .i64 0, .slice none 0 0, .int .i64 0, .int .i64 0] []) fun v46 =>
   stN 10 x12 v46 fun _ =>
   ldN 10 x12 fun v47 => R (.returned (.tuple ⟨[v47, (.bool false), v44]⟩))) (
   F27_j4 R x0 x1 x4 x5 x12 v43)
theorem F27_j3_ok (R : ER) (e : Env) : den Pg R (cd Tryz.f27 [1,1,1,1]) e (kont Pg R Tryz.f27) = (F27_j3 R (e 0) (e 1) (e 2) (e 3) (e 4) (e 5) (e 12)) := (den_join Pg R 1 (cd Tryz.f27 [1,1,1,1]) (cd Tryz.f27 [1,1,1,1,1,1]) e (kont Pg R Tryz.f27) (fun e => F27_j4 R (e 0) (e 1) (e 4) (e 5) (e 12) (e 15)) _ (by kernel_rfl) (fun e => F27_j4_ok R e) (by kernel_rfl))
def F27_j2 (R : ER) (x0 x1 x2 x3 x4 x5 x12 : Value) : WP :=
  cal Pg R 12 ⟨[x0, x1]⟩ fun v48 =>
  pv (bin .neq v48 (.int .i64 1)) fun v49 =>
  cnd v49 (
   pv (bldO [.int .i64 0, .int .i64 0, .int .i64 0, .int .i64 0, .int .i64 0, .int .i64 0, .int .i64 0, .slice none 0 0, .int .i64 0, .int .i64 0] []) fun v50 =>
   stN 10 x12 v50 fun _ =>
   ldN 10 x12 fun v51 => R (.returned (.tuple ⟨[v51, (.bool false), (.int .i64 35)]⟩))) (
   F27_j3 R x0 x1 x2 x3 x4 x5 x12)
theorem F27_j2_ok (R : ER) (e : Env) : den Pg R (cd Tryz.f27 [1,1,1]) e (kont Pg R Tryz.f27) = (F27_j2 R (e 0) (e 1) (e 2) (e 3) (e 4) (e 5) (e 12)) := (den_join Pg R 0 (cd Tryz.f27 [1,1,1]) (cd Tryz.f27 [1,1,1,1]) e (kont Pg R Tryz.f27) (fun e => F27_j3 R (e 0) (e 1) (e 2) (e 3) (e 4) (e 5) (e 12)) _ (by kernel_rfl) (fun e => F27_j3_ok R e) (by kernel_rfl))
def F27_j9 (R : ER) (x0 x1 x2 x3 x4 x5 x12 : Value) : WP :=
  cal Pg R 77 ⟨[x1]⟩ fun v52 =>
  pv (unO .not v52) fun v53 =>
  gd v53 false (pv (some x2)) fun v54 =>
  gd v53 false (cal Pg R 74 ⟨[v54]⟩) fun v55 =>
  gd v53 false (pv (unO .not v55)) fun v56 =>
  pv (pickO v53 (.bool true) v56) fun v57 =>
  gd v57 false (pv (some x4)) fun v58 =>
  gd v57 false (cal Pg R 78 ⟨[v58, (.int .i64 255)]⟩) fun v59 =>
  gd v57 false (pv (unO .not v59)) fun v60 =>
  pv (pickO v57 (.bool true) v60) fun v61 =>
  gd v61 false (pv (some x5)) fun v62 =>
  gd v61 false (cal Pg R 78 ⟨[v62, (.int .i64 4096)]⟩) fun v63 =>
  gd v61 false (pv (unO .not v63)) fun v64 =>
  pv (pickO v61 (.bool true) v64) fun v65 =>
  cnd v65 (
   pv (bldO [.int .i64 0, .int .i64 0, .int .i64 0, .int .i64 0, .int .i64 0, .int .i64 0, .int .i64 0, .slice none 0 0, .int .i64 0, .int .i64 0] []) fun v66 =>
   stN 10 x12 v66 fun _ =>
   ldN 10 x12 fun v67 => R (.returned (.tuple ⟨[v67, (.bool false), (.int .i64 34)]⟩))) (
   F27_j2 R x0 x1 x2 x3 x4 x5 x12)
theorem F27_j9_ok (R : ER) (e : Env) : den Pg R (cd Tryz.f27 [1,1,0]) e (setN (kont Pg R Tryz.f27) (fun e => F27_j2 R (e 0) (e 1) (e 2) (e 3) (e 4) (e 5) (e 12))) = (F27_j9 R (e 0) (e 1) (e 2) (e 3) (e 4) (e 5) (e 12)) := (by kernel_rfl)
def F27_j1 (R : ER) (x0 x1 x2 x3 x4 x5 x12 : Value) : WP :=
  F27_j9 R x0 x1 x2 x3 x4 x5 x12
theorem F27_j1_ok (R : ER) (e : Env) : den Pg R (cd Tryz.f27 [1,1]) e (kont Pg R Tryz.f27) = (F27_j1 R (e 0) (e 1) (e 2) (e 3) (e 4) (e 5) (e 12)) := (den_join Pg R 0 (cd Tryz.f27 [1,1]) (cd Tryz.f27 [1,1,1]) e (kont Pg R Tryz.f27) (fun e => F27_j2 R (e 0) (e 1) (e 2) (e 3) (e 4) (e 5) (e 12)) _ (by kernel_rfl) (fun e => F27_j2_ok R e) (den_conv Pg R (pre 0 (cd Tryz.f27 [1,1])) (cd Tryz.f27 [1,1,0]) e (setN (kont Pg R Tryz.f27) (fun e => F27_j2 R (e 0) (e 1) (e 2) (e 3) (e 4) (e 5) (e 12))) _ (by kernel_rfl) (F27_j9_ok R e)))
def F27 (R : ER) (x0 x1 x2 x3 x4 x5 : Value) : WP :=
  al Pg 32 fun v68 =>
  pv (eqNilP x0) fun v69 =>
  cnd v69 (
   pv (bldO [.int .i64 0, .int .i64 0, .int .i64 0, .int .i64 0, .int .i64 0, .int .i64 0, .int .i64 0, .slice none 0 0, .int .i64 0, .int .i64 0] []) fun v70 =>
   stN 10 v68 v70 fun _ =>
   ldN 10 v68 fun v71 => R (.returned (.tuple ⟨[v71, (.bool false), (.int .i64 35)]⟩))) (
   F27_j1 R x0 x1 x2 x3 x4 x5 v68)
theorem F27_den (R : ER) (x0 x1 x2 x3 x4 x5 : Value) : den Pg R (cd Tryz.f27 []) (argsEnv [x0, x1, x2, x3, x4, x5]) (kont Pg R Tryz.f27) = F27 R x0 x1 x2 x3 x4 x5 :=
  have h : ∀ e, den Pg R (cd Tryz.f27 []) e (kont Pg R Tryz.f27) = F27 R (e 0) (e 1) (e 2) (e 3) (e 4) (e 5) := fun e => (den_join Pg R 1 (cd Tryz.f27 []) (cd Tryz.f27 [1,1]) e (kont Pg R Tryz.f27) (fun e => F27_j1 R (e 0) (e 1) (e 2) (e 3) (e 4) (e 5) (e 12)) _ (by kernel_rfl) (fun e => F27_j1_ok R e) (by kernel_rfl))
  h _
theorem F27_calls {R : ER} {x0 x1 x2 x3 x4 x5 : Value} {w : World} (h : F27 R x0 x1 x2 x3 x4 x5 w) : Calls Pg 27 ⟨[x0, x1, x2, x3, x4, x5]⟩ w R :=
  calls_of_den Tryz.func27 (by kernel_rfl) (by kernel_rfl) (F27_den R x0 x1 x2 x3 x4 x5) h
/-! ### 28: channels_Table_Read -/
def F28_j2 (R : ER) (x3 x4 x12 : Value) : WP :=
  drewV (
  pv (nilO x12) fun v1 =>
  pv (faO 5 v1) fun v2 =>
  ld1 v2 fun v3 =>
  pv (nilO x12) fun v4 =>
  pv (faO 5 v4) fun v5 =>
  ld1 v5 fun v6 =>
  pv (lenS v6) fun v7 =>
  pv (bin .sub v7 x3) fun v8 =>
  pv (min2I x4 v8) fun v9 =>
  pv (bin .add x3 v9) fun v10 =>
  pv (slS 1 v3 (some x3) (some v10)) fun v11 =>
  mem fun w13 => cal Pg noR 32 ⟨[v11]⟩ fun v12 =>
  R (.returned (.tuple ⟨[v12, (.int .i64 0)]⟩)))
theorem F28_j2_ok (R : ER) (e : Env) : den Pg R (cd Tryz.f28 [1,1,1,1]) e (kont Pg R Tryz.f28) = (F28_j2 R (e 3) (e 4) (e 12)) := by kernel_rfl
def F28_j3 (R : ER) (x3 x4 x12 : Value) : WP :=
  pv (bin .lss x3 (.int .i64 0)) fun v14 =>
  gd v14 false (pv (some x4)) fun v15 =>
  gd v14 false (pv (bin .lss v15 (.int .i64 0))) fun v16 =>
  pv (pickO v14 (.bool true) v16) fun v17 =>
  gd v17 false (pv (some x3)) fun v18 =>
  gd v17 false (pv (some x12)) fun v19 =>
  gd v17 false (pv (nilO v19)) fun v20 =>
  gd v17 false (pv (faO 5 v20)) fun v21 =>
  gd v17 false (ld1 v21) fun v22 =>
  gd v17 false (pv (lenS v22)) fun v23 =>
  gd v17 false (pv (bin .gtr v18 v23)) fun v24 =>
  pv (pickO v17 (.bool true) v24) fun v25 =>
  cnd v25 (
   R (.returned (.tuple ⟨[(.slice none 0 0), (.int .i64 34)]⟩))) (
   F28_j2 R x3 x4 x12)
theorem F28_j3_ok (R : ER) (e : Env) : den Pg R (cd Tryz.f28 [1,1,1,0]) e (setN (kont Pg R Tryz.f28) (fun e => F28_j2 R (e 3) (e 4) (e 12))) = (F28_j3 R (e 3) (e 4) (e 12)) := (by kernel_rfl)
def F28_j1 (R : ER) (x3 x4 x12 : Value) : WP :=
  F28_j3 R x3 x4 x12
theorem F28_j1_ok (R : ER) (e : Env) : den Pg R (cd Tryz.f28 [1,1,1]) e (kont Pg R Tryz.f28) = (F28_j1 R (e 3) (e 4) (e 12)) := (den_join Pg R 0 (cd Tryz.f28 [1,1,1]) (cd Tryz.f28 [1,1,1,1]) e (kont Pg R Tryz.f28) (fun e => F28_j2 R (e 3) (e 4) (e 12)) _ (by kernel_rfl) (fun e => F28_j2_ok R e) (den_conv Pg R (pre 0 (cd Tryz.f28 [1,1,1])) (cd Tryz.f28 [1,1,1,0]) e (setN (kont Pg R Tryz.f28) (fun e => F28_j2 R (e 3) (e 4) (e 12))) _ (by kernel_rfl) (F28_j3_ok R e)))
def F28 (R : ER) (x0 x1 x2 x3 x4 : Value) : WP :=
  cal Pg R 87 ⟨[x0, x1, x2, (.slice none 0 0)]⟩ fun v26 =>
  pv (extO 0 v26) fun v27 =>
  pv (extO 1 v26) fun v28 =>
  pv (bin .neq v28 (.int .i64 0)) fun v29 =>
  cnd v29 (
   R (.returned (.tuple ⟨[(.slice none 0 0), v28]⟩))) (
   F28_j1 R x3 x4 v27)
theorem F28_den (R : ER) (x0 x1 x2 x3 x4 : Value) : den Pg R (cd Tryz.f28 []) (argsEnv [x0, x1, x2, x3, x4]) (kont Pg R Tryz.f28) = F28 R x0 x1 x2 x3 x4 :=
  have h : ∀ e, den Pg R (cd Tryz.f28 []) e (kont Pg R Tryz.f28) = F28 R (e 0) (e 1) (e 2) (e 3) (e 4) := fun e => (den_join Pg R 2 (cd Tryz.f28 []) (cd Tryz.f28 [1,1,1]) e (kont Pg R Tryz.f28) (fun e => F28_j1 R (e 3) (e 4) (e 12)) _ (by kernel_rfl) (fun e => F28_j1_ok R e) (by kernel_rfl))
  h _
theorem F28_calls {R : ER} {x0 x1 x2 x3 x4 : Value} {w : World} (h : F28 R x0 x1 x2 x3 x4 w) : Calls Pg 28 ⟨[x0, x1, x2, x3, x4]⟩ w R :=
  calls_of_den Tryz.func28 (by kernel_rfl) (by kernel_rfl) (F28_den R x0 x1 x2 x3 x4) h
/-! ### 29: channels_Table_Reply -/
def F29_j2 (R : ER) (x0 x3 x4 x12 : Value) : WP :=
  cal Pg R 88 ⟨[x12, (.int .i64 0), x4]⟩ fun v1 =>
  drewV (
  pv (nilO x0) fun v2 =>
  pv (faO 5 v2) fun v3 =>
  ld1 v3 fun v4 =>
  pv (nilO x12) fun v5 =>
  pv (faO 1 v5) fun v6 =>
  ld1 v6 fun v7 =>
  pv (nilO x12) fun v8 =>
  pv (faO 6 v8) fun v9 =>
  ld1 v9 fun v10 =>
  pv (nilO x12) fun v11 =>
  pv (faO 7 v11) fun v12 =>
  ld1 v12 fun v13 =>
  pv (slS 1 v10 none (some v13)) fun v14 =>
  mem fun w16 => unitV Pg noR (Instr.mapUpdate 86 v4 v7 v14) fun v15 =>
  cal Pg R 89 ⟨[x0, x12, (.int .i64 0), x3]⟩ fun v17 =>
  valV Pg R (Instr.buildSlice 39 1 ⟨[(0, v17)]⟩) fun v18 =>
  R (.returned (.tuple ⟨[v18, (.int .i64 0)]⟩)))
theorem F29_j2_ok (R : ER) (e : Env) : den Pg R (cd Tryz.f29 [1,1,1,1]) e (kont Pg R Tryz.f29) = (F29_j2 R (e 0) (e 3) (e 4) (e 12)) := by kernel_rfl
def F29_j1 (R : ER) (x0 x3 x4 x12 : Value) : WP :=
  pv (lenS x4) fun v19 =>
  pv (nilO x12) fun v20 =>
  pv (faO 6 v20) fun v21 =>
  ld1 v21 fun v22 =>
  pv (lenS v22) fun v23 =>
  pv (bin .gtr v19 v23) fun v24 =>
  cnd v24 (
   R (.returned (.tuple ⟨[(.slice none 0 0), (.int .i64 34)]⟩))) (
   F29_j2 R x0 x3 x4 x12)
theorem F29_j1_ok (R : ER) (e : Env) : den Pg R (cd Tryz.f29 [1,1,1]) e (kont Pg R Tryz.f29) = (F29_j1 R (e 0) (e 3) (e 4) (e 12)) := (den_join Pg R 0 (cd Tryz.f29 [1,1,1]) (cd Tryz.f29 [1,1,1,1]) e (kont Pg R Tryz.f29) (fun e => F29_j2 R (e 0) (e 3) (e 4) (e 12)) _ (by kernel_rfl) (fun e => F29_j2_ok R e) (by kernel_rfl))
def F29 (R : ER) (x0 x1 x2 x3 x4 : Value) : WP :=
  cal Pg R 87 ⟨[x0, x1, x2, x4]⟩ fun v25 =>
  pv (extO 0 v25) fun v26 =>
  pv (extO 1 v25) fun v27 =>
  pv (bin .neq v27 (.int .i64 0)) fun v28 =>
  cnd v28 (
   R (.returned (.tuple ⟨[(.slice none 0 0), v27]⟩))) (
   F29_j1 R x0 x3 x4 v26)
theorem F29_den (R : ER) (x0 x1 x2 x3 x4 : Value) : den Pg R (cd Tryz.f29 []) (argsEnv [x0, x1, x2, x3, x4]) (kont Pg R Tryz.f29) = F29 R x0 x1 x2 x3 x4 :=
  have h : ∀ e, den Pg R (cd Tryz.f29 []) e (kont Pg R Tryz.f29) = F29 R (e 0) (e 1) (e 2) (e 3) (e 4) := fun e => (den_join Pg R 2 (cd Tryz.f29 []) (cd Tryz.f29 [1,1,1]) e (kont Pg R Tryz.f29) (fun e => F29_j1 R (e 0) (e 3) (e 4) (e 12)) _ (by kernel_rfl) (fun e => F29_j1_ok R e) (by kernel_rfl))
  h _
theorem F29_calls {R : ER} {x0 x1 x2 x3 x4 : Value} {w : World} (h : F29 R x0 x1 x2 x3 x4 w) : Calls Pg 29 ⟨[x0, x1, x2, x3, x4]⟩ w R :=
  calls_of_den Tryz.func29 (by kernel_rfl) (by kernel_rfl) (F29_den R x0 x1 x2 x3 x4) h
/-! ### 30: channels_Table_Destroy -/
def F30_j2 (R : ER) (x0 x1 x2 : Value) : WP :=
  cal Pg R 82 ⟨[x0, x1, x2]⟩ fun v1 =>
  pv (extO 0 v1) fun v2 =>
  pv (extO 1 v1) fun v3 =>
  pv (bin .neq v3 (.int .i64 0)) fun v4 =>
  cnd v4 (
   R (.returned (.tuple ⟨[(.slice none 0 0), v3]⟩))) (
   cal Pg R 90 ⟨[x0, v2]⟩ fun v5 =>
  R (.returned (.tuple ⟨[v5, (.int .i64 0)]⟩)))
theorem F30_j2_ok (R : ER) (e : Env) : den Pg R (cd Tryz.f30 [1,1,1]) e (kont Pg R Tryz.f30) = (F30_j2 R (e 0) (e 1) (e 2)) := (by kernel_rfl)
def F30_j1 (R : ER) (x0 x1 x2 : Value) : WP :=
  cal Pg R 74 ⟨[x1]⟩ fun v6 =>
  pv (unO .not v6) fun v7 =>
  cnd v7 (
   R (.returned (.tuple ⟨[(.slice none 0 0), (.int .i64 34)]⟩))) (
   F30_j2 R x0 x1 x2)
theorem F30_j1_ok (R : ER) (e : Env) : den Pg R (cd Tryz.f30 [1,1]) e (kont Pg R Tryz.f30) = (F30_j1 R (e 0) (e 1) (e 2)) := (den_join Pg R 0 (cd Tryz.f30 [1,1]) (cd Tryz.f30 [1,1,1]) e (kont Pg R Tryz.f30) (fun e => F30_j2 R (e 0) (e 1) (e 2)) _ (by kernel_rfl) (fun e => F30_j2_ok R e) (by kernel_rfl))
def F30 (R : ER) (x0 x1 x2 : Value) : WP :=
  pv (eqNilP x0) fun v8 =>
  cnd v8 (
   R (.returned (.tuple ⟨[(.slice none 0 0), (.int .i64 35)]⟩))) (
   F30_j1 R x0 x1 x2)
theorem F30_den (R : ER) (x0 x1 x2 : Value) : den Pg R (cd Tryz.f30 []) (argsEnv [x0, x1, x2]) (kont Pg R Tryz.f30) = F30 R x0 x1 x2 :=
  have h : ∀ e, den Pg R (cd Tryz.f30 []) e (kont Pg R Tryz.f30) = F30 R (e 0) (e 1) (e 2) := fun e => (den_join Pg R 1 (cd Tryz.f30 []) (cd Tryz.f30 [1,1]) e (kont Pg R Tryz.f30) (fun e => F30_j1 R (e 0) (e 1) (e 2)) _ (by kernel_rfl) (fun e => F30_j1_ok R e) (by kernel_rfl))
  h _
theorem F30_calls {R : ER} {x0 x1 x2 : Value} {w : World} (h : F30 R x0 x1 x2 w) : Calls Pg 30 ⟨[x0, x1, x2]⟩ w R :=
  calls_of_den Tryz.func30 (by kernel_rfl) (by kernel_rfl) (F30_den R x0 x1 x2) h
/-! ### 31: channels_Table_Detach -/
def F31_j4 (R : ER) (x3 x8 : Value) : WP :=
  al Pg 39 fun v1 =>
  drewV (
  ld1 x8 fun v2 =>
  pv (nilO v2) fun v3 =>
  pv (faO 0 v3) fun v4 =>
  ld1 v4 fun v5 =>
  pv (nilO v5) fun v6 =>
  pv (faO 5 v6) fun v7 =>
  ld1 v7 fun v8 =>
  ld1 x8 fun v9 =>
  pv (nilO v9) fun v10 =>
  pv (faO 1 v10) fun v11 =>
  ld1 v11 fun v12 =>
  mem fun w14 => blt Pg noR .delete ⟨[101,3]⟩ 0 ⟨[false, false]⟩ ⟨[v8, v12]⟩ fun v13 =>
  drewV (
  ld1 x8 fun v15 =>
  pv (nilO v15) fun v16 =>
  pv (faO 0 v16) fun v17 =>
  ld1 v17 fun v18 =>
  ld1 x8 fun v19 =>
  pv (nilO v19) fun v20 =>
  pv (faO 0 v20) fun v21 =>
  ld1 v21 fun v22 =>
  pv (nilO v22) fun v23 =>
  pv (faO 3 v23) fun v24 =>
  ld1 v24 fun v25 =>
  mem fun w27 => cal Pg noR 91 ⟨[v25, (.func (.func 92) ⟨[]⟩ ⟨[x8, v1, x3]⟩)]⟩ fun v26 =>
  rd1 v17 v18 <|
  rd1 x8 v15 <|
  pv (nilO v18) fun v28 =>
  pv (faO 3 v28) fun v29 =>
  mem fun w31 => st1 v29 v26 fun v30 =>
  ld1 v1 fun v32 =>
  R (.returned (.tuple ⟨[v32, (.int .i64 0)]⟩))))
theorem F31_j4_ok (R : ER) (e : Env) : den Pg R (cd Tryz.f31 [1,1,1,1,1,1,1]) e (kont Pg R Tryz.f31) = (F31_j4 R (e 3) (e 8)) := by kernel_rfl
def F31_j3 (R : ER) (x1 x2 x3 x8 : Value) : WP :=
  ld1 x3 fun v33 =>
  pv (nilO v33) fun v34 =>
  pv (faO 1 v34) fun v35 =>
  ld1 v35 fun v36 =>
  pv (bldO [.int .i64 0, .int .i64 0] [(0,1, x1), (1,1, x2)]) fun v37 =>
  blt Pg R .delete ⟨[82,136]⟩ 0 ⟨[false, false]⟩ ⟨[v36, v37]⟩ fun _ =>
  ld1 x8 fun v38 =>
  pv (nilO v38) fun v39 =>
  pv (faO 0 v39) fun v40 =>
  ld1 v40 fun v41 =>
  pv (eqNilP v41) fun v42 =>
  cnd v42 (
   R (.returned (.tuple ⟨[(.slice none 0 0), (.int .i64 0)]⟩))) (
   F31_j4 R x3 x8)
theorem F31_j3_ok (R : ER) (e : Env) : den Pg R (cd Tryz.f31 [1,1,1,1,1]) e (kont Pg R Tryz.f31) = (F31_j3 R (e 1) (e 2) (e 3) (e 8)) := (den_join Pg R 1 (cd Tryz.f31 [1,1,1,1,1]) (cd Tryz.f31 [1,1,1,1,1,1,1]) e (kont Pg R Tryz.f31) (fun e => F31_j4 R (e 3) (e 8)) _ (by kernel_rfl) (fun e => F31_j4_ok R e) (by kernel_rfl))
def F31_j2 (R : ER) (x1 x2 x3 : Value) : WP :=
  ld1 x3 fun v43 =>
  pv (nilO v43) fun v44 =>
  pv (faO 1 v44) fun v45 =>
  ld1 v45 fun v46 =>
  pv (bldO [.int .i64 0, .int .i64 0] [(0,1, x1), (1,1, x2)]) fun v47 =>
  valV Pg R (Instr.lookup 82 v46 v47 true) fun v48 =>
  pv (extO 0 v48) fun v49 =>
  pv (extO 1 v48) fun v50 =>
  al Pg 108 fun v51 =>
  st1 v51 v49 fun _ =>
  pv (unO .not v50) fun v52 =>
  cnd v52 (
   R (.returned (.tuple ⟨[(.slice none 0 0), (.int .i64 3)]⟩))) (
   F31_j3 R x1 x2 x3 v51)
theorem F31_j2_ok (R : ER) (e : Env) : den Pg R (cd Tryz.f31 [1,1,1]) e (kont Pg R Tryz.f31) = (F31_j2 R (e 1) (e 2) (e 3)) := (den_join Pg R 1 (cd Tryz.f31 [1,1,1]) (cd Tryz.f31 [1,1,1,1,1]) e (kont Pg R Tryz.f31) (fun e => F31_j3 R (e 1) (e 2) (e 3) (e 8)) _ (by kernel_rfl) (fun e => F31_j3_ok R e) (by kernel_rfl))
def F31_j1 (R : ER) (x1 x2 x3 : Value) : WP :=
  cal Pg R 74 ⟨[x1]⟩ fun v53 =>
  pv (unO .not v53) fun v54 =>
  cnd v54 (
   R (.returned (.tuple ⟨[(.slice none 0 0), (.int .i64 34)]⟩))) (
   F31_j2 R x1 x2 x3)
theorem F31_j1_ok (R : ER) (e : Env) : den Pg R (cd Tryz.f31 [1,1]) e (kont Pg R Tryz.f31) = (F31_j1 R (e 1) (e 2) (e 3)) := (den_join Pg R 0 (cd Tryz.f31 [1,1]) (cd Tryz.f31 [1,1,1]) e (kont Pg R Tryz.f31) (fun e => F31_j2 R (e 1) (e 2) (e 3)) _ (by kernel_rfl) (fun e => F31_j2_ok R e) (by kernel_rfl))
def F31 (R : ER) (x0 x1 x2 : Value) : WP :=
  bx 25 x0 fun v55 =>
  ld1 v55 fun v56 =>
  pv (eqNilP v56) fun v57 =>
  cnd v57 (
   R (.returned (.tuple ⟨[(.slice none 0 0), (.int .i64 35)]⟩))) (
   F31_j1 R x1 x2 v55)
theorem F31_den (R : ER) (x0 x1 x2 : Value) : den Pg R (cd Tryz.f31 []) (argsEnv [x0, x1, x2]) (kont Pg R Tryz.f31) = F31 R x0 x1 x2 :=
  have h : ∀ e, den Pg R (cd Tryz.f31 []) e (kont Pg R Tryz.f31) = F31 R (e 0) (e 1) (e 2) := fun e => (den_join Pg R 1 (cd Tryz.f31 []) (cd Tryz.f31 [1,1]) e (kont Pg R Tryz.f31) (fun e => F31_j1 R (e 1) (e 2) (e 3)) _ (by kernel_rfl) (fun e => F31_j1_ok R e) (by kernel_rfl))
  h _
theorem F31_calls {R : ER} {x0 x1 x2 : Value} {w : World} (h : F31 R x0 x1 x2 w) : Calls Pg 31 ⟨[x0, x1, x2]⟩ w R :=
  calls_of_den Tryz.func31 (by kernel_rfl) (by kernel_rfl) (F31_den R x0 x1 x2) h
/-! ### 32: slices_Clone -/
def F32 (R : ER) (x0 : Value) : WP :=
  pv (eqNilS x0) fun v1 =>
  cnd v1 (
   R (.returned (.slice none 0 0))) (
   valV Pg R (Instr.buildSlice 30 0 ⟨[]⟩) fun v2 =>
  blt Pg R .append ⟨[30,30]⟩ 30 ⟨[false, false]⟩ ⟨[v2, x0]⟩ fun v3 =>
  R (.returned v3))
theorem F32_den (R : ER) (x0 : Value) : den Pg R (cd Tryz.f32 []) (argsEnv [x0]) (kont Pg R Tryz.f32) = F32 R x0 :=
  have h : ∀ e, den Pg R (cd Tryz.f32 []) e (kont Pg R Tryz.f32) = F32 R (e 0) := fun e => by kernel_rfl
  h _
theorem F32_calls {R : ER} {x0 : Value} {w : World} (h : F32 R x0 w) : Calls Pg 32 ⟨[x0]⟩ w R :=
  calls_of_den Tryz.func32 (by kernel_rfl) (by kernel_rfl) (F32_den R x0) h
/-! ### 33: channels_Table_Fail -/
def F33_j1 (R : ER) (x0 x3 x10 : Value) : WP :=
  pv (bin .eql x3 (.int .i64 0)) fun v1 =>
  cnd v1 (
   R (.returned (.tuple ⟨[(.slice none 0 0), (.int .i64 14)]⟩))) (
   cal Pg R 89 ⟨[x0, x10, x3, (.int .i64 0)]⟩ fun v2 =>
  valV Pg R (Instr.buildSlice 39 1 ⟨[(0, v2)]⟩) fun v3 =>
  R (.returned (.tuple ⟨[v3, (.int .i64 0)]⟩)))
theorem F33_j1_ok (R : ER) (e : Env) : den Pg R (cd Tryz.f33 [1,1,1]) e (kont Pg R Tryz.f33) = (F33_j1 R (e 0) (e 3) (e 10)) := by kernel_rfl
def F33 (R : ER) (x0 x1 x2 x3 : Value) : WP :=
  cal Pg R 87 ⟨[x0, x1, x2, (.slice none 0 0)]⟩ fun v4 =>
  pv (extO 0 v4) fun v5 =>
  pv (extO 1 v4) fun v6 =>
  pv (bin .neq v6 (.int .i64 0)) fun v7 =>
  cnd v7 (
   R (.returned (.tuple ⟨[(.slice none 0 0), v6]⟩))) (
   F33_j1 R x0 x3 v5)
theorem F33_den (R : ER) (x0 x1 x2 x3 : Value) : den Pg R (cd Tryz.f33 []) (argsEnv [x0, x1, x2, x3]) (kont Pg R Tryz.f33) = F33 R x0 x1 x2 x3 :=
  have h : ∀ e, den Pg R (cd Tryz.f33 []) e (kont Pg R Tryz.f33) = F33 R (e 0) (e 1) (e 2) (e 3) := fun e => (den_join Pg R 2 (cd Tryz.f33 []) (cd Tryz.f33 [1,1,1]) e (kont Pg R Tryz.f33) (fun e => F33_j1 R (e 0) (e 3) (e 10)) _ (by kernel_rfl) (fun e => F33_j1_ok R e) (by kernel_rfl))
  h _
theorem F33_calls {R : ER} {x0 x1 x2 x3 : Value} {w : World} (h : F33 R x0 x1 x2 x3 w) : Calls Pg 33 ⟨[x0, x1, x2, x3]⟩ w R :=
  calls_of_den Tryz.func33 (by kernel_rfl) (by kernel_rfl) (F33_den R x0 x1 x2 x3) h
/-! ### 34: channels_Table_Write -/
def F34_j1 (R : ER) (x3 x4 x12 : Value) : WP :=
  pv (bin .lss x3 (.int .i64 0)) fun v1 =>
  gd v1 false (pv (some x3)) fun v2 =>
  gd v1 false (pv (some x12)) fun v3 =>
  gd v1 false (pv (nilO v3)) fun v4 =>
  gd v1 false (pv (faO 6 v4)) fun v5 =>
  gd v1 false (ld1 v5) fun v6 =>
  gd v1 false (pv (lenS v6)) fun v7 =>
  gd v1 false (pv (bin .gtr v2 v7)) fun v8 =>
  pv (pickO v1 (.bool true) v8) fun v9 =>
  gd v9 false (pv (some x4)) fun v10 =>
  gd v9 false (pv (lenS v10)) fun v11 =>
  gd v9 false (pv (some x12)) fun v12 =>
  gd v9 false (pv (nilO v12)) fun v13 =>
  gd v9 false (pv (faO 6 v13)) fun v14 =>
  gd v9 false (ld1 v14) fun v15 =>
  gd v9 false (pv (lenS v15)) fun v16 =>
  gd v9 false (pv (some x3)) fun v17 =>
  gd v9 false (pv (bin .sub v16 v17)) fun v18 =>
  gd v9 false (pv (bin .gtr v11 v18)) fun v19 =>
  pv (pickO v9 (.bool true) v19) fun v20 =>
  cnd v20 (
   R (.returned (.tuple ⟨[(.int .i64 0), (.int .i64 34)]⟩))) (
   cal Pg R 88 ⟨[x12, x3, x4]⟩ fun v21 =>
  pv (lenS x4) fun v22 =>
  R (.returned (.tuple ⟨[v22, (.int .i64 0)]⟩)))
theorem F34_j1_ok (R : ER) (e : Env) : den Pg R (cd Tryz.f34 [1,1,1]) e (kont Pg R Tryz.f34) = (F34_j1 R (e 3) (e 4) (e 12)) := (by kernel_rfl)
def F34 (R : ER) (x0 x1 x2 x3 x4 : Value) : WP :=
  cal Pg R 87 ⟨[x0, x1, x2, x4]⟩ fun v23 =>
  pv (extO 0 v23) fun v24 =>
  pv (extO 1 v23) fun v25 =>
  pv (bin .neq v25 (.int .i64 0)) fun v26 =>
  cnd v26 (
   R (.returned (.tuple ⟨[(.int .i64 0), v25]⟩))) (
   F34_j1 R x3 x4 v24)
theorem F34_den (R : ER) (x0 x1 x2 x3 x4 : Value) : den Pg R (cd Tryz.f34 []) (argsEnv [x0, x1, x2, x3, x4]) (kont Pg R Tryz.f34) = F34 R x0 x1 x2 x3 x4 :=
  have h : ∀ e, den Pg R (cd Tryz.f34 []) e (kont Pg R Tryz.f34) = F34 R (e 0) (e 1) (e 2) (e 3) (e 4) := fun e => (den_join Pg R 2 (cd Tryz.f34 []) (cd Tryz.f34 [1,1,1]) e (kont Pg R Tryz.f34) (fun e => F34_j1 R (e 3) (e 4) (e 12)) _ (by kernel_rfl) (fun e => F34_j1_ok R e) (by kernel_rfl))
  h _
theorem F34_calls {R : ER} {x0 x1 x2 x3 x4 : Value} {w : World} (h : F34 R x0 x1 x2 x3 x4 w) : Calls Pg 34 ⟨[x0, x1, x2, x3, x4]⟩ w R :=
  calls_of_den Tryz.func34 (by kernel_rfl) (by kernel_rfl) (F34_den R x0 x1 x2 x3 x4) h
/-! ### 35: channels_Table_Pulse -/
def F35_j4 (R : ER) (x0 x1 x3 x4 x5 x14 : Value) : WP :=
  drewV (
  pv (nilO x14) fun v1 =>
  pv (faO 0 v1) fun v2 =>
  ld1 v2 fun v3 =>
  mem fun w5 => cal Pg noR 79 ⟨[x0, x3]⟩ fun v4 =>
  rd1 v2 v3 <|
  pv (nilO x14) fun v6 =>
  pv (faO 1 v6) fun v7 =>
  ld1S [w5] v7 fun v8 =>
  pv (bldO [.int .i64 0, .int .i64 0, .int .i64 0, .int .i64 0, .int .i64 0, .pointer none, .slice none 0 0, .int .i64 0, .int .i64 0, .int .i64 0, .int .i64 0] [(0,2, v4), (3,1, x1), (4,1, v8), (8,1, x4), (9,1, x5)]) fun v9 =>
  mem fun w11 => cal Pg noR 94 ⟨[x0, v3, v9, (.int .i64 2)]⟩ fun v10 =>
  pv (extO 0 v10) fun v12 =>
  pv (extO 1 v10) fun v13 =>
  R (.returned (.tuple ⟨[v12, v13]⟩)))
theorem F35_j4_ok (R : ER) (e : Env) : den Pg R (cd Tryz.f35 [1,1,1,1,1,1]) e (kont Pg R Tryz.f35) = (F35_j4 R (e 0) (e 1) (e 3) (e 4) (e 5) (e 14)) := by kernel_rfl
def F35_j3 (R : ER) (x0 x1 x3 x4 x5 x14 : Value) : WP :=
  pv (nilO x14) fun v14 =>
  pv (faO 0 v14) fun v15 =>
  ld1 v15 fun v16 =>
  pv (eqNilP v16) fun v17 =>
  cnd v17 (
   R (.returned (.tuple ⟨[(.slice none 0 0), (.int .i64 4)]⟩))) (
   F35_j4 R x0 x1 x3 x4 x5 x14)
theorem F35_j3_ok (R : ER) (e : Env) : den Pg R (cd Tryz.f35 [1,1,1,1,1]) e (kont Pg R Tryz.f35) = (F35_j3 R (e 0) (e 1) (e 3) (e 4) (e 5) (e 14)) := (den_join Pg R 0 (cd Tryz.f35 [1,1,1,1,1]) (cd Tryz.f35 [1,1,1,1,1,1]) e (kont Pg R Tryz.f35) (fun e => F35_j4 R (e 0) (e 1) (e 3) (e 4) (e 5) (e 14)) _ (by kernel_rfl) (fun e => F35_j4_ok R e) (by kernel_rfl))
def F35_j2 (R : ER) (x0 x1 x2 x3 x4 x5 : Value) : WP :=
  pv (nilO x0) fun v18 =>
  pv (faO 1 v18) fun v19 =>
  ld1 v19 fun v20 =>
  pv (bldO [.int .i64 0, .int .i64 0] [(0,1, x1), (1,1, x2)]) fun v21 =>
  valV Pg R (Instr.lookup 82 v20 v21 true) fun v22 =>
  pv (extO 0 v22) fun v23 =>
  pv (extO 1 v22) fun v24 =>
  pv (unO .not v24) fun v25 =>
  cnd v25 (
   R (.returned (.tuple ⟨[(.slice none 0 0), (.int .i64 3)]⟩))) (
   F35_j3 R x0 x1 x3 x4 x5 v23)
theorem F35_j2_ok (R : ER) (e : Env) : den Pg R (cd Tryz.f35 [1,1,1]) e (kont Pg R Tryz.f35) = (F35_j2 R (e 0) (e 1) (e 2) (e 3) (e 4) (e 5)) := (den_join Pg R 1 (cd Tryz.f35 [1,1,1]) (cd Tryz.f35 [1,1,1,1,1]) e (kont Pg R Tryz.f35) (fun e => F35_j3 R (e 0) (e 1) (e 3) (e 4) (e 5) (e 14)) _ (by kernel_rfl) (fun e => F35_j3_ok R e) (by kernel_rfl))
def F35_j5 (R : ER) (x0 x1 x2 x3 x4 x5 : Value) : WP :=
  cal Pg R 74 ⟨[x1]⟩ fun v26 =>
  pv (unO .not v26) fun v27 =>
  gd v27 false (pv (some x3)) fun v28 =>
  gd v27 false (cal Pg R 78 ⟨[v28, (.int .i64 255)]⟩) fun v29 =>
  gd v27 false (pv (unO .not v29)) fun v30 =>
  pv (pickO v27 (.bool true) v30) fun v31 =>
  gd v31 false (pv (some x4)) fun v32 =>
  gd v31 false (cal Pg R 78 ⟨[v32, (.int .i64 127)]⟩) fun v33 =>
  gd v31 false (pv (unO .not v33)) fun v34 =>
  pv (pickO v31 (.bool true) v34) fun v35 =>
  cnd v35 (
   R (.returned (.tuple ⟨[(.slice none 0 0), (.int .i64 34)]⟩))) (
   F35_j2 R x0 x1 x2 x3 x4 x5)
theorem F35_j5_ok (R : ER) (e : Env) : den Pg R (cd Tryz.f35 [1,1,0]) e (setN (kont Pg R Tryz.f35) (fun e => F35_j2 R (e 0) (e 1) (e 2) (e 3) (e 4) (e 5))) = (F35_j5 R (e 0) (e 1) (e 2) (e 3) (e 4) (e 5)) := (by kernel_rfl)
def F35_j1 (R : ER) (x0 x1 x2 x3 x4 x5 : Value) : WP :=
  F35_j5 R x0 x1 x2 x3 x4 x5
theorem F35_j1_ok (R : ER) (e : Env) : den Pg R (cd Tryz.f35 [1,1]) e (kont Pg R Tryz.f35) = (F35_j1 R (e 0) (e 1) (e 2) (e 3) (e 4) (e 5)) := (den_join Pg R 0 (cd Tryz.f35 [1,1]) (cd Tryz.f35 [1,1,1]) e (kont Pg R Tryz.f35) (fun e => F35_j2 R (e 0) (e 1) (e 2) (e 3) (e 4) (e 5)) _ (by kernel_rfl) (fun e => F35_j2_ok R e) (den_conv Pg R (pre 0 (cd Tryz.f35 [1,1])) (cd Tryz.f35 [1,1,0]) e (setN (kont Pg R Tryz.f35) (fun e => F35_j2 R (e 0) (e 1) (e 2) (e 3) (e 4) (e 5))) _ (by kernel_rfl) (F35_j5_ok R e)))
def F35 (R : ER) (x0 x1 x2 x3 x4 x5 : Value) : WP :=
  pv (eqNilP x0) fun v36 =>
  cnd v36 (
   R (.returned (.tuple ⟨[(.slice none 0 0), (.int .i64 35)]⟩))) (
   F35_j1 R x0 x1 x2 x3 x4 x5)
theorem F35_den (R : ER) (x0 x1 x2 x3 x4 x5 : Value) : den Pg R (cd Tryz.f35 []) (argsEnv [x0, x1, x2, x3, x4, x5]) (kont Pg R Tryz.f35) = F35 R x0 x1 x2 x3 x4 x5 :=
  have h : ∀ e, den Pg R (cd Tryz.f35 []) e (kont Pg R Tryz.f35) = F35 R (e 0) (e 1) (e 2) (e 3) (e 4) (e 5) := fun e => (den_join Pg R 1 (cd Tryz.f35 []) (cd Tryz.f35 [1,1]) e (kont Pg R Tryz.f35) (fun e => F35_j1 R (e 0) (e 1) (e 2) (e 3) (e 4) (e 5)) _ (by kernel_rfl) (fun e => F35_j1_ok R e) (by kernel_rfl))
  h _
theorem F35_calls {R : ER} {x0 x1 x2 x3 x4 x5 : Value} {w : World} (h : F35 R x0 x1 x2 x3 x4 x5 w) : Calls Pg 35 ⟨[x0, x1, x2, x3, x4, x5]⟩ w R :=
  calls_of_den Tryz.func35 (by kernel_rfl) (by kernel_rfl) (F35_den R x0 x1 x2 x3 x4 x5) h
/-! ### 36: channels_Table_Unblock -/
def F36_j6 (R : ER) (x0 x1 x2 : Value) : WP :=
  cal Pg R 95 ⟨[x0, x1]⟩ fun v1 =>
  cal Pg R 93 ⟨[x0, x1, x2, (.int .i64 0)]⟩ fun v2 =>
  valV Pg R (Instr.buildSlice 39 1 ⟨[(0, v2)]⟩) fun v3 =>
  R (.returned (.tuple ⟨[v3, (.int .i64 0)]⟩))
theorem F36_j6_ok (R : ER) (e : Env) : den Pg R (cd Tryz.f36 [1,1,1,1,1,1,0,1,0]) e (inB 1 (kont Pg R Tryz.f36)) = (F36_j6 R (e 0) (e 1) (e 2)) := by kernel_rfl
def F36_j11 (R : ER) (x0 x8 x10 : Value) : WP :=
  pv (nilO x10) fun v4 =>
  pv (faO 8 v4) fun v5 =>
  st1 v5 (.bool true) fun _ =>
  drewV (
  pv (faO 1 x8) fun v6 =>
  ld1 v6 fun v7 =>
  pv (nilO x10) fun v8 =>
  pv (faO 3 v8) fun v9 =>
  ld1 v9 fun v10 =>
  mem fun w12 => cal Pg noR 79 ⟨[x0, v10]⟩ fun v11 =>
  rd1 v6 v7 <|
  pv (nilO x10) fun v13 =>
  pv (faO 0 v13) fun v14 =>
  ld1S [w12] v14 fun v15 =>
  pv (bldO [.int .i64 0, .int .i64 0, .int .i64 0, .int .i64 0, .int .i64 0, .pointer none, .slice none 0 0, .int .i64 0, .int .i64 0, .int .i64 0, .int .i64 0] [(0,2, v11), (3,1, (.int .i64 (-1))), (4,1, (.int .i64 (-1))), (8,1, (.int .i64 (-1))), (9,1, v15)]) fun v16 =>
  mem fun w18 => cal Pg noR 94 ⟨[x0, v7, v16, (.int .i64 0)]⟩ fun v17 =>
  pv (extO 0 v17) fun v19 =>
  pv (extO 1 v17) fun v20 =>
  R (.returned (.tuple ⟨[v19, v20]⟩)))
theorem F36_j11_ok (R : ER) (e : Env) : den Pg R (cd Tryz.f36 [1,1,1,1,1,1,0,1,1,1,1,1,1]) e (inB 1 (kont Pg R Tryz.f36)) = (F36_j11 R (e 0) (e 8) (e 10)) := by kernel_rfl
def F36_j10 (R : ER) (x0 x8 x10 x77 : Value) : WP :=
  cnd x77 (R (.returned (.tuple ⟨[(.slice none 0 0), (.int .i64 5)]⟩))) (F36_j11 R x0 x8 x10)
theorem F36_j10_ok (R : ER) (e : Env) : den Pg R (cd Tryz.f36 [1,1,1,1,1,1,0,1,1,1,1,1]) e (inB 1 (kont Pg R Tryz.f36)) = (F36_j10 R (e 0) (e 8) (e 10) (e 77)) := (den_if Pg R (cd Tryz.f36 [1,1,1,1,1,1,0,1,1,1,1,1]) (cd Tryz.f36 [1,1,1,1,1,1,0,1,1,1,1,1,0]) (cd Tryz.f36 [1,1,1,1,1,1,0,1,1,1,1,1,1]) e (inB 1 (kont Pg R Tryz.f36)) _ (F36_j11 R (e 0) (e 8) (e 10)) _ (by kernel_rfl) rfl (F36_j11_ok R e) (by kernel_rfl))
def F36_j9 (R : ER) (x0 x8 x10 : Value) : WP :=
  pv (nilO x10) fun v21 =>
  pv (faO 8 v21) fun v22 =>
  ld1 v22 fun v23 =>
  F36_j10 R x0 x8 x10 v23
theorem F36_j9_ok (R : ER) (e : Env) : den Pg R (cd Tryz.f36 [1,1,1,1,1,1,0,1,1,1,1]) e (inB 1 (kont Pg R Tryz.f36)) = (F36_j9 R (e 0) (e 8) (e 10)) := (den_join Pg R 0 (cd Tryz.f36 [1,1,1,1,1,1,0,1,1,1,1]) (cd Tryz.f36 [1,1,1,1,1,1,0,1,1,1,1,1]) e (inB 1 (kont Pg R Tryz.f36)) (fun e => F36_j10 R (e 0) (e 8) (e 10) (e 77)) _ (by kernel_rfl) (fun e => F36_j10_ok R e) (by kernel_rfl))
def F36_j8 (R : ER) (x0 x2 x8 x10 x65 : Value) : WP :=
  cnd x65 (cal Pg R 89 ⟨[x0, x10, x2, (.int .i64 0)]⟩ fun v24 =>
  valV Pg R (Instr.buildSlice 39 1 ⟨[(0, v24)]⟩) fun v25 =>
  R (.returned (.tuple ⟨[v25, (.int .i64 0)]⟩))) (F36_j9 R x0 x8 x10)
theorem F36_j8_ok (R : ER) (e : Env) : den Pg R (cd Tryz.f36 [1,1,1,1,1,1,0,1,1,1]) e (inB 1 (kont Pg R Tryz.f36)) = (F36_j8 R (e 0) (e 2) (e 8) (e 10) (e 65)) := (den_if Pg R (cd Tryz.f36 [1,1,1,1,1,1,0,1,1,1]) (cd Tryz.f36 [1,1,1,1,1,1,0,1,1,1,0]) (cd Tryz.f36 [1,1,1,1,1,1,0,1,1,1,1]) e (inB 1 (kont Pg R Tryz.f36)) _ (F36_j9 R (e 0) (e 8) (e 10)) _ (by kernel_rfl) rfl (F36_j9_ok R e) (by kernel_rfl))
def F36_j7 (R : ER) (x0 x2 x8 x10 : Value) : WP :=
  pv (faO 1 x8) fun v26 =>
  ld1 v26 fun v27 =>
  pv (nilO v27) fun v28 =>
  pv (faO 2 v28) fun v29 =>
  ld1 v29 fun v30 =>
  pv (unO .not v30) fun v31 =>
  F36_j8 R x0 x2 x8 x10 v31
theorem F36_j7_ok (R : ER) (e : Env) : den Pg R (cd Tryz.f36 [1,1,1,1,1,1,0,1,1]) e (inB 1 (kont Pg R Tryz.f36)) = (F36_j7 R (e 0) (e 2) (e 8) (e 10)) := (den_join Pg R 0 (cd Tryz.f36 [1,1,1,1,1,1,0,1,1]) (cd Tryz.f36 [1,1,1,1,1,1,0,1,1,1]) e (inB 1 (kont Pg R Tryz.f36)) (fun e => F36_j8 R (e 0) (e 2) (e 8) (e 10) (e 65)) _ (by kernel_rfl) (fun e => F36_j8_ok R e) (by kernel_rfl))
def F36_j5 (R : ER) (x0 x1 x2 x8 x10 x53 : Value) : WP :=
  cnd x53 (F36_j6 R x0 x1 x2) (F36_j7 R x0 x2 x8 x10)
theorem F36_j5_ok (R : ER) (e : Env) : den Pg R (cd Tryz.f36 [1,1,1,1,1,1,0,1]) e (inB 1 (kont Pg R Tryz.f36)) = (F36_j5 R (e 0) (e 1) (e 2) (e 8) (e 10) (e 53)) := (den_if Pg R (cd Tryz.f36 [1,1,1,1,1,1,0,1]) (cd Tryz.f36 [1,1,1,1,1,1,0,1,0]) (cd Tryz.f36 [1,1,1,1,1,1,0,1,1]) e (inB 1 (kont Pg R Tryz.f36)) (F36_j6 R (e 0) (e 1) (e 2)) (F36_j7 R (e 0) (e 2) (e 8) (e 10)) _ (by kernel_rfl) (F36_j6_ok R e) (F36_j7_ok R e) (by kernel_rfl))
def F36_j4 (R : ER) (x0 x1 x2 x8 x10 : Value) : WP :=
  pv (faO 0 x8) fun v32 =>
  ld1 v32 fun v33 =>
  pv (bin .neq v33 (.int .i64 4)) fun v34 =>
  F36_j5 R x0 x1 x2 x8 x10 v34
theorem F36_j4_ok (R : ER) (e : Env) : den Pg R (cd Tryz.f36 [1,1,1,1,1,1]) e (kont Pg R Tryz.f36) = (F36_j4 R (e 0) (e 1) (e 2) (e 8) (e 10)) := (den_block Pg R (cd Tryz.f36 [1,1,1,1,1,1]) 1 (cd Tryz.f36 [1,1,1,1,1,1,0]) e (kont Pg R Tryz.f36) _ (by kernel_rfl) (den_join Pg R 0 (cd Tryz.f36 [1,1,1,1,1,1,0]) (cd Tryz.f36 [1,1,1,1,1,1,0,1]) e (inB 1 (kont Pg R Tryz.f36)) (fun e => F36_j5 R (e 0) (e 1) (e 2) (e 8) (e 10) (e 53)) _ (by kernel_rfl) (fun e => F36_j5_ok R e) (by kernel_rfl)))
def F36_j3 (R : ER) (x0 x1 x2 x8 : Value) : WP :=
  pv (faO 2 x8) fun v35 =>
  ld1 v35 fun v36 =>
  F36_j4 R x0 x1 x2 x8 v36
theorem F36_j3_ok (R : ER) (e : Env) : den Pg R (cd Tryz.f36 [1,1,1,1,1]) e (kont Pg R Tryz.f36) = (F36_j3 R (e 0) (e 1) (e 2) (e 8)) := (den_join Pg R 0 (cd Tryz.f36 [1,1,1,1,1]) (cd Tryz.f36 [1,1,1,1,1,1]) e (kont Pg R Tryz.f36) (fun e => F36_j4 R (e 0) (e 1) (e 2) (e 8) (e 10)) _ (by kernel_rfl) (fun e => F36_j4_ok R e) (by kernel_rfl))
def F36_j2 (R : ER) (x0 x1 x2 x8 : Value) : WP :=
  pv (bin .eql x2 (.int .i64 0)) fun v37 =>
  cnd v37 (
   R (.returned (.tuple ⟨[(.slice none 0 0), (.int .i64 14)]⟩))) (
   F36_j3 R x0 x1 x2 x8)
theorem F36_j2_ok (R : ER) (e : Env) : den Pg R (cd Tryz.f36 [1,1,1,1]) e (kont Pg R Tryz.f36) = (F36_j2 R (e 0) (e 1) (e 2) (e 8)) := (den_join Pg R 0 (cd Tryz.f36 [1,1,1,1]) (cd Tryz.f36 [1,1,1,1,1]) e (kont Pg R Tryz.f36) (fun e => F36_j3 R (e 0) (e 1) (e 2) (e 8)) _ (by kernel_rfl) (fun e => F36_j3_ok R e) (by kernel_rfl))
def F36_j1 (R : ER) (x0 x1 x2 : Value) : WP :=
  pv (nilO x0) fun v38 =>
  pv (faO 2 v38) fun v39 =>
  ld1 v39 fun v40 =>
  valV Pg R (Instr.lookup 83 v40 x1 true) fun v41 =>
  pv (extO 0 v41) fun v42 =>
  pv (extO 1 v41) fun v43 =>
  al Pg 79 fun v44 =>
  stN 3 v44 v42 fun _ =>
  pv (unO .not v43) fun v45 =>
  cnd v45 (
   R (.returned (.tuple ⟨[(.slice none 0 0), (.int .i64 35)]⟩))) (
   F36_j2 R x0 x1 x2 v44)
theorem F36_j1_ok (R : ER) (e : Env) : den Pg R (cd Tryz.f36 [1,1]) e (kont Pg R Tryz.f36) = (F36_j1 R (e 0) (e 1) (e 2)) := (den_join Pg R 1 (cd Tryz.f36 [1,1]) (cd Tryz.f36 [1,1,1,1]) e (kont Pg R Tryz.f36) (fun e => F36_j2 R (e 0) (e 1) (e 2) (e 8)) _ (by kernel_rfl) (fun e => F36_j2_ok R e) (by kernel_rfl))
def F36 (R : ER) (x0 x1 x2 : Value) : WP :=
  pv (eqNilP x0) fun v46 =>
  cnd v46 (
   R (.returned (.tuple ⟨[(.slice none 0 0), (.int .i64 35)]⟩))) (
   cal Pg R 77 ⟨[x1]⟩ fun v47 =>
   pv (unO .not v47) fun v48 =>
   cnd v48 (
    R (.returned (.tuple ⟨[(.slice none 0 0), (.int .i64 34)]⟩))) (
    F36_j1 R x0 x1 x2))
theorem F36_den (R : ER) (x0 x1 x2 : Value) : den Pg R (cd Tryz.f36 []) (argsEnv [x0, x1, x2]) (kont Pg R Tryz.f36) = F36 R x0 x1 x2 :=
  have h : ∀ e, den Pg R (cd Tryz.f36 []) e (kont Pg R Tryz.f36) = F36 R (e 0) (e 1) (e 2) := fun e => (den_join Pg R 1 (cd Tryz.f36 []) (cd Tryz.f36 [1,1]) e (kont Pg R Tryz.f36) (fun e => F36_j1 R (e 0) (e 1) (e 2)) _ (by kernel_rfl) (fun e => F36_j1_ok R e) (by kernel_rfl))
  h _
theorem F36_calls {R : ER} {x0 x1 x2 : Value} {w : World} (h : F36 R x0 x1 x2 w) : Calls Pg 36 ⟨[x0, x1, x2]⟩ w R :=
  calls_of_den Tryz.func36 (by kernel_rfl) (by kernel_rfl) (F36_den R x0 x1 x2) h
/-! ### 37: channels_Table_Die -/
def F37_j2 (R : ER) (x0 x3 : Value) : WP :=
  cal Pg R 96 ⟨[x0, (.int .i64 24), (.func (.func 97) ⟨[]⟩ ⟨[x3]⟩)]⟩ fun v1 =>
  R (.returned v1)
theorem F37_j2_ok (R : ER) (e : Env) : den Pg R (cd Tryz.f37 [1,1,1,1,1]) e (kont Pg R Tryz.f37) = (F37_j2 R (e 0) (e 3)) := by kernel_rfl
def F37_j7 (R : ER) (x0 x3 : Value) : WP :=
  drewV (
  pv (nilO x0) fun v2 =>
  pv (faO 2 v2) fun v3 =>
  ld1 v3 fun v4 =>
  ld1 x3 fun v5 =>
  mem fun w7 => blt Pg noR .delete ⟨[83,3]⟩ 0 ⟨[false, false]⟩ ⟨[v4, v5]⟩ fun v6 =>
  F37_j2 R x0 x3)
theorem F37_j7_ok (R : ER) (e : Env) : den Pg R (cd Tryz.f37 [1,1,1,1,0,1,1,0,1]) e (setN (kont Pg R Tryz.f37) (fun e => F37_j2 R (e 0) (e 3))) = (F37_j7 R (e 0) (e 3)) := by kernel_rfl
def F37_j6 (R : ER) (x0 x3 x5 : Value) : WP :=
  pv (faO 0 x5) fun v8 =>
  ld1 v8 fun v9 =>
  pv (bin .eql v9 (.int .i64 4)) fun v10 =>
  cnd v10 (
   pv (faO 2 x5) fun v11 =>
   ld1 v11 fun v12 =>
   cal Pg R 89 ⟨[x0, v12, (.int .i64 0), (.int .i64 0)]⟩ fun v13 =>
   F37_j7 R x0 x3) (
   ld1 x3 fun v14 =>
   cal Pg R 95 ⟨[x0, v14]⟩ fun v15 =>
   F37_j7 R x0 x3)
theorem F37_j6_ok (R : ER) (e : Env) : den Pg R (cd Tryz.f37 [1,1,1,1,0,1,1,0]) e (setN (kont Pg R Tryz.f37) (fun e => F37_j2 R (e 0) (e 3))) = (F37_j6 R (e 0) (e 3) (e 5)) := (den_join Pg R 0 (cd Tryz.f37 [1,1,1,1,0,1,1,0]) (cd Tryz.f37 [1,1,1,1,0,1,1,0,1]) e (setN (kont Pg R Tryz.f37) (fun e => F37_j2 R (e 0) (e 3))) (fun e => F37_j7 R (e 0) (e 3)) _ (by kernel_rfl) (fun e => F37_j7_ok R e) (by kernel_rfl))
def F37_j5 (R : ER) (x0 x3 x5 x33 : Value) : WP :=
  cnd x33 (F37_j6 R x0 x3 x5) (F37_j2 R x0 x3)
theorem F37_j5_ok (R : ER) (e : Env) : den Pg R (cd Tryz.f37 [1,1,1,1,0,1,1]) e (setN (kont Pg R Tryz.f37) (fun e => F37_j2 R (e 0) (e 3))) = (F37_j5 R (e 0) (e 3) (e 5) (e 33)) := (den_if Pg R (cd Tryz.f37 [1,1,1,1,0,1,1]) (cd Tryz.f37 [1,1,1,1,0,1,1,0]) (cd Tryz.f37 [1,1,1,1,0,1,1,1]) e (setN (kont Pg R Tryz.f37) (fun e => F37_j2 R (e 0) (e 3))) (F37_j6 R (e 0) (e 3) (e 5)) _ _ (by kernel_rfl) (F37_j6_ok R e) rfl (by kernel_rfl))
def F37_j4 (R : ER) (x0 x3 x5 x6 : Value) : WP :=
  F37_j5 R x0 x3 x5 x6
theorem F37_j4_ok (R : ER) (e : Env) : den Pg R (cd Tryz.f37 [1,1,1,1,0,1]) e (setN (kont Pg R Tryz.f37) (fun e => F37_j2 R (e 0) (e 3))) = (F37_j4 R (e 0) (e 3) (e 5) (e 6)) := (den_join Pg R 0 (cd Tryz.f37 [1,1,1,1,0,1]) (cd Tryz.f37 [1,1,1,1,0,1,1]) e (setN (kont Pg R Tryz.f37) (fun e => F37_j2 R (e 0) (e 3))) (fun e => F37_j5 R (e 0) (e 3) (e 5) (e 33)) _ (by kernel_rfl) (fun e => F37_j5_ok R e) (by kernel_rfl))
def F37_j3 (R : ER) (x0 x3 : Value) : WP :=
  drewV (
  pv (nilO x0) fun v16 =>
  pv (faO 2 v16) fun v17 =>
  ld1 v17 fun v18 =>
  ld1 x3 fun v19 =>
  allW [
  (mem fun w21 => valV Pg noR (Instr.lookup 83 v18 v19 true) fun v20 =>
   pv (extO 0 v20) fun v22 =>
   pv (extO 1 v20) fun v23 =>
   mem fun w25 => al Pg 79 fun v24 =>
   rd1 x3 v19 <|
   rd1 v17 v18 <|
   mem fun w27 => stN 3 v24 v22 fun v26 =>
   F37_j4 R x0 x3 v24 v23),
  (mem fun w29 => al Pg 79 fun v28 =>
   rd1 x3 v19 <|
   rd1 v17 v18 <|
   mem fun w31 => valV Pg noR (Instr.lookup 83 v18 v19 true) fun v30 =>
   pv (extO 0 v30) fun v32 =>
   pv (extO 1 v30) fun v33 =>
   mem fun w35 => stN 3 v28 v32 fun v34 =>
   F37_j4 R x0 x3 v28 v33)])
theorem F37_j3_ok (R : ER) (e : Env) : den Pg R (cd Tryz.f37 [1,1,1,1,0]) e (setN (kont Pg R Tryz.f37) (fun e => F37_j2 R (e 0) (e 3))) = (F37_j3 R (e 0) (e 3)) := (den_join Pg R 0 (cd Tryz.f37 [1,1,1,1,0]) (cd Tryz.f37 [1,1,1,1,0,1]) e (setN (kont Pg R Tryz.f37) (fun e => F37_j2 R (e 0) (e 3))) (fun e => F37_j4 R (e 0) (e 3) (e 5) (e 6)) _ (by kernel_rfl) (fun e => F37_j4_ok R e) (by kernel_rfl))
def F37_j1 (R : ER) (x0 x3 : Value) : WP :=
  drewV (
  pv (nilO x0) fun v36 =>
  pv (faO 4 v36) fun v37 =>
  ld1 v37 fun v38 =>
  ld1 x3 fun v39 =>
  mem fun w41 => blt Pg noR .delete ⟨[85,3]⟩ 0 ⟨[false, false]⟩ ⟨[v38, v39]⟩ fun v40 =>
  drewV (
  pv (nilO x0) fun v42 =>
  pv (faO 5 v42) fun v43 =>
  ld1 v43 fun v44 =>
  ld1 x3 fun v45 =>
  mem fun w47 => blt Pg noR .delete ⟨[86,3]⟩ 0 ⟨[false, false]⟩ ⟨[v44, v45]⟩ fun v46 =>
  F37_j3 R x0 x3))
theorem F37_j1_ok (R : ER) (e : Env) : den Pg R (cd Tryz.f37 [1,1]) e (kont Pg R Tryz.f37) = (F37_j1 R (e 0) (e 3)) := (den_join Pg R 2 (cd Tryz.f37 [1,1]) (cd Tryz.f37 [1,1,1,1,1]) e (kont Pg R Tryz.f37) (fun e => F37_j2 R (e 0) (e 3)) _ (by kernel_rfl) (fun e => F37_j2_ok R e) (den_join Pg R 1 (pre 2 (cd Tryz.f37 [1,1])) (cd Tryz.f37 [1,1,1,1,0]) e (setN (kont Pg R Tryz.f37) (fun e => F37_j2 R (e 0) (e 3))) (fun e => F37_j3 R (e 0) (e 3)) _ (by kernel_rfl) (fun e => F37_j3_ok R e) (by kernel_rfl)))
def F37 (R : ER) (x0 x1 : Value) : WP :=
  bx 3 x1 fun v48 =>
  pv (eqNilP x0) fun v49 =>
  gd v49 false (ld1 v48) fun v50 =>
  gd v49 false (cal Pg R 77 ⟨[v50]⟩) fun v51 =>
  gd v49 false (pv (unO .not v51)) fun v52 =>
  pv (pickO v49 (.bool true) v52) fun v53 =>
  cnd v53 (
   R (.returned (.slice none 0 0))) (
   F37_j1 R x0 v48)
theorem F37_den (R : ER) (x0 x1 : Value) : den Pg R (cd Tryz.f37 []) (argsEnv [x0, x1]) (kont Pg R Tryz.f37) = F37 R x0 x1 :=
  have h : ∀ e, den Pg R (cd Tryz.f37 []) e (kont Pg R Tryz.f37) = F37 R (e 0) (e 1) := fun e => (den_join Pg R 1 (cd Tryz.f37 []) (cd Tryz.f37 [1,1]) e (kont Pg R Tryz.f37) (fun e => F37_j1 R (e 0) (e 3)) _ (by kernel_rfl) (fun e => F37_j1_ok R e) (by kernel_rfl))
  h _
theorem F37_calls {R : ER} {x0 x1 : Value} {w : World} (h : F37 R x0 x1 w) : Calls Pg 37 ⟨[x0, x1]⟩ w R :=
  calls_of_den Tryz.func37 (by kernel_rfl) (by kernel_rfl) (F37_den R x0 x1) h
/-! ### 38: channels_Table_DieProcess -/
def F38_j3 (R : ER) (x5 : Value) : WP :=
  R (.returned x5)
theorem F38_j3_ok (R : ER) (e : Env) : den Pg R (cd Tryz.f38 [1,1,1,1,1]) e (kont Pg R Tryz.f38) = (F38_j3 R (e 5)) := by kernel_rfl
def F38_j6 (R : ER) (k1 : V4) (x0 x1 x5 x48 : Value) : WP :=
  cal Pg R 31 ⟨[x0, x1, x48]⟩ fun v1 =>
  pv (extO 0 v1) fun v2 =>
  pv (extO 1 v1) fun v3 =>
  blt Pg R .append ⟨[39,39]⟩ 39 ⟨[false, false]⟩ ⟨[x5, v2]⟩ fun v4 =>
  pv (bin .add x48 (.int .i64 1)) fun v5 =>
  k1 x0 x1 v4 v5
theorem F38_j6_ok (R : ER) (k1 : V4) (e : Env) : den Pg R (cd Tryz.f38 [1,1,1,1,0,1,0,0,1,1]) e (setN (inB 2 (setN (kont Pg R Tryz.f38) (fun e => F38_j3 R (e 5)))) (fun e => k1 (e 0) (e 1) (e 5) (e 48))) = (F38_j6 R k1 (e 0) (e 1) (e 5) (e 48)) := by kernel_rfl
def F38_b1 (R : ER) (k1 : V4) (x0 x1 x5 x48 : Value) : WP :=
  pv (bin .lss x48 (.int .i64 256)) fun v6 =>
  cnd v6 (
   F38_j6 R k1 x0 x1 x5 x48) (
   F38_j3 R x5)
theorem F38_b1_ok (R : ER) (k1 : V4) (e : Env) : den Pg R (cd Tryz.f38 [1,1,1,1,0,1,0,0]) e (setN (inB 2 (setN (kont Pg R Tryz.f38) (fun e => F38_j3 R (e 5)))) (fun e => k1 (e 0) (e 1) (e 5) (e 48))) = (F38_b1 R k1 (e 0) (e 1) (e 5) (e 48)) := (den_join Pg R 1 (cd Tryz.f38 [1,1,1,1,0,1,0,0]) (cd Tryz.f38 [1,1,1,1,0,1,0,0,1,1]) e (setN (inB 2 (setN (kont Pg R Tryz.f38) (fun e => F38_j3 R (e 5)))) (fun e => k1 (e 0) (e 1) (e 5) (e 48))) (fun e => F38_j6 R k1 (e 0) (e 1) (e 5) (e 48)) _ (by kernel_rfl) (fun e => F38_j6_ok R k1 e) (by kernel_rfl))
noncomputable def F38_l1 (R : ER) (n : Nat) : V4 := Nat.rec (motive := fun _ => V4) (fun _ _ _ _ => fun _ => False) (fun _ ih => fun x0 x1 x5 x48 => F38_b1 R ih x0 x1 x5 x48) n
theorem F38_l1_succ (R : ER) (n : Nat) (x0 x1 x5 x48 : Value) : F38_l1 R (n + 1) x0 x1 x5 x48 = F38_b1 R (F38_l1 R n) x0 x1 x5 x48 := rfl
theorem F38_l1_ok (R : ER) : ∀ (n : Nat) (e : Env), iterL (den Pg R (cd Tryz.f38 [1,1,1,1,0,1,0,0])) n e (inB 2 (setN (kont Pg R Tryz.f38) (fun e => F38_j3 R (e 5)))) = F38_l1 R n (e 0) (e 1) (e 5) (e 48) :=
  iterL_join (den Pg R (cd Tryz.f38 [1,1,1,1,0,1,0,0])) (inB 2 (setN (kont Pg R Tryz.f38) (fun e => F38_j3 R (e 5)))) (fun n e => F38_l1 R n (e 0) (e 1) (e 5) (e 48)) (fun _ => rfl) (fun n e => (F38_b1_ok R (F38_l1 R n) e).trans (F38_l1_succ R n (e 0) (e 1) (e 5) (e 48)).symm)
def F38_j5 (R : ER) (x0 x1 x5 x48 : Value) : WP :=
  exN fun n => F38_l1 R n x0 x1 x5 x48
theorem F38_j5_ok (R : ER) (e : Env) : den Pg R (cd Tryz.f38 [1,1,1,1,0,1]) e (setN (kont Pg R Tryz.f38) (fun e => F38_j3 R (e 5))) = (F38_j5 R (e 0) (e 1) (e 5) (e 48)) := (den_block Pg R (cd Tryz.f38 [1,1,1,1,0,1]) 2 (cd Tryz.f38 [1,1,1,1,0,1,0]) e (setN (kont Pg R Tryz.f38) (fun e => F38_j3 R (e 5))) _ (by kernel_rfl) (den_loop Pg R (cd Tryz.f38 [1,1,1,1,0,1,0]) (cd Tryz.f38 [1,1,1,1,0,1,0,0]) e (inB 2 (setN (kont Pg R Tryz.f38) (fun e => F38_j3 R (e 5)))) (fun n e => F38_l1 R n (e 0) (e 1) (e 5) (e 48)) _ (by kernel_rfl) (F38_l1_ok R) (by kernel_rfl)))
def F38_j4 (R : ER) (x0 x1 x5 : Value) : WP :=
  F38_j5 R x0 x1 x5 (.int .i64 0)
theorem F38_j4_ok (R : ER) (e : Env) : den Pg R (cd Tryz.f38 [1,1,1,1,0]) e (setN (kont Pg R Tryz.f38) (fun e => F38_j3 R (e 5))) = (F38_j4 R (e 0) (e 1) (e 5)) := (den_join Pg R 0 (cd Tryz.f38 [1,1,1,1,0]) (cd Tryz.f38 [1,1,1,1,0,1]) e (setN (kont Pg R Tryz.f38) (fun e => F38_j3 R (e 5))) (fun e => F38_j5 R (e 0) (e 1) (e 5) (e 48)) _ (by kernel_rfl) (fun e => F38_j5_ok R e) (by kernel_rfl))
def F38_j2 (R : ER) (x0 x1 x5 : Value) : WP :=
  F38_j4 R x0 x1 x5
theorem F38_j2_ok (R : ER) (e : Env) : den Pg R (cd Tryz.f38 [1,1,1,1]) e (kont Pg R Tryz.f38) = (F38_j2 R (e 0) (e 1) (e 5)) := (den_join Pg R 0 (cd Tryz.f38 [1,1,1,1]) (cd Tryz.f38 [1,1,1,1,1]) e (kont Pg R Tryz.f38) (fun e => F38_j3 R (e 5)) _ (by kernel_rfl) (fun e => F38_j3_ok R e) (den_conv Pg R (pre 0 (cd Tryz.f38 [1,1,1,1])) (cd Tryz.f38 [1,1,1,1,0]) e (setN (kont Pg R Tryz.f38) (fun e => F38_j3 R (e 5))) _ (by kernel_rfl) (F38_j4_ok R e)))
def F38_j10 (R : ER) (k1 : V6) (x0 x1 x5 x24 x25 x26 : Value) : WP :=
  pv (bin .add x26 (.int .i64 1)) fun v7 =>
  k1 x0 x1 x5 x24 x25 v7
theorem F38_j10_ok (R : ER) (k1 : V6) (e : Env) : den Pg R (cd Tryz.f38 [1,1,1,0,1,0,0,1,1,1]) e (setN (inB 0 (setN (kont Pg R Tryz.f38) (fun e => F38_j2 R (e 0) (e 1) (e 5)))) (fun e => k1 (e 0) (e 1) (e 5) (e 24) (e 25) (e 26))) = (F38_j10 R k1 (e 0) (e 1) (e 5) (e 24) (e 25) (e 26)) := by kernel_rfl
def F38_j11 (R : ER) (k1 : V6) (x0 x1 x5 x24 x25 x26 : Value) : WP :=
  pv (ixS 1 x24 x26) fun v8 =>
  ld1 v8 fun v9 =>
  pv (nilO x0) fun v10 =>
  pv (faO 0 v10) fun v11 =>
  ld1 v11 fun v12 =>
  valV Pg R (Instr.lookup 81 v12 v9 false) fun v13 =>
  pv (nilO v13) fun v14 =>
  pv (faO 1 v14) fun v15 =>
  ld1 v15 fun v16 =>
  pv (bin .eql v16 x1) fun v17 =>
  cnd v17 (
   cal Pg R 90 ⟨[x0, v13]⟩ fun v18 =>
   blt Pg R .append ⟨[39,39]⟩ 39 ⟨[false, false]⟩ ⟨[x5, v18]⟩ fun v19 =>
   F38_j10 R k1 x0 x1 v19 x24 x25 x26) (
   F38_j10 R k1 x0 x1 x5 x24 x25 x26)
theorem F38_j11_ok (R : ER) (k1 : V6) (e : Env) : den Pg R (cd Tryz.f38 [1,1,1,0,1,0,0,1,1,0]) e (setN (setN (inB 0 (setN (kont Pg R Tryz.f38) (fun e => F38_j2 R (e 0) (e 1) (e 5)))) (fun e => k1 (e 0) (e 1) (e 5) (e 24) (e 25) (e 26))) (fun e => F38_j10 R k1 (e 0) (e 1) (e 5) (e 24) (e 25) (e 26))) = (F38_j11 R k1 (e 0) (e 1) (e 5) (e 24) (e 25) (e 26)) := (den_block Pg R (cd Tryz.f38 [1,1,1,0,1,0,0,1,1,0]) 1 (cd Tryz.f38 [1,1,1,0,1,0,0,1,1,0,0]) e (setN (setN (inB 0 (setN (kont Pg R Tryz.f38) (fun e => F38_j2 R (e 0) (e 1) (e 5)))) (fun e => k1 (e 0) (e 1) (e 5) (e 24) (e 25) (e 26))) (fun e => F38_j10 R k1 (e 0) (e 1) (e 5) (e 24) (e 25) (e 26))) _ (by kernel_rfl) (by kernel_rfl))
def F38_j9 (R : ER) (k1 : V6) (x0 x1 x5 x24 x25 x26 : Value) : WP :=
  F38_j11 R k1 x0 x1 x5 x24 x25 x26
theorem F38_j9_ok (R : ER) (k1 : V6) (e : Env) : den Pg R (cd Tryz.f38 [1,1,1,0,1,0,0,1,1]) e (setN (inB 0 (setN (kont Pg R Tryz.f38) (fun e => F38_j2 R (e 0) (e 1) (e 5)))) (fun e => k1 (e 0) (e 1) (e 5) (e 24) (e 25) (e 26))) = (F38_j9 R k1 (e 0) (e 1) (e 5) (e 24) (e 25) (e 26)) := (den_join Pg R 0 (cd Tryz.f38 [1,1,1,0,1,0,0,1,1]) (cd Tryz.f38 [1,1,1,0,1,0,0,1,1,1]) e (setN (inB 0 (setN (kont Pg R Tryz.f38) (fun e => F38_j2 R (e 0) (e 1) (e 5)))) (fun e => k1 (e 0) (e 1) (e 5) (e 24) (e 25) (e 26))) (fun e => F38_j10 R k1 (e 0) (e 1) (e 5) (e 24) (e 25) (e 26)) _ (by kernel_rfl) (fun e => F38_j10_ok R k1 e) (den_conv Pg R (pre 0 (cd Tryz.f38 [1,1,1,0,1,0,0,1,1])) (cd Tryz.f38 [1,1,1,0,1,0,0,1,1,0]) e (setN (setN (inB 0 (setN (kont Pg R Tryz.f38) (fun e => F38_j2 R (e 0) (e 1) (e 5)))) (fun e => k1 (e 0) (e 1) (e 5) (e 24) (e 25) (e 26))) (fun e => F38_j10 R k1 (e 0) (e 1) (e 5) (e 24) (e 25) (e 26))) _ (by kernel_rfl) (F38_j11_ok R k1 e)))
def F38_b2 (R : ER) (k1 : V6) (x0 x1 x5 x24 x25 x26 : Value) : WP :=
  pv (bin .lss x26 x25) fun v20 =>
  cnd v20 (
   F38_j9 R k1 x0 x1 x5 x24 x25 x26) (
   F38_j2 R x0 x1 x5)
theorem F38_b2_ok (R : ER) (k1 : V6) (e : Env) : den Pg R (cd Tryz.f38 [1,1,1,0,1,0,0]) e (setN (inB 0 (setN (kont Pg R Tryz.f38) (fun e => F38_j2 R (e 0) (e 1) (e 5)))) (fun e => k1 (e 0) (e 1) (e 5) (e 24) (e 25) (e 26))) = (F38_b2 R k1 (e 0) (e 1) (e 5) (e 24) (e 25) (e 26)) := (den_join Pg R 1 (cd Tryz.f38 [1,1,1,0,1,0,0]) (cd Tryz.f38 [1,1,1,0,1,0,0,1,1]) e (setN (inB 0 (setN (kont Pg R Tryz.f38) (fun e => F38_j2 R (e 0) (e 1) (e 5)))) (fun e => k1 (e 0) (e 1) (e 5) (e 24) (e 25) (e 26))) (fun e => F38_j9 R k1 (e 0) (e 1) (e 5) (e 24) (e 25) (e 26)) _ (by kernel_rfl) (fun e => F38_j9_ok R k1 e) (by kernel_rfl))
noncomputable def F38_l2 (R : ER) (n : Nat) : V6 := Nat.rec (motive := fun _ => V6) (fun _ _ _ _ _ _ => fun _ => False) (fun _ ih => fun x0 x1 x5 x24 x25 x26 => F38_b2 R ih x0 x1 x5 x24 x25 x26) n
theorem F38_l2_succ (R : ER) (n : Nat) (x0 x1 x5 x24 x25 x26 : Value) : F38_l2 R (n + 1) x0 x1 x5 x24 x25 x26 = F38_b2 R (F38_l2 R n) x0 x1 x5 x24 x25 x26 := rfl
theorem F38_l2_ok (R : ER) : ∀ (n : Nat) (e : Env), iterL (den Pg R (cd Tryz.f38 [1,1,1,0,1,0,0])) n e (inB 0 (setN (kont Pg R Tryz.f38) (fun e => F38_j2 R (e 0) (e 1) (e 5)))) = F38_l2 R n (e 0) (e 1) (e 5) (e 24) (e 25) (e 26) :=
  iterL_join (den Pg R (cd Tryz.f38 [1,1,1,0,1,0,0])) (inB 0 (setN (kont Pg R Tryz.f38) (fun e => F38_j2 R (e 0) (e 1) (e 5)))) (fun n e => F38_l2 R n (e 0) (e 1) (e 5) (e 24) (e 25) (e 26)) (fun _ => rfl) (fun n e => (F38_b2_ok R (F38_l2 R n) e).trans (F38_l2_succ R n (e 0) (e 1) (e 5) (e 24) (e 25) (e 26)).symm)
def F38_j8 (R : ER) (x0 x1 x5 x24 x25 x26 : Value) : WP :=
  exN fun n => F38_l2 R n x0 x1 x5 x24 x25 x26
theorem F38_j8_ok (R : ER) (e : Env) : den Pg R (cd Tryz.f38 [1,1,1,0,1]) e (setN (kont Pg R Tryz.f38) (fun e => F38_j2 R (e 0) (e 1) (e 5))) = (F38_j8 R (e 0) (e 1) (e 5) (e 24) (e 25) (e 26)) := (den_block Pg R (cd Tryz.f38 [1,1,1,0,1]) 0 (cd Tryz.f38 [1,1,1,0,1,0]) e (setN (kont Pg R Tryz.f38) (fun e => F38_j2 R (e 0) (e 1) (e 5))) _ (by kernel_rfl) (den_loop Pg R (cd Tryz.f38 [1,1,1,0,1,0]) (cd Tryz.f38 [1,1,1,0,1,0,0]) e (inB 0 (setN (kont Pg R Tryz.f38) (fun e => F38_j2 R (e 0) (e 1) (e 5)))) (fun n e => F38_l2 R n (e 0) (e 1) (e 5) (e 24) (e 25) (e 26)) _ (by kernel_rfl) (F38_l2_ok R) (by kernel_rfl)))
def F38_j7 (R : ER) (x0 x1 x5 : Value) : WP :=
  pv (nilO x0) fun v21 =>
  pv (faO 0 v21) fun v22 =>
  ld1 v22 fun v23 =>
  cal Pg R 99 ⟨[v23]⟩ fun v24 =>
  cal Pg R 98 ⟨[v24]⟩ fun v25 =>
  pv (lenS v25) fun v26 =>
  F38_j8 R x0 x1 x5 v25 v26 (.int .i64 0)
theorem F38_j7_ok (R : ER) (e : Env) : den Pg R (cd Tryz.f38 [1,1,1,0]) e (setN (kont Pg R Tryz.f38) (fun e => F38_j2 R (e 0) (e 1) (e 5))) = (F38_j7 R (e 0) (e 1) (e 5)) := (den_join Pg R 0 (cd Tryz.f38 [1,1,1,0]) (cd Tryz.f38 [1,1,1,0,1]) e (setN (kont Pg R Tryz.f38) (fun e => F38_j2 R (e 0) (e 1) (e 5))) (fun e => F38_j8 R (e 0) (e 1) (e 5) (e 24) (e 25) (e 26)) _ (by kernel_rfl) (fun e => F38_j8_ok R e) (by kernel_rfl))
def F38_j1 (R : ER) (x0 x1 : Value) : WP :=
  F38_j7 R x0 x1 (.slice none 0 0)
theorem F38_j1_ok (R : ER) (e : Env) : den Pg R (cd Tryz.f38 [1,1]) e (kont Pg R Tryz.f38) = (F38_j1 R (e 0) (e 1)) := (den_join Pg R 1 (cd Tryz.f38 [1,1]) (cd Tryz.f38 [1,1,1,1]) e (kont Pg R Tryz.f38) (fun e => F38_j2 R (e 0) (e 1) (e 5)) _ (by kernel_rfl) (fun e => F38_j2_ok R e) (den_join Pg R 0 (pre 1 (cd Tryz.f38 [1,1])) (cd Tryz.f38 [1,1,1,0]) e (setN (kont Pg R Tryz.f38) (fun e => F38_j2 R (e 0) (e 1) (e 5))) (fun e => F38_j7 R (e 0) (e 1) (e 5)) _ (by kernel_rfl) (fun e => F38_j7_ok R e) (by kernel_rfl)))
def F38 (R : ER) (x0 x1 : Value) : WP :=
  pv (eqNilP x0) fun v27 =>
  gd v27 false (pv (some x1)) fun v28 =>
  gd v27 false (cal Pg R 74 ⟨[v28]⟩) fun v29 =>
  gd v27 false (pv (unO .not v29)) fun v30 =>
  pv (pickO v27 (.bool true) v30) fun v31 =>
  cnd v31 (
   R (.returned (.slice none 0 0))) (
   F38_j1 R x0 x1)
theorem F38_den (R : ER) (x0 x1 : Value) : den Pg R (cd Tryz.f38 []) (argsEnv [x0, x1]) (kont Pg R Tryz.f38) = F38 R x0 x1 :=
  have h : ∀ e, den Pg R (cd Tryz.f38 []) e (kont Pg R Tryz.f38) = F38 R (e 0) (e 1) := fun e => (den_join Pg R 1 (cd Tryz.f38 []) (cd Tryz.f38 [1,1]) e (kont Pg R Tryz.f38) (fun e => F38_j1 R (e 0) (e 1)) _ (by kernel_rfl) (fun e => F38_j1_ok R e) (by kernel_rfl))
  h _
theorem F38_calls {R : ER} {x0 x1 : Value} {w : World} (h : F38 R x0 x1 w) : Calls Pg 38 ⟨[x0, x1]⟩ w R :=
  calls_of_den Tryz.func38 (by kernel_rfl) (by kernel_rfl) (F38_den R x0 x1) h
/-! ### 39: channels_Table_SetPriority -/
def F39_j4 (R : ER) : WP :=
  R (.returned (.int .i64 0))
theorem F39_j4_ok (R : ER) (e : Env) : den Pg R (cd Tryz.f39 [1,1,1,1,1,1]) e (kont Pg R Tryz.f39) = (F39_j4 R) := by kernel_rfl
def F39_j12 (R : ER) (x0 x2 x9 x10 x11 : Value) : WP :=
  pv (nilO x9) fun v1 =>
  pv (faO 3 v1) fun v2 =>
  ld1 v2 fun v3 =>
  pv (bin .add x10 (.int .i64 1)) fun v4 =>
  cal Pg R 83 ⟨[v3, x10, v4]⟩ fun v5 =>
  pv (nilO x9) fun v6 =>
  pv (faO 3 v6) fun v7 =>
  st1 v7 v5 fun _ =>
  cal Pg R 79 ⟨[x0, x2]⟩ fun v8 =>
  pv (faO 0 x11) fun v9 =>
  stN 2 v9 v8 fun _ =>
  ldN 11 x11 fun v10 =>
  cal Pg R 81 ⟨[x9, v10]⟩ fun v11 =>
  F39_j4 R
theorem F39_j12_ok (R : ER) (e : Env) : den Pg R (cd Tryz.f39 [1,1,1,1,1,0,1,0,1,1,1,0,1,1,1,0]) e (inB 1 (setN (kont Pg R Tryz.f39) (fun e => F39_j4 R))) = (F39_j12 R (e 0) (e 2) (e 9) (e 10) (e 11)) := by kernel_rfl
def F39_j11 (R : ER) (x0 x2 x9 x10 x11 x109 : Value) : WP :=
  cnd x109 (F39_j12 R x0 x2 x9 x10 x11) (F39_j4 R)
theorem F39_j11_ok (R : ER) (e : Env) : den Pg R (cd Tryz.f39 [1,1,1,1,1,0,1,0,1,1,1,0,1,1,1]) e (inB 1 (setN (kont Pg R Tryz.f39) (fun e => F39_j4 R))) = (F39_j11 R (e 0) (e 2) (e 9) (e 10) (e 11) (e 109)) := (den_if Pg R (cd Tryz.f39 [1,1,1,1,1,0,1,0,1,1,1,0,1,1,1]) (cd Tryz.f39 [1,1,1,1,1,0,1,0,1,1,1,0,1,1,1,0]) (cd Tryz.f39 [1,1,1,1,1,0,1,0,1,1,1,0,1,1,1,1]) e (inB 1 (setN (kont Pg R Tryz.f39) (fun e => F39_j4 R))) (F39_j12 R (e 0) (e 2) (e 9) (e 10) (e 11)) _ _ (by kernel_rfl) (F39_j12_ok R e) rfl (by kernel_rfl))
def F39_j10 (R : ER) (x0 x2 x4 x9 : Value) : WP :=
  pv (nilO x9) fun v12 =>
  pv (faO 3 v12) fun v13 =>
  ld1 v13 fun v14 =>
  cal Pg R 100 ⟨[v14, (.func (.func 101) ⟨[]⟩ ⟨[x4]⟩)]⟩ fun v15 =>
  pv (nilO x9) fun v16 =>
  pv (faO 3 v16) fun v17 =>
  ld1 v17 fun v18 =>
  pv (ixS 11 v18 v15) fun v19 =>
  ldN 11 v19 fun v20 =>
  al Pg 110 fun v21 =>
  stN 11 v21 v20 fun _ =>
  pv (faO 0 v21) fun v22 =>
  pv (faO 0 v22) fun v23 =>
  ld1 v23 fun v24 =>
  pv (bin .neq v24 x2) fun v25 =>
  F39_j11 R x0 x2 x9 v15 v21 v25
theorem F39_j10_ok (R : ER) (e : Env) : den Pg R (cd Tryz.f39 [1,1,1,1,1,0,1,0,1,1,1,0]) e (inB 1 (setN (kont Pg R Tryz.f39) (fun e => F39_j4 R))) = (F39_j10 R (e 0) (e 2) (e 4) (e 9)) := (den_join Pg R 2 (cd Tryz.f39 [1,1,1,1,1,0,1,0,1,1,1,0]) (cd Tryz.f39 [1,1,1,1,1,0,1,0,1,1,1,0,1,1,1]) e (inB 1 (setN (kont Pg R Tryz.f39) (fun e => F39_j4 R))) (fun e => F39_j11 R (e 0) (e 2) (e 9) (e 10) (e 11) (e 109)) _ (by kernel_rfl) (fun e => F39_j11_ok R e) (by kernel_rfl))
def F39_j15 (R : ER) (x0 x2 x9 x12 x13 : Value) : WP :=
  pv (nilO x9) fun v26 =>
  pv (faO 4 v26) fun v27 =>
  ld1 v27 fun v28 =>
  pv (bin .add x12 (.int .i64 1)) fun v29 =>
  cal Pg R 104 ⟨[v28, x12, v29]⟩ fun v30 =>
  pv (nilO x9) fun v31 =>
  pv (faO 4 v31) fun v32 =>
  st1 v32 v30 fun _ =>
  cal Pg R 79 ⟨[x0, x2]⟩ fun v33 =>
  pv (faO 0 x13) fun v34 =>
  stN 2 v34 v33 fun _ =>
  drewV (
  pv (nilO x9) fun v35 =>
  pv (faO 4 v35) fun v36 =>
  ld1 v36 fun v37 =>
  ldN 4 x13 fun v38 =>
  mem fun w40 => cal Pg noR 85 ⟨[v37, v38, (.func (.func 105) ⟨[]⟩ ⟨[]⟩)]⟩ fun v39 =>
  pv (nilO x9) fun v41 =>
  pv (faO 4 v41) fun v42 =>
  mem fun w44 => st1 v42 v39 fun v43 =>
  F39_j4 R)
theorem F39_j15_ok (R : ER) (e : Env) : den Pg R (cd Tryz.f39 [1,1,1,1,1,0,1,0,1,1,1,1,1,1,1,0]) e (inB 1 (setN (kont Pg R Tryz.f39) (fun e => F39_j4 R))) = (F39_j15 R (e 0) (e 2) (e 9) (e 12) (e 13)) := by kernel_rfl
def F39_j14 (R : ER) (x0 x2 x9 x12 x13 x58 : Value) : WP :=
  cnd x58 (F39_j15 R x0 x2 x9 x12 x13) (F39_j4 R)
theorem F39_j14_ok (R : ER) (e : Env) : den Pg R (cd Tryz.f39 [1,1,1,1,1,0,1,0,1,1,1,1,1,1,1]) e (inB 1 (setN (kont Pg R Tryz.f39) (fun e => F39_j4 R))) = (F39_j14 R (e 0) (e 2) (e 9) (e 12) (e 13) (e 58)) := (den_if Pg R (cd Tryz.f39 [1,1,1,1,1,0,1,0,1,1,1,1,1,1,1]) (cd Tryz.f39 [1,1,1,1,1,0,1,0,1,1,1,1,1,1,1,0]) (cd Tryz.f39 [1,1,1,1,1,0,1,0,1,1,1,1,1,1,1,1]) e (inB 1 (setN (kont Pg R Tryz.f39) (fun e => F39_j4 R))) (F39_j15 R (e 0) (e 2) (e 9) (e 12) (e 13)) _ _ (by kernel_rfl) (F39_j15_ok R e) rfl (by kernel_rfl))
def F39_j13 (R : ER) (x0 x2 x4 x9 : Value) : WP :=
  pv (nilO x9) fun v45 =>
  pv (faO 4 v45) fun v46 =>
  ld1 v46 fun v47 =>
  cal Pg R 102 ⟨[v47, (.func (.func 103) ⟨[]⟩ ⟨[x4]⟩)]⟩ fun v48 =>
  pv (nilO x9) fun v49 =>
  pv (faO 4 v49) fun v50 =>
  ld1 v50 fun v51 =>
  pv (ixS 4 v51 v48) fun v52 =>
  ldN 4 v52 fun v53 =>
  al Pg 107 fun v54 =>
  stN 4 v54 v53 fun _ =>
  pv (faO 0 v54) fun v55 =>
  pv (faO 0 v55) fun v56 =>
  ld1 v56 fun v57 =>
  pv (bin .neq v57 x2) fun v58 =>
  F39_j14 R x0 x2 x9 v48 v54 v58
theorem F39_j13_ok (R : ER) (e : Env) : den Pg R (cd Tryz.f39 [1,1,1,1,1,0,1,0,1,1,1,1]) e (inB 1 (setN (kont Pg R Tryz.f39) (fun e => F39_j4 R))) = (F39_j13 R (e 0) (e 2) (e 4) (e 9)) := (den_join Pg R 2 (cd Tryz.f39 [1,1,1,1,1,0,1,0,1,1,1,1]) (cd Tryz.f39 [1,1,1,1,1,0,1,0,1,1,1,1,1,1,1]) e (inB 1 (setN (kont Pg R Tryz.f39) (fun e => F39_j4 R))) (fun e => F39_j14 R (e 0) (e 2) (e 9) (e 12) (e 13) (e 58)) _ (by kernel_rfl) (fun e => F39_j14_ok R e) (by kernel_rfl))
def F39_j9 (R : ER) (x0 x2 x4 x9 x90 : Value) : WP :=
  cnd x90 (F39_j10 R x0 x2 x4 x9) (F39_j13 R x0 x2 x4 x9)
theorem F39_j9_ok (R : ER) (e : Env) : den Pg R (cd Tryz.f39 [1,1,1,1,1,0,1,0,1,1,1]) e (inB 1 (setN (kont Pg R Tryz.f39) (fun e => F39_j4 R))) = (F39_j9 R (e 0) (e 2) (e 4) (e 9) (e 90)) := (den_if Pg R (cd Tryz.f39 [1,1,1,1,1,0,1,0,1,1,1]) (cd Tryz.f39 [1,1,1,1,1,0,1,0,1,1,1,0]) (cd Tryz.f39 [1,1,1,1,1,0,1,0,1,1,1,1]) e (inB 1 (setN (kont Pg R Tryz.f39) (fun e => F39_j4 R))) (F39_j10 R (e 0) (e 2) (e 4) (e 9)) (F39_j13 R (e 0) (e 2) (e 4) (e 9)) _ (by kernel_rfl) (F39_j10_ok R e) (F39_j13_ok R e) (by kernel_rfl))
def F39_j8 (R : ER) (x0 x2 x4 x9 x40 : Value) : WP :=
  pv (bin .eql x40 (.int .i64 2)) fun v59 =>
  F39_j9 R x0 x2 x4 x9 v59
theorem F39_j8_ok (R : ER) (e : Env) : den Pg R (cd Tryz.f39 [1,1,1,1,1,0,1,0,1,1]) e (inB 1 (setN (kont Pg R Tryz.f39) (fun e => F39_j4 R))) = (F39_j8 R (e 0) (e 2) (e 4) (e 9) (e 40)) := (den_join Pg R 0 (cd Tryz.f39 [1,1,1,1,1,0,1,0,1,1]) (cd Tryz.f39 [1,1,1,1,1,0,1,0,1,1,1]) e (inB 1 (setN (kont Pg R Tryz.f39) (fun e => F39_j4 R))) (fun e => F39_j9 R (e 0) (e 2) (e 4) (e 9) (e 90)) _ (by kernel_rfl) (fun e => F39_j9_ok R e) (by kernel_rfl))
def F39_j7 (R : ER) (x0 x2 x4 x7 x9 x40 x83 : Value) : WP :=
  cnd x83 (pv (faO 2 x7) fun v60 =>
  ld1 v60 fun v61 =>
  pv (nilO v61) fun v62 =>
  pv (faO 3 v62) fun v63 =>
  st1 v63 x2 fun _ =>
  F39_j4 R) (F39_j8 R x0 x2 x4 x9 x40)
theorem F39_j7_ok (R : ER) (e : Env) : den Pg R (cd Tryz.f39 [1,1,1,1,1,0,1,0,1]) e (inB 1 (setN (kont Pg R Tryz.f39) (fun e => F39_j4 R))) = (F39_j7 R (e 0) (e 2) (e 4) (e 7) (e 9) (e 40) (e 83)) := (den_if Pg R (cd Tryz.f39 [1,1,1,1,1,0,1,0,1]) (cd Tryz.f39 [1,1,1,1,1,0,1,0,1,0]) (cd Tryz.f39 [1,1,1,1,1,0,1,0,1,1]) e (inB 1 (setN (kont Pg R Tryz.f39) (fun e => F39_j4 R))) _ (F39_j8 R (e 0) (e 2) (e 4) (e 9) (e 40)) _ (by kernel_rfl) rfl (F39_j8_ok R e) (by kernel_rfl))
def F39_j6 (R : ER) (x0 x2 x4 x7 x9 x40 : Value) : WP :=
  pv (bin .eql x40 (.int .i64 4)) fun v64 =>
  F39_j7 R x0 x2 x4 x7 x9 x40 v64
theorem F39_j6_ok (R : ER) (e : Env) : den Pg R (cd Tryz.f39 [1,1,1,1,1,0,1]) e (setN (kont Pg R Tryz.f39) (fun e => F39_j4 R)) = (F39_j6 R (e 0) (e 2) (e 4) (e 7) (e 9) (e 40)) := (den_block Pg R (cd Tryz.f39 [1,1,1,1,1,0,1]) 1 (cd Tryz.f39 [1,1,1,1,1,0,1,0]) e (setN (kont Pg R Tryz.f39) (fun e => F39_j4 R)) _ (by kernel_rfl) (den_join Pg R 0 (cd Tryz.f39 [1,1,1,1,1,0,1,0]) (cd Tryz.f39 [1,1,1,1,1,0,1,0,1]) e (inB 1 (setN (kont Pg R Tryz.f39) (fun e => F39_j4 R))) (fun e => F39_j7 R (e 0) (e 2) (e 4) (e 7) (e 9) (e 40) (e 83)) _ (by kernel_rfl) (fun e => F39_j7_ok R e) (by kernel_rfl)))
def F39_j5 (R : ER) (x0 x2 x4 x7 x9 : Value) : WP :=
  pv (faO 0 x7) fun v65 =>
  ld1 v65 fun v66 =>
  F39_j6 R x0 x2 x4 x7 x9 v66
theorem F39_j5_ok (R : ER) (e : Env) : den Pg R (cd Tryz.f39 [1,1,1,1,1,0]) e (setN (kont Pg R Tryz.f39) (fun e => F39_j4 R)) = (F39_j5 R (e 0) (e 2) (e 4) (e 7) (e 9)) := (den_join Pg R 0 (cd Tryz.f39 [1,1,1,1,1,0]) (cd Tryz.f39 [1,1,1,1,1,0,1]) e (setN (kont Pg R Tryz.f39) (fun e => F39_j4 R)) (fun e => F39_j6 R (e 0) (e 2) (e 4) (e 7) (e 9) (e 40)) _ (by kernel_rfl) (fun e => F39_j6_ok R e) (by kernel_rfl))
def F39_j3 (R : ER) (x0 x2 x4 x7 : Value) : WP :=
  pv (faO 1 x7) fun v67 =>
  ld1 v67 fun v68 =>
  F39_j5 R x0 x2 x4 x7 v68
theorem F39_j3_ok (R : ER) (e : Env) : den Pg R (cd Tryz.f39 [1,1,1,1]) e (kont Pg R Tryz.f39) = (F39_j3 R (e 0) (e 2) (e 4) (e 7)) := (den_join Pg R 1 (cd Tryz.f39 [1,1,1,1]) (cd Tryz.f39 [1,1,1,1,1,1]) e (kont Pg R Tryz.f39) (fun e => F39_j4 R) _ (by kernel_rfl) (fun e => F39_j4_ok R e) (den_join Pg R 0 (pre 1 (cd Tryz.f39 [1,1,1,1])) (cd Tryz.f39 [1,1,1,1,1,0]) e (setN (kont Pg R Tryz.f39) (fun e => F39_j4 R)) (fun e => F39_j5 R (e 0) (e 2) (e 4) (e 7) (e 9)) _ (by kernel_rfl) (fun e => F39_j5_ok R e) (by kernel_rfl)))
def F39_j2 (R : ER) (x0 x2 x4 x7 x8 : Value) : WP :=
  pv (unO .not x8) fun v69 =>
  cnd v69 (
   R (.returned (.int .i64 35))) (
   F39_j3 R x0 x2 x4 x7)
theorem F39_j2_ok (R : ER) (e : Env) : den Pg R (cd Tryz.f39 [1,1,1]) e (kont Pg R Tryz.f39) = (F39_j2 R (e 0) (e 2) (e 4) (e 7) (e 8)) := (den_join Pg R 0 (cd Tryz.f39 [1,1,1]) (cd Tryz.f39 [1,1,1,1]) e (kont Pg R Tryz.f39) (fun e => F39_j3 R (e 0) (e 2) (e 4) (e 7)) _ (by kernel_rfl) (fun e => F39_j3_ok R e) (by kernel_rfl))
def F39_j1 (R : ER) (x0 x2 x4 : Value) : WP :=
  drewV (
  pv (nilO x0) fun v70 =>
  pv (faO 2 v70) fun v71 =>
  ld1 v71 fun v72 =>
  ld1 x4 fun v73 =>
  allW [
  (mem fun w75 => valV Pg noR (Instr.lookup 83 v72 v73 true) fun v74 =>
   pv (extO 0 v74) fun v76 =>
   pv (extO 1 v74) fun v77 =>
   mem fun w79 => al Pg 79 fun v78 =>
   rd1 x4 v73 <|
   rd1 v71 v72 <|
   mem fun w81 => stN 3 v78 v76 fun v80 =>
   F39_j2 R x0 x2 x4 v78 v77),
  (mem fun w83 => al Pg 79 fun v82 =>
   rd1 x4 v73 <|
   rd1 v71 v72 <|
   mem fun w85 => valV Pg noR (Instr.lookup 83 v72 v73 true) fun v84 =>
   pv (extO 0 v84) fun v86 =>
   pv (extO 1 v84) fun v87 =>
   mem fun w89 => stN 3 v82 v86 fun v88 =>
   F39_j2 R x0 x2 x4 v82 v87)])
theorem F39_j1_ok (R : ER) (e : Env) : den Pg R (cd Tryz.f39 [1,1]) e (kont Pg R Tryz.f39) = (F39_j1 R (e 0) (e 2) (e 4)) := (den_join Pg R 0 (cd Tryz.f39 [1,1]) (cd Tryz.f39 [1,1,1]) e (kont Pg R Tryz.f39) (fun e => F39_j2 R (e 0) (e 2) (e 4) (e 7) (e 8)) _ (by kernel_rfl) (fun e => F39_j2_ok R e) (by kernel_rfl))
def F39_j16 (R : ER) (x0 x2 x4 : Value) : WP :=
  pv (eqNilP x0) fun v90 =>
  cnd v90 (
   R (.returned (.int .i64 35))) (
   ld1 x4 fun v91 =>
   cal Pg R 77 ⟨[v91]⟩ fun v92 =>
   pv (unO .not v92) fun v93 =>
   gd v93 false (pv (some x2)) fun v94 =>
   gd v93 false (cal Pg R 78 ⟨[v94, (.int .i64 255)]⟩) fun v95 =>
   gd v93 false (pv (unO .not v95)) fun v96 =>
   pv (pickO v93 (.bool true) v96) fun v97 =>
   cnd v97 (
    R (.returned (.int .i64 34))) (
    F39_j1 R x0 x2 x4))
theorem F39_j16_ok (R : ER) (e : Env) : den Pg R (cd Tryz.f39 [1,0]) e (setN (kont Pg R Tryz.f39) (fun e => F39_j1 R (e 0) (e 2) (e 4))) = (F39_j16 R (e 0) (e 2) (e 4)) := (den_block Pg R (cd Tryz.f39 [1,0]) 0 (cd Tryz.f39 [1,0,0]) e (setN (kont Pg R Tryz.f39) (fun e => F39_j1 R (e 0) (e 2) (e 4))) _ (by kernel_rfl) (by kernel_rfl))
def F39 (R : ER) (x0 x1 x2 : Value) : WP :=
  bx 3 x1 fun v98 =>
  F39_j16 R x0 x2 v98
theorem F39_den (R : ER) (x0 x1 x2 : Value) : den Pg R (cd Tryz.f39 []) (argsEnv [x0, x1, x2]) (kont Pg R Tryz.f39) = F39 R x0 x1 x2 :=
  have h : ∀ e, den Pg R (cd Tryz.f39 []) e (kont Pg R Tryz.f39) = F39 R (e 0) (e 1) (e 2) := fun e => (den_join Pg R 1 (cd Tryz.f39 []) (cd Tryz.f39 [1,1]) e (kont Pg R Tryz.f39) (fun e => F39_j1 R (e 0) (e 2) (e 4)) _ (by kernel_rfl) (fun e => F39_j1_ok R e) (den_join Pg R 0 (pre 1 (cd Tryz.f39 [])) (cd Tryz.f39 [1,0]) e (setN (kont Pg R Tryz.f39) (fun e => F39_j1 R (e 0) (e 2) (e 4))) (fun e => F39_j16 R (e 0) (e 2) (e 4)) _ (by kernel_rfl) (fun e => F39_j16_ok R e) (by kernel_rfl)))
  h _
theorem F39_calls {R : ER} {x0 x1 x2 : Value} {w : World} (h : F39 R x0 x1 x2 w) : Calls Pg 39 ⟨[x0, x1, x2]⟩ w R :=
  calls_of_den Tryz.func39 (by kernel_rfl) (by kernel_rfl) (F39_den R x0 x1 x2) h
/-! ### 42: cmp_Or -/
def F42_j1 (R : ER) (x3 : Value) : WP :=
  R (.returned x3)
theorem F42_j1_ok (R : ER) (e : Env) : den Pg R (cd Tryz.f42 [1,1,1]) e (kont Pg R Tryz.f42) = (F42_j1 R (e 3)) := by kernel_rfl
def F42_b1 (R : ER) (k1 : V4) (x3 x6 x7 x8 : Value) : WP :=
  pv (bin .lss x8 x7) fun v1 =>
  cnd v1 (
   pv (ixS 1 x6 x8) fun v2 =>
  ld1 v2 fun v3 =>
  pv (bin .neq v3 x3) fun v4 =>
  cnd v4 (
   R (.returned v3)) (
   pv (bin .add x8 (.int .i64 1)) fun v5 =>
  k1 x3 x6 x7 v5)) (
   F42_j1 R x3)
theorem F42_b1_ok (R : ER) (k1 : V4) (e : Env) : den Pg R (cd Tryz.f42 [1,1,0,1,0,0]) e (setN (inB 0 (setN (kont Pg R Tryz.f42) (fun e => F42_j1 R (e 3)))) (fun e => k1 (e 3) (e 6) (e 7) (e 8))) = (F42_b1 R k1 (e 3) (e 6) (e 7) (e 8)) := by kernel_rfl
noncomputable def F42_l1 (R : ER) (n : Nat) : V4 := Nat.rec (motive := fun _ => V4) (fun _ _ _ _ => fun _ => False) (fun _ ih => fun x3 x6 x7 x8 => F42_b1 R ih x3 x6 x7 x8) n
theorem F42_l1_succ (R : ER) (n : Nat) (x3 x6 x7 x8 : Value) : F42_l1 R (n + 1) x3 x6 x7 x8 = F42_b1 R (F42_l1 R n) x3 x6 x7 x8 := rfl
theorem F42_l1_ok (R : ER) : ∀ (n : Nat) (e : Env), iterL (den Pg R (cd Tryz.f42 [1,1,0,1,0,0])) n e (inB 0 (setN (kont Pg R Tryz.f42) (fun e => F42_j1 R (e 3)))) = F42_l1 R n (e 3) (e 6) (e 7) (e 8) :=
  iterL_join (den Pg R (cd Tryz.f42 [1,1,0,1,0,0])) (inB 0 (setN (kont Pg R Tryz.f42) (fun e => F42_j1 R (e 3)))) (fun n e => F42_l1 R n (e 3) (e 6) (e 7) (e 8)) (fun _ => rfl) (fun n e => (F42_b1_ok R (F42_l1 R n) e).trans (F42_l1_succ R n (e 3) (e 6) (e 7) (e 8)).symm)
def F42_j3 (R : ER) (x3 x6 x7 x8 : Value) : WP :=
  exN fun n => F42_l1 R n x3 x6 x7 x8
theorem F42_j3_ok (R : ER) (e : Env) : den Pg R (cd Tryz.f42 [1,1,0,1]) e (setN (kont Pg R Tryz.f42) (fun e => F42_j1 R (e 3))) = (F42_j3 R (e 3) (e 6) (e 7) (e 8)) := (den_block Pg R (cd Tryz.f42 [1,1,0,1]) 0 (cd Tryz.f42 [1,1,0,1,0]) e (setN (kont Pg R Tryz.f42) (fun e => F42_j1 R (e 3))) _ (by kernel_rfl) (den_loop Pg R (cd Tryz.f42 [1,1,0,1,0]) (cd Tryz.f42 [1,1,0,1,0,0]) e (inB 0 (setN (kont Pg R Tryz.f42) (fun e => F42_j1 R (e 3)))) (fun n e => F42_l1 R n (e 3) (e 6) (e 7) (e 8)) _ (by kernel_rfl) (F42_l1_ok R) (by kernel_rfl)))
def F42_j2 (R : ER) (x0 x3 : Value) : WP :=
  pv (lenS x0) fun v6 =>
  F42_j3 R x3 x0 v6 (.int .i64 0)
theorem F42_j2_ok (R : ER) (e : Env) : den Pg R (cd Tryz.f42 [1,1,0]) e (setN (kont Pg R Tryz.f42) (fun e => F42_j1 R (e 3))) = (F42_j2 R (e 0) (e 3)) := (den_join Pg R 0 (cd Tryz.f42 [1,1,0]) (cd Tryz.f42 [1,1,0,1]) e (setN (kont Pg R Tryz.f42) (fun e => F42_j1 R (e 3))) (fun e => F42_j3 R (e 3) (e 6) (e 7) (e 8)) _ (by kernel_rfl) (fun e => F42_j3_ok R e) (by kernel_rfl))
def F42 (R : ER) (x0 : Value) : WP :=
  F42_j2 R x0 (.int .i64 0)
theorem F42_den (R : ER) (x0 : Value) : den Pg R (cd Tryz.f42 []) (argsEnv [x0]) (kont Pg R Tryz.f42) = F42 R x0 :=
  have h : ∀ e, den Pg R (cd Tryz.f42 []) e (kont Pg R Tryz.f42) = F42 R (e 0) := fun e => (den_join Pg R 2 (cd Tryz.f42 []) (cd Tryz.f42 [1,1,1]) e (kont Pg R Tryz.f42) (fun e => F42_j1 R (e 3)) _ (by kernel_rfl) (fun e => F42_j1_ok R e) (den_join Pg R 1 (pre 2 (cd Tryz.f42 [])) (cd Tryz.f42 [1,1,0]) e (setN (kont Pg R Tryz.f42) (fun e => F42_j1 R (e 3))) (fun e => F42_j2 R (e 0) (e 3)) _ (by kernel_rfl) (fun e => F42_j2_ok R e) (by kernel_rfl)))
  h _
theorem F42_calls {R : ER} {x0 : Value} {w : World} (h : F42 R x0 w) : Calls Pg 42 ⟨[x0]⟩ w R :=
  calls_of_den Tryz.func42 (by kernel_rfl) (by kernel_rfl) (F42_den R x0) h
/-! ### 43: cmp_Compare -/
def F43_j1 (R : ER) (x0 x1 x6 : Value) : WP :=
  cnd x6 (
   R (.returned (.int .i64 1))) (
   pv (bin .lss x0 x1) fun v1 =>
  cnd v1 (
   R (.returned (.int .i64 (-1)))) (
   pv (bin .gtr x0 x1) fun v2 =>
  cnd v2 (
   R (.returned (.int .i64 1))) (
   R (.returned (.int .i64 0)))))
theorem F43_j1_ok (R : ER) (e : Env) : den Pg R (cd Tryz.f43 [1,1,1,1]) e (kont Pg R Tryz.f43) = (F43_j1 R (e 0) (e 1) (e 6)) := by kernel_rfl
def F43 (R : ER) (x0 x1 : Value) : WP :=
  cal Pg R 108 ⟨[x0]⟩ fun v3 =>
  cal Pg R 108 ⟨[x1]⟩ fun v4 =>
  cnd v3 (
   cnd v4 (
    R (.returned (.int .i64 0))) (
    R (.returned (.int .i64 (-1))))) (
   F43_j1 R x0 x1 v4)
theorem F43_den (R : ER) (x0 x1 : Value) : den Pg R (cd Tryz.f43 []) (argsEnv [x0, x1]) (kont Pg R Tryz.f43) = F43 R x0 x1 :=
  have h : ∀ e, den Pg R (cd Tryz.f43 []) e (kont Pg R Tryz.f43) = F43 R (e 0) (e 1) := fun e => (den_join Pg R 3 (cd Tryz.f43 []) (cd Tryz.f43 [1,1,1,1]) e (kont Pg R Tryz.f43) (fun e => F43_j1 R (e 0) (e 1) (e 6)) _ (by kernel_rfl) (fun e => F43_j1_ok R e) (by kernel_rfl))
  h _
theorem F43_calls {R : ER} {x0 x1 : Value} {w : World} (h : F43 R x0 x1 w) : Calls Pg 43 ⟨[x0, x1]⟩ w R :=
  calls_of_den Tryz.func43 (by kernel_rfl) (by kernel_rfl) (F43_den R x0 x1) h
/-! ### 45: slices_Equal -/
def F45_j2 (R : ER) : WP :=
  R (.returned (.bool true))
theorem F45_j2_ok (R : ER) (e : Env) : den Pg R (cd Tryz.f45 [1,1,1]) e (kont Pg R Tryz.f45) = (F45_j2 R) := by kernel_rfl
def F45_j5 (R : ER) (k1 : V4) (x0 x1 x12 x13 : Value) : WP :=
  drewV (
  pv (ixS 3 x0 x13) fun v1 =>
  ldN 3 v1 fun v2 =>
  pv (ixS 3 x1 x13) fun v3 =>
  ldN 3 v3 fun v4 =>
  pv (neAgg [0,0,0] v2 v4) fun v5 =>
  cnd v5 (
   R (.returned (.bool false))) (
   pv (bin .add x13 (.int .i64 1)) fun v6 =>
  k1 x0 x1 x12 v6))
theorem F45_j5_ok (R : ER) (k1 : V4) (e : Env) : den Pg R (cd Tryz.f45 [1,1,0,1,0,0,1,1]) e (setN (inB 0 (setN (kont Pg R Tryz.f45) (fun e => F45_j2 R))) (fun e => k1 (e 0) (e 1) (e 12) (e 13))) = (F45_j5 R k1 (e 0) (e 1) (e 12) (e 13)) := (by kernel_rfl)
def F45_b1 (R : ER) (k1 : V4) (x0 x1 x12 x13 : Value) : WP :=
  pv (bin .lss x13 x12) fun v7 =>
  cnd v7 (
   F45_j5 R k1 x0 x1 x12 x13) (
   F45_j2 R)
theorem F45_b1_ok (R : ER) (k1 : V4) (e : Env) : den Pg R (cd Tryz.f45 [1,1,0,1,0,0]) e (setN (inB 0 (setN (kont Pg R Tryz.f45) (fun e => F45_j2 R))) (fun e => k1 (e 0) (e 1) (e 12) (e 13))) = (F45_b1 R k1 (e 0) (e 1) (e 12) (e 13)) := (den_join Pg R 1 (cd Tryz.f45 [1,1,0,1,0,0]) (cd Tryz.f45 [1,1,0,1,0,0,1,1]) e (setN (inB 0 (setN (kont Pg R Tryz.f45) (fun e => F45_j2 R))) (fun e => k1 (e 0) (e 1) (e 12) (e 13))) (fun e => F45_j5 R k1 (e 0) (e 1) (e 12) (e 13)) _ (by kernel_rfl) (fun e => F45_j5_ok R k1 e) (by kernel_rfl))
noncomputable def F45_l1 (R : ER) (n : Nat) : V4 := Nat.rec (motive := fun _ => V4) (fun _ _ _ _ => fun _ => False) (fun _ ih => fun x0 x1 x12 x13 => F45_b1 R ih x0 x1 x12 x13) n
theorem F45_l1_succ (R : ER) (n : Nat) (x0 x1 x12 x13 : Value) : F45_l1 R (n + 1) x0 x1 x12 x13 = F45_b1 R (F45_l1 R n) x0 x1 x12 x13 := rfl
theorem F45_l1_ok (R : ER) : ∀ (n : Nat) (e : Env), iterL (den Pg R (cd Tryz.f45 [1,1,0,1,0,0])) n e (inB 0 (setN (kont Pg R Tryz.f45) (fun e => F45_j2 R))) = F45_l1 R n (e 0) (e 1) (e 12) (e 13) :=
  iterL_join (den Pg R (cd Tryz.f45 [1,1,0,1,0,0])) (inB 0 (setN (kont Pg R Tryz.f45) (fun e => F45_j2 R))) (fun n e => F45_l1 R n (e 0) (e 1) (e 12) (e 13)) (fun _ => rfl) (fun n e => (F45_b1_ok R (F45_l1 R n) e).trans (F45_l1_succ R n (e 0) (e 1) (e 12) (e 13)).symm)
def F45_j4 (R : ER) (x0 x1 x12 x13 : Value) : WP :=
  exN fun n => F45_l1 R n x0 x1 x12 x13
theorem F45_j4_ok (R : ER) (e : Env) : den Pg R (cd Tryz.f45 [1,1,0,1]) e (setN (kont Pg R Tryz.f45) (fun e => F45_j2 R)) = (F45_j4 R (e 0) (e 1) (e 12) (e 13)) := (den_block Pg R (cd Tryz.f45 [1,1,0,1]) 0 (cd Tryz.f45 [1,1,0,1,0]) e (setN (kont Pg R Tryz.f45) (fun e => F45_j2 R)) _ (by kernel_rfl) (den_loop Pg R (cd Tryz.f45 [1,1,0,1,0]) (cd Tryz.f45 [1,1,0,1,0,0]) e (inB 0 (setN (kont Pg R Tryz.f45) (fun e => F45_j2 R))) (fun n e => F45_l1 R n (e 0) (e 1) (e 12) (e 13)) _ (by kernel_rfl) (F45_l1_ok R) (by kernel_rfl)))
def F45_j3 (R : ER) (x0 x1 : Value) : WP :=
  pv (lenS x0) fun v8 =>
  F45_j4 R x0 x1 v8 (.int .i64 0)
theorem F45_j3_ok (R : ER) (e : Env) : den Pg R (cd Tryz.f45 [1,1,0]) e (setN (kont Pg R Tryz.f45) (fun e => F45_j2 R)) = (F45_j3 R (e 0) (e 1)) := (den_join Pg R 0 (cd Tryz.f45 [1,1,0]) (cd Tryz.f45 [1,1,0,1]) e (setN (kont Pg R Tryz.f45) (fun e => F45_j2 R)) (fun e => F45_j4 R (e 0) (e 1) (e 12) (e 13)) _ (by kernel_rfl) (fun e => F45_j4_ok R e) (by kernel_rfl))
def F45_j1 (R : ER) (x0 x1 : Value) : WP :=
  F45_j3 R x0 x1
theorem F45_j1_ok (R : ER) (e : Env) : den Pg R (cd Tryz.f45 [1,1]) e (kont Pg R Tryz.f45) = (F45_j1 R (e 0) (e 1)) := (den_join Pg R 0 (cd Tryz.f45 [1,1]) (cd Tryz.f45 [1,1,1]) e (kont Pg R Tryz.f45) (fun e => F45_j2 R) _ (by kernel_rfl) (fun e => F45_j2_ok R e) (den_conv Pg R (pre 0 (cd Tryz.f45 [1,1])) (cd Tryz.f45 [1,1,0]) e (setN (kont Pg R Tryz.f45) (fun e => F45_j2 R)) _ (by kernel_rfl) (F45_j3_ok R e)))
def F45 (R : ER) (x0 x1 : Value) : WP :=
  pv (lenS x0) fun v9 =>
  pv (lenS x1) fun v10 =>
  pv (bin .neq v9 v10) fun v11 =>
  cnd v11 (
   R (.returned (.bool false))) (
   F45_j1 R x0 x1)
theorem F45_den (R : ER) (x0 x1 : Value) : den Pg R (cd Tryz.f45 []) (argsEnv [x0, x1]) (kont Pg R Tryz.f45) = F45 R x0 x1 :=
  have h : ∀ e, den Pg R (cd Tryz.f45 []) e (kont Pg R Tryz.f45) = F45 R (e 0) (e 1) := fun e => (den_join Pg R 1 (cd Tryz.f45 []) (cd Tryz.f45 [1,1]) e (kont Pg R Tryz.f45) (fun e => F45_j1 R (e 0) (e 1)) _ (by kernel_rfl) (fun e => F45_j1_ok R e) (by kernel_rfl))
  h _
theorem F45_calls {R : ER} {x0 x1 : Value} {w : World} (h : F45 R x0 x1 w) : Calls Pg 45 ⟨[x0, x1]⟩ w R :=
  calls_of_den Tryz.func45 (by kernel_rfl) (by kernel_rfl) (F45_den R x0 x1) h
/-! ### 46: orpimentlaw11_SameMessage -/
def F46 (R : ER) (x0 x1 : Value) : WP :=
  bx 32 x0 fun v1 =>
  bx 32 x1 fun v2 =>
  pv (faO 0 v1) fun v3 =>
  ld1 v3 fun v4 =>
  pv (faO 0 v2) fun v5 =>
  ld1 v5 fun v6 =>
  pv (bin .eql v4 v6) fun v7 =>
  gd v7 true (pv (faO 1 v1)) fun v8 =>
  gd v7 true (ld1 v8) fun v9 =>
  gd v7 true (pv (faO 1 v2)) fun v10 =>
  gd v7 true (ld1 v10) fun v11 =>
  gd v7 true (pv (bin .eql v9 v11)) fun v12 =>
  pv (pickO v7 v12 (.bool false)) fun v13 =>
  gd v13 true (pv (faO 2 v1)) fun v14 =>
  gd v13 true (ld1 v14) fun v15 =>
  gd v13 true (pv (faO 2 v2)) fun v16 =>
  gd v13 true (ld1 v16) fun v17 =>
  gd v13 true (pv (bin .eql v15 v17)) fun v18 =>
  pv (pickO v13 v18 (.bool false)) fun v19 =>
  gd v19 true (pv (faO 3 v1)) fun v20 =>
  gd v19 true (ld1 v20) fun v21 =>
  gd v19 true (pv (faO 3 v2)) fun v22 =>
  gd v19 true (ld1 v22) fun v23 =>
  gd v19 true (pv (bin .eql v21 v23)) fun v24 =>
  pv (pickO v19 v24 (.bool false)) fun v25 =>
  gd v25 true (pv (faO 4 v1)) fun v26 =>
  gd v25 true (ld1 v26) fun v27 =>
  gd v25 true (pv (faO 4 v2)) fun v28 =>
  gd v25 true (ld1 v28) fun v29 =>
  gd v25 true (pv (bin .eql v27 v29)) fun v30 =>
  pv (pickO v25 v30 (.bool false)) fun v31 =>
  gd v31 true (pv (faO 5 v1)) fun v32 =>
  gd v31 true (ld1 v32) fun v33 =>
  gd v31 true (pv (faO 5 v2)) fun v34 =>
  gd v31 true (ld1 v34) fun v35 =>
  gd v31 true (pv (bin .eql v33 v35)) fun v36 =>
  pv (pickO v31 v36 (.bool false)) fun v37 =>
  gd v37 true (pv (faO 6 v1)) fun v38 =>
  gd v37 true (ld1 v38) fun v39 =>
  gd v37 true (pv (faO 6 v2)) fun v40 =>
  gd v37 true (ld1 v40) fun v41 =>
  gd v37 true (pv (bin .eql v39 v41)) fun v42 =>
  pv (pickO v37 v42 (.bool false)) fun v43 =>
  gd v43 true (pv (faO 7 v1)) fun v44 =>
  gd v43 true (ld1 v44) fun v45 =>
  gd v43 true (pv (faO 7 v2)) fun v46 =>
  gd v43 true (ld1 v46) fun v47 =>
  gd v43 true (cal Pg R 47 ⟨[v45, v47]⟩) fun v48 =>
  pv (pickO v43 v48 (.bool false)) fun v49 =>
  gd v49 true (pv (faO 8 v1)) fun v50 =>
  gd v49 true (ld1 v50) fun v51 =>
  gd v49 true (pv (faO 8 v2)) fun v52 =>
  gd v49 true (ld1 v52) fun v53 =>
  gd v49 true (pv (bin .eql v51 v53)) fun v54 =>
  pv (pickO v49 v54 (.bool false)) fun v55 =>
  gd v55 true (pv (faO 9 v1)) fun v56 =>
  gd v55 true (ld1 v56) fun v57 =>
  gd v55 true (pv (faO 9 v2)) fun v58 =>
  gd v55 true (ld1 v58) fun v59 =>
  gd v55 true (pv (bin .eql v57 v59)) fun v60 =>
  pv (pickO v55 v60 (.bool false)) fun v61 =>
  R (.returned v61)
theorem F46_den (R : ER) (x0 x1 : Value) : den Pg R (cd Tryz.f46 []) (argsEnv [x0, x1]) (kont Pg R Tryz.f46) = F46 R x0 x1 :=
  have h : ∀ e, den Pg R (cd Tryz.f46 []) e (kont Pg R Tryz.f46) = F46 R (e 0) (e 1) := fun e => by kernel_rfl
  h _
theorem F46_calls {R : ER} {x0 x1 : Value} {w : World} (h : F46 R x0 x1 w) : Calls Pg 46 ⟨[x0, x1]⟩ w R :=
  calls_of_den Tryz.func46 (by kernel_rfl) (by kernel_rfl) (F46_den R x0 x1) h
/-! ### 47: slices_Equal_47 -/
def F47_j2 (R : ER) : WP :=
  R (.returned (.bool true))
theorem F47_j2_ok (R : ER) (e : Env) : den Pg R (cd Tryz.f47 [1,1,1]) e (kont Pg R Tryz.f47) = (F47_j2 R) := by kernel_rfl
def F47_j5 (R : ER) (k1 : V4) (x0 x1 x12 x13 : Value) : WP :=
  drewV (
  pv (ixS 1 x0 x13) fun v1 =>
  ld1 v1 fun v2 =>
  pv (ixS 1 x1 x13) fun v3 =>
  ld1 v3 fun v4 =>
  pv (bin .neq v2 v4) fun v5 =>
  cnd v5 (
   R (.returned (.bool false))) (
   pv (bin .add x13 (.int .i64 1)) fun v6 =>
  k1 x0 x1 x12 v6))
theorem F47_j5_ok (R : ER) (k1 : V4) (e : Env) : den Pg R (cd Tryz.f47 [1,1,0,1,0,0,1,1]) e (setN (inB 0 (setN (kont Pg R Tryz.f47) (fun e => F47_j2 R))) (fun e => k1 (e 0) (e 1) (e 12) (e 13))) = (F47_j5 R k1 (e 0) (e 1) (e 12) (e 13)) := (by kernel_rfl)
def F47_b1 (R : ER) (k1 : V4) (x0 x1 x12 x13 : Value) : WP :=
  pv (bin .lss x13 x12) fun v7 =>
  cnd v7 (
   F47_j5 R k1 x0 x1 x12 x13) (
   F47_j2 R)
theorem F47_b1_ok (R : ER) (k1 : V4) (e : Env) : den Pg R (cd Tryz.f47 [1,1,0,1,0,0]) e (setN (inB 0 (setN (kont Pg R Tryz.f47) (fun e => F47_j2 R))) (fun e => k1 (e 0) (e 1) (e 12) (e 13))) = (F47_b1 R k1 (e 0) (e 1) (e 12) (e 13)) := (den_join Pg R 1 (cd Tryz.f47 [1,1,0,1,0,0]) (cd Tryz.f47 [1,1,0,1,0,0,1,1]) e (setN (inB 0 (setN (kont Pg R Tryz.f47) (fun e => F47_j2 R))) (fun e => k1 (e 0) (e 1) (e 12) (e 13))) (fun e => F47_j5 R k1 (e 0) (e 1) (e 12) (e 13)) _ (by kernel_rfl) (fun e => F47_j5_ok R k1 e) (by kernel_rfl))
noncomputable def F47_l1 (R : ER) (n : Nat) : V4 := Nat.rec (motive := fun _ => V4) (fun _ _ _ _ => fun _ => False) (fun _ ih => fun x0 x1 x12 x13 => F47_b1 R ih x0 x1 x12 x13) n
theorem F47_l1_succ (R : ER) (n : Nat) (x0 x1 x12 x13 : Value) : F47_l1 R (n + 1) x0 x1 x12 x13 = F47_b1 R (F47_l1 R n) x0 x1 x12 x13 := rfl
theorem F47_l1_ok (R : ER) : ∀ (n : Nat) (e : Env), iterL (den Pg R (cd Tryz.f47 [1,1,0,1,0,0])) n e (inB 0 (setN (kont Pg R Tryz.f47) (fun e => F47_j2 R))) = F47_l1 R n (e 0) (e 1) (e 12) (e 13) :=
  iterL_join (den Pg R (cd Tryz.f47 [1,1,0,1,0,0])) (inB 0 (setN (kont Pg R Tryz.f47) (fun e => F47_j2 R))) (fun n e => F47_l1 R n (e 0) (e 1) (e 12) (e 13)) (fun _ => rfl) (fun n e => (F47_b1_ok R (F47_l1 R n) e).trans (F47_l1_succ R n (e 0) (e 1) (e 12) (e 13)).symm)
def F47_j4 (R : ER) (x0 x1 x12 x13 : Value) : WP :=
  exN fun n => F47_l1 R n x0 x1 x12 x13
theorem F47_j4_ok (R : ER) (e : Env) : den Pg R (cd Tryz.f47 [1,1,0,1]) e (setN (kont Pg R Tryz.f47) (fun e => F47_j2 R)) = (F47_j4 R (e 0) (e 1) (e 12) (e 13)) := (den_block Pg R (cd Tryz.f47 [1,1,0,1]) 0 (cd Tryz.f47 [1,1,0,1,0]) e (setN (kont Pg R Tryz.f47) (fun e => F47_j2 R)) _ (by kernel_rfl) (den_loop Pg R (cd Tryz.f47 [1,1,0,1,0]) (cd Tryz.f47 [1,1,0,1,0,0]) e (inB 0 (setN (kont Pg R Tryz.f47) (fun e => F47_j2 R))) (fun n e => F47_l1 R n (e 0) (e 1) (e 12) (e 13)) _ (by kernel_rfl) (F47_l1_ok R) (by kernel_rfl)))
def F47_j3 (R : ER) (x0 x1 : Value) : WP :=
  pv (lenS x0) fun v8 =>
  F47_j4 R x0 x1 v8 (.int .i64 0)
theorem F47_j3_ok (R : ER) (e : Env) : den Pg R (cd Tryz.f47 [1,1,0]) e (setN (kont Pg R Tryz.f47) (fun e => F47_j2 R)) = (F47_j3 R (e 0) (e 1)) := (den_join Pg R 0 (cd Tryz.f47 [1,1,0]) (cd Tryz.f47 [1,1,0,1]) e (setN (kont Pg R Tryz.f47) (fun e => F47_j2 R)) (fun e => F47_j4 R (e 0) (e 1) (e 12) (e 13)) _ (by kernel_rfl) (fun e => F47_j4_ok R e) (by kernel_rfl))
def F47_j1 (R : ER) (x0 x1 : Value) : WP :=
  F47_j3 R x0 x1
theorem F47_j1_ok (R : ER) (e : Env) : den Pg R (cd Tryz.f47 [1,1]) e (kont Pg R Tryz.f47) = (F47_j1 R (e 0) (e 1)) := (den_join Pg R 0 (cd Tryz.f47 [1,1]) (cd Tryz.f47 [1,1,1]) e (kont Pg R Tryz.f47) (fun e => F47_j2 R) _ (by kernel_rfl) (fun e => F47_j2_ok R e) (den_conv Pg R (pre 0 (cd Tryz.f47 [1,1])) (cd Tryz.f47 [1,1,0]) e (setN (kont Pg R Tryz.f47) (fun e => F47_j2 R)) _ (by kernel_rfl) (F47_j3_ok R e)))
def F47 (R : ER) (x0 x1 : Value) : WP :=
  pv (lenS x0) fun v9 =>
  pv (lenS x1) fun v10 =>
  pv (bin .neq v9 v10) fun v11 =>
  cnd v11 (
   R (.returned (.bool false))) (
   F47_j1 R x0 x1)
theorem F47_den (R : ER) (x0 x1 : Value) : den Pg R (cd Tryz.f47 []) (argsEnv [x0, x1]) (kont Pg R Tryz.f47) = F47 R x0 x1 :=
  have h : ∀ e, den Pg R (cd Tryz.f47 []) e (kont Pg R Tryz.f47) = F47 R (e 0) (e 1) := fun e => (den_join Pg R 1 (cd Tryz.f47 []) (cd Tryz.f47 [1,1]) e (kont Pg R Tryz.f47) (fun e => F47_j1 R (e 0) (e 1)) _ (by kernel_rfl) (fun e => F47_j1_ok R e) (by kernel_rfl))
  h _
theorem F47_calls {R : ER} {x0 x1 : Value} {w : World} (h : F47 R x0 x1 w) : Calls Pg 47 ⟨[x0, x1]⟩ w R :=
  calls_of_den Tryz.func47 (by kernel_rfl) (by kernel_rfl) (F47_den R x0 x1) h
/-! ### 74: channels_process -/
def F74 (R : ER) (x0 : Value) : WP :=
  cal Pg R 78 ⟨[x0, (.int .i64 63)]⟩ fun v1 =>
  R (.returned v1)
theorem F74_den (R : ER) (x0 : Value) : den Pg R (cd Tryz.f74 []) (argsEnv [x0]) (kont Pg R Tryz.f74) = F74 R x0 :=
  have h : ∀ e, den Pg R (cd Tryz.f74 []) e (kont Pg R Tryz.f74) = F74 R (e 0) := fun e => by kernel_rfl
  h _
theorem F74_calls {R : ER} {x0 : Value} {w : World} (h : F74 R x0 w) : Calls Pg 74 ⟨[x0]⟩ w R :=
  calls_of_den Tryz.func74 (by kernel_rfl) (by kernel_rfl) (F74_den R x0) h
/-! ### 75: channels_free -/
def F75_b1 (R : ER) (k1 : V2) (x0 x3 : Value) : WP :=
  valV Pg R (Instr.lookup 81 x0 x3 true) fun v1 =>
  pv (extO 0 v1) fun v2 =>
  pv (extO 1 v1) fun v3 =>
  pv (unO .not v3) fun v4 =>
  cnd v4 (
   R (.returned x3)) (
   pv (bin .add x3 (.int .i64 1)) fun v5 =>
  k1 x0 v5)
theorem F75_b1_ok (R : ER) (k1 : V2) (e : Env) : den Pg R (cd Tryz.f75 [1,1,0,0]) e (setN (inB 0 (kont Pg R Tryz.f75)) (fun e => k1 (e 0) (e 3))) = (F75_b1 R k1 (e 0) (e 3)) := (den_block Pg R (cd Tryz.f75 [1,1,0,0]) 1 (cd Tryz.f75 [1,1,0,0,0]) e (setN (inB 0 (kont Pg R Tryz.f75)) (fun e => k1 (e 0) (e 3))) _ (by kernel_rfl) (by kernel_rfl))
noncomputable def F75_l1 (R : ER) (n : Nat) : V2 := Nat.rec (motive := fun _ => V2) (fun _ _ => fun _ => False) (fun _ ih => fun x0 x3 => F75_b1 R ih x0 x3) n
theorem F75_l1_succ (R : ER) (n : Nat) (x0 x3 : Value) : F75_l1 R (n + 1) x0 x3 = F75_b1 R (F75_l1 R n) x0 x3 := rfl
theorem F75_l1_ok (R : ER) : ∀ (n : Nat) (e : Env), iterL (den Pg R (cd Tryz.f75 [1,1,0,0])) n e (inB 0 (kont Pg R Tryz.f75)) = F75_l1 R n (e 0) (e 3) :=
  iterL_join (den Pg R (cd Tryz.f75 [1,1,0,0])) (inB 0 (kont Pg R Tryz.f75)) (fun n e => F75_l1 R n (e 0) (e 3)) (fun _ => rfl) (fun n e => (F75_b1_ok R (F75_l1 R n) e).trans (F75_l1_succ R n (e 0) (e 3)).symm)
def F75_j1 (R : ER) (x0 x3 : Value) : WP :=
  exN fun n => F75_l1 R n x0 x3
theorem F75_j1_ok (R : ER) (e : Env) : den Pg R (cd Tryz.f75 [1,1]) e (kont Pg R Tryz.f75) = (F75_j1 R (e 0) (e 3)) := (den_block Pg R (cd Tryz.f75 [1,1]) 0 (cd Tryz.f75 [1,1,0]) e (kont Pg R Tryz.f75) _ (by kernel_rfl) (den_loop Pg R (cd Tryz.f75 [1,1,0]) (cd Tryz.f75 [1,1,0,0]) e (inB 0 (kont Pg R Tryz.f75)) (fun n e => F75_l1 R n (e 0) (e 3)) _ (by kernel_rfl) (F75_l1_ok R) (by kernel_rfl)))
def F75 (R : ER) (x0 : Value) : WP :=
  F75_j1 R x0 (.int .i64 0)
theorem F75_den (R : ER) (x0 : Value) : den Pg R (cd Tryz.f75 []) (argsEnv [x0]) (kont Pg R Tryz.f75) = F75 R x0 :=
  have h : ∀ e, den Pg R (cd Tryz.f75 []) e (kont Pg R Tryz.f75) = F75 R (e 0) := fun e => (den_join Pg R 1 (cd Tryz.f75 []) (cd Tryz.f75 [1,1]) e (kont Pg R Tryz.f75) (fun e => F75_j1 R (e 0) (e 3)) _ (by kernel_rfl) (fun e => F75_j1_ok R e) (by kernel_rfl))
  h _
theorem F75_calls {R : ER} {x0 : Value} {w : World} (h : F75 R x0 w) : Calls Pg 75 ⟨[x0]⟩ w R :=
  calls_of_den Tryz.func75 (by kernel_rfl) (by kernel_rfl) (F75_den R x0) h
/-! ### 76: channels_free_76 -/
def F76_b1 (R : ER) (k1 : V2) (x0 x3 : Value) : WP :=
  valV Pg R (Instr.lookup 101 x0 x3 true) fun v1 =>
  pv (extO 0 v1) fun v2 =>
  pv (extO 1 v1) fun v3 =>
  pv (unO .not v3) fun v4 =>
  cnd v4 (
   R (.returned x3)) (
   pv (bin .add x3 (.int .i64 1)) fun v5 =>
  k1 x0 v5)
theorem F76_b1_ok (R : ER) (k1 : V2) (e : Env) : den Pg R (cd Tryz.f76 [1,1,0,0]) e (setN (inB 0 (kont Pg R Tryz.f76)) (fun e => k1 (e 0) (e 3))) = (F76_b1 R k1 (e 0) (e 3)) := (den_block Pg R (cd Tryz.f76 [1,1,0,0]) 1 (cd Tryz.f76 [1,1,0,0,0]) e (setN (inB 0 (kont Pg R Tryz.f76)) (fun e => k1 (e 0) (e 3))) _ (by kernel_rfl) (by kernel_rfl))
noncomputable def F76_l1 (R : ER) (n : Nat) : V2 := Nat.rec (motive := fun _ => V2) (fun _ _ => fun _ => False) (fun _ ih => fun x0 x3 => F76_b1 R ih x0 x3) n
theorem F76_l1_succ (R : ER) (n : Nat) (x0 x3 : Value) : F76_l1 R (n + 1) x0 x3 = F76_b1 R (F76_l1 R n) x0 x3 := rfl
theorem F76_l1_ok (R : ER) : ∀ (n : Nat) (e : Env), iterL (den Pg R (cd Tryz.f76 [1,1,0,0])) n e (inB 0 (kont Pg R Tryz.f76)) = F76_l1 R n (e 0) (e 3) :=
  iterL_join (den Pg R (cd Tryz.f76 [1,1,0,0])) (inB 0 (kont Pg R Tryz.f76)) (fun n e => F76_l1 R n (e 0) (e 3)) (fun _ => rfl) (fun n e => (F76_b1_ok R (F76_l1 R n) e).trans (F76_l1_succ R n (e 0) (e 3)).symm)
def F76_j1 (R : ER) (x0 x3 : Value) : WP :=
  exN fun n => F76_l1 R n x0 x3
theorem F76_j1_ok (R : ER) (e : Env) : den Pg R (cd Tryz.f76 [1,1]) e (kont Pg R Tryz.f76) = (F76_j1 R (e 0) (e 3)) := (den_block Pg R (cd Tryz.f76 [1,1]) 0 (cd Tryz.f76 [1,1,0]) e (kont Pg R Tryz.f76) _ (by kernel_rfl) (den_loop Pg R (cd Tryz.f76 [1,1,0]) (cd Tryz.f76 [1,1,0,0]) e (inB 0 (kont Pg R Tryz.f76)) (fun n e => F76_l1 R n (e 0) (e 3)) _ (by kernel_rfl) (F76_l1_ok R) (by kernel_rfl)))
def F76 (R : ER) (x0 : Value) : WP :=
  F76_j1 R x0 (.int .i64 0)
theorem F76_den (R : ER) (x0 : Value) : den Pg R (cd Tryz.f76 []) (argsEnv [x0]) (kont Pg R Tryz.f76) = F76 R x0 :=
  have h : ∀ e, den Pg R (cd Tryz.f76 []) e (kont Pg R Tryz.f76) = F76 R (e 0) := fun e => (den_join Pg R 1 (cd Tryz.f76 []) (cd Tryz.f76 [1,1]) e (kont Pg R Tryz.f76) (fun e => F76_j1 R (e 0) (e 3)) _ (by kernel_rfl) (fun e => F76_j1_ok R e) (by kernel_rfl))
  h _
theorem F76_calls {R : ER} {x0 : Value} {w : World} (h : F76 R x0 w) : Calls Pg 76 ⟨[x0]⟩ w R :=
  calls_of_den Tryz.func76 (by kernel_rfl) (by kernel_rfl) (F76_den R x0) h
/-! ### 77: channels_thread -/
def F77 (R : ER) (x0 : Value) : WP :=
  cal Pg R 78 ⟨[x0, (.int .i64 255)]⟩ fun v1 =>
  R (.returned v1)
theorem F77_den (R : ER) (x0 : Value) : den Pg R (cd Tryz.f77 []) (argsEnv [x0]) (kont Pg R Tryz.f77) = F77 R x0 :=
  have h : ∀ e, den Pg R (cd Tryz.f77 []) e (kont Pg R Tryz.f77) = F77 R (e 0) := fun e => by kernel_rfl
  h _
theorem F77_calls {R : ER} {x0 : Value} {w : World} (h : F77 R x0 w) : Calls Pg 77 ⟨[x0]⟩ w R :=
  calls_of_den Tryz.func77 (by kernel_rfl) (by kernel_rfl) (F77_den R x0) h
/-! ### 78: channels_within -/
def F78 (R : ER) (x0 x1 : Value) : WP :=
  pv (bin .geq x0 (.int .i64 0)) fun v1 =>
  gd v1 true (pv (some x0)) fun v2 =>
  gd v1 true (pv (some x1)) fun v3 =>
  gd v1 true (pv (bin .leq v2 v3)) fun v4 =>
  pv (pickO v1 v4 (.bool false)) fun v5 =>
  R (.returned v5)
theorem F78_den (R : ER) (x0 x1 : Value) : den Pg R (cd Tryz.f78 []) (argsEnv [x0, x1]) (kont Pg R Tryz.f78) = F78 R x0 x1 :=
  have h : ∀ e, den Pg R (cd Tryz.f78 []) e (kont Pg R Tryz.f78) = F78 R (e 0) (e 1) := fun e => by kernel_rfl
  h _
theorem F78_calls {R : ER} {x0 x1 : Value} {w : World} (h : F78 R x0 x1 w) : Calls Pg 78 ⟨[x0, x1]⟩ w R :=
  calls_of_den Tryz.func78 (by kernel_rfl) (by kernel_rfl) (F78_den R x0 x1) h
/-! ### 79: channels_Table_come -/
def F79 (R : ER) (x0 x1 : Value) : WP :=
  al Pg 105 fun v1 =>
  pv (nilO x0) fun v2 =>
  pv (faO 7 v2) fun v3 =>
  ld1 v3 fun v4 =>
  pv (bin .add v4 (.int .i64 1)) fun v5 =>
  pv (nilO x0) fun v6 =>
  pv (faO 7 v6) fun v7 =>
  st1 v7 v5 fun _ =>
  pv (nilO x0) fun v8 =>
  pv (faO 7 v8) fun v9 =>
  ld1 v9 fun v10 =>
  pv (bldO [.int .i64 0, .int .i64 0] [(0,1, x1), (1,1, v10)]) fun v11 =>
  stN 2 v1 v11 fun _ =>
  ldN 2 v1 fun v12 => R (.returned v12)
theorem F79_den (R : ER) (x0 x1 : Value) : den Pg R (cd Tryz.f79 []) (argsEnv [x0, x1]) (kont Pg R Tryz.f79) = F79 R x0 x1 :=
  have h : ∀ e, den Pg R (cd Tryz.f79 []) e (kont Pg R Tryz.f79) = F79 R (e 0) (e 1) := fun e => by kernel_rfl
  h _
theorem F79_calls {R : ER} {x0 x1 : Value} {w : World} (h : F79 R x0 x1 w) : Calls Pg 79 ⟨[x0, x1]⟩ w R :=
  calls_of_den Tryz.func79 (by kernel_rfl) (by kernel_rfl) (F79_den R x0 x1) h
/-! ### 80: channels_Table_hand -/
def F80 (R : ER) (x0 x1 x2 : Value) : WP :=
  bx 110 x2 fun v1 =>
  pv (nilO x1) fun v2 =>
  pv (faO 4 v2) fun v3 =>
  ld1 v3 fun v4 =>
  pv (ixS 4 v4 (.int .i64 0)) fun v5 =>
  ldN 4 v5 fun v6 =>
  al Pg 107 fun v7 =>
  stN 4 v7 v6 fun _ =>
  pv (nilO x1) fun v8 =>
  pv (faO 4 v8) fun v9 =>
  ld1 v9 fun v10 =>
  cal Pg R 104 ⟨[v10, (.int .i64 0), (.int .i64 1)]⟩ fun v11 =>
  pv (nilO x1) fun v12 =>
  pv (faO 4 v12) fun v13 =>
  st1 v13 v11 fun _ =>
  ldN 11 v1 fun v14 =>
  pv (faO 2 v7) fun v15 =>
  ld1 v15 fun v16 =>
  pv (faO 3 v7) fun v17 =>
  ld1 v17 fun v18 =>
  cal Pg R 84 ⟨[x0, x1, v14, v16, v18]⟩ fun v19 =>
  al Pg 32 fun v20 =>
  stN 10 v20 v19 fun _ =>
  drewV (
  pv (nilO x0) fun v21 =>
  pv (faO 4 v21) fun v22 =>
  ld1 v22 fun v23 =>
  pv (faO 2 v7) fun v24 =>
  ld1 v24 fun v25 =>
  mem fun w27 => unitV Pg noR (Instr.mapUpdate 85 v23 v25 v20) fun v26 =>
  pv (faO 2 v7) fun v28 =>
  ld1 v28 fun v29 =>
  pv (faO 0 v20) fun v30 =>
  ld1 v30 fun v31 =>
  cal Pg R 93 ⟨[x0, v29, (.int .i64 0), v31]⟩ fun v32 =>
  valV Pg R (Instr.buildSlice 39 1 ⟨[(0, v32)]⟩) fun v33 =>
  R (.returned v33))
theorem F80_den (R : ER) (x0 x1 x2 : Value) : den Pg R (cd Tryz.f80 []) (argsEnv [x0, x1, x2]) (kont Pg R Tryz.f80) = F80 R x0 x1 x2 :=
  have h : ∀ e, den Pg R (cd Tryz.f80 []) e (kont Pg R Tryz.f80) = F80 R (e 0) (e 1) (e 2) := fun e => by kernel_rfl
  h _
theorem F80_calls {R : ER} {x0 x1 x2 : Value} {w : World} (h : F80 R x0 x1 x2 w) : Calls Pg 80 ⟨[x0, x1, x2]⟩ w R :=
  calls_of_den Tryz.func80 (by kernel_rfl) (by kernel_rfl) (F80_den R x0 x1 x2) h
/-! ### 81: channels_channel_queue -/
def F81 (R : ER) (x0 x1 : Value) : WP :=
  bx 110 x1 fun v1 =>
  drewV (
  pv (nilO x0) fun v2 =>
  pv (faO 3 v2) fun v3 =>
  ld1 v3 fun v4 =>
  ldN 11 v1 fun v5 =>
  mem fun w7 => cal Pg noR 130 ⟨[v4, v5, (.func (.func 131) ⟨[]⟩ ⟨[]⟩)]⟩ fun v6 =>
  pv (nilO x0) fun v8 =>
  pv (faO 3 v8) fun v9 =>
  mem fun w11 => st1 v9 v6 fun v10 =>
  R (.returned (.tuple ⟨[]⟩)))
theorem F81_den (R : ER) (x0 x1 : Value) : den Pg R (cd Tryz.f81 []) (argsEnv [x0, x1]) (kont Pg R Tryz.f81) = F81 R x0 x1 :=
  have h : ∀ e, den Pg R (cd Tryz.f81 []) e (kont Pg R Tryz.f81) = F81 R (e 0) (e 1) := fun e => by kernel_rfl
  h _
theorem F81_calls {R : ER} {x0 x1 : Value} {w : World} (h : F81 R x0 x1 w) : Calls Pg 81 ⟨[x0, x1]⟩ w R :=
  calls_of_den Tryz.func81 (by kernel_rfl) (by kernel_rfl) (F81_den R x0 x1) h
/-! ### 82: channels_Table_owned -/
def F82_j1 (R : ER) (x1 x8 : Value) : WP :=
  pv (nilO x8) fun v1 =>
  pv (faO 1 v1) fun v2 =>
  ld1 v2 fun v3 =>
  pv (bin .neq v3 x1) fun v4 =>
  cnd v4 (
   R (.returned (.tuple ⟨[(.pointer none), (.int .i64 32)]⟩))) (
   R (.returned (.tuple ⟨[x8, (.int .i64 0)]⟩)))
theorem F82_j1_ok (R : ER) (e : Env) : den Pg R (cd Tryz.f82 [1,1,1]) e (kont Pg R Tryz.f82) = (F82_j1 R (e 1) (e 8)) := by kernel_rfl
def F82 (R : ER) (x0 x1 x2 : Value) : WP :=
  pv (nilO x0) fun v5 =>
  pv (faO 0 v5) fun v6 =>
  ld1 v6 fun v7 =>
  valV Pg R (Instr.lookup 81 v7 x2 true) fun v8 =>
  pv (extO 0 v8) fun v9 =>
  pv (extO 1 v8) fun v10 =>
  pv (unO .not v10) fun v11 =>
  cnd v11 (
   R (.returned (.tuple ⟨[(.pointer none), (.int .i64 3)]⟩))) (
   F82_j1 R x1 v9)
theorem F82_den (R : ER) (x0 x1 x2 : Value) : den Pg R (cd Tryz.f82 []) (argsEnv [x0, x1, x2]) (kont Pg R Tryz.f82) = F82 R x0 x1 x2 :=
  have h : ∀ e, den Pg R (cd Tryz.f82 []) e (kont Pg R Tryz.f82) = F82 R (e 0) (e 1) (e 2) := fun e => (den_join Pg R 2 (cd Tryz.f82 []) (cd Tryz.f82 [1,1,1]) e (kont Pg R Tryz.f82) (fun e => F82_j1 R (e 1) (e 8)) _ (by kernel_rfl) (fun e => F82_j1_ok R e) (by kernel_rfl))
  h _
theorem F82_calls {R : ER} {x0 x1 x2 : Value} {w : World} (h : F82 R x0 x1 x2 w) : Calls Pg 82 ⟨[x0, x1, x2]⟩ w R :=
  calls_of_den Tryz.func82 (by kernel_rfl) (by kernel_rfl) (F82_den R x0 x1 x2) h
/-! ### 83: slices_Delete -/
def F83_j1 (R : ER) (x0 x1 x2 : Value) : WP :=
  pv (lenS x0) fun v1 =>
  drewV (
  pv (slS 11 x0 none (some x1)) fun v2 =>
  pv (slS 11 x0 (some x2) none) fun v3 =>
  mem fun w5 => blt Pg noR .append ⟨[99,99]⟩ 99 ⟨[false, false]⟩ ⟨[v2, v3]⟩ fun v4 =>
  pv (lenS v4) fun v6 =>
  pv (slS 11 v4 (some v6) (some v1)) fun v7 =>
  blt Pg R .clear ⟨[99]⟩ 0 ⟨[false]⟩ ⟨[v7]⟩ fun _ =>
  R (.returned v4))
theorem F83_j1_ok (R : ER) (e : Env) : den Pg R (cd Tryz.f83 [1,1,1]) e (kont Pg R Tryz.f83) = (F83_j1 R (e 0) (e 1) (e 2)) := by kernel_rfl
def F83 (R : ER) (x0 x1 x2 : Value) : WP :=
  pv (lenS x0) fun v8 =>
  valV Pg R (Instr.sliceAt 99 x0 (some x1) (some x2) (some v8)) fun v9 =>
  pv (bin .eql x1 x2) fun v10 =>
  cnd v10 (
   R (.returned x0)) (
   F83_j1 R x0 x1 x2)
theorem F83_den (R : ER) (x0 x1 x2 : Value) : den Pg R (cd Tryz.f83 []) (argsEnv [x0, x1, x2]) (kont Pg R Tryz.f83) = F83 R x0 x1 x2 :=
  have h : ∀ e, den Pg R (cd Tryz.f83 []) e (kont Pg R Tryz.f83) = F83 R (e 0) (e 1) (e 2) := fun e => (den_join Pg R 2 (cd Tryz.f83 []) (cd Tryz.f83 [1,1,1]) e (kont Pg R Tryz.f83) (fun e => F83_j1 R (e 0) (e 1) (e 2)) _ (by kernel_rfl) (fun e => F83_j1_ok R e) (by kernel_rfl))
  h _
theorem F83_calls {R : ER} {x0 x1 x2 : Value} {w : World} (h : F83 R x0 x1 x2 w) : Calls Pg 83 ⟨[x0, x1, x2]⟩ w R :=
  calls_of_den Tryz.func83 (by kernel_rfl) (by kernel_rfl) (F83_den R x0 x1 x2) h
/-! ### 84: channels_Table_take -/
def F84_j1 (R : ER) (x0 x1 x3 x4 x7 x10 : Value) : WP :=
  pv (nilO x0) fun v1 =>
  pv (faO 6 v1) fun v2 =>
  ld1 v2 fun v3 =>
  pv (bin .add v3 (.int .i64 1)) fun v4 =>
  pv (nilO x0) fun v5 =>
  pv (faO 6 v5) fun v6 =>
  st1 v6 v4 fun _ =>
  drewV (
  pv (nilO x0) fun v7 =>
  pv (faO 6 v7) fun v8 =>
  ld1 v8 fun v9 =>
  pv (faO 2 x7) fun v10 =>
  ld1 v10 fun v11 =>
  pv (faO 0 x7) fun v12 =>
  pv (faO 0 v12) fun v13 =>
  ld1 v13 fun v14 =>
  pv (faO 6 x7) fun v15 =>
  ld1 v15 fun v16 =>
  pv (faO 7 x7) fun v17 =>
  ld1 v17 fun v18 =>
  mem fun w20 => valV Pg noR (Instr.makeSlice 30 v18 v18) fun v19 =>
  rd1 v15 v16 <|
  rd1 v13 v14 <|
  rd1 v10 v11 <|
  rd1 v8 v9 <|
  pv (bldO [.int .i64 0, .int .i64 0, .int .i64 0, .int .i64 0, .pointer none, .slice none 0 0, .slice none 0 0, .int .i64 0, .bool false] [(0,1, v9), (1,1, v11), (2,1, x3), (3,1, v14), (4,1, x1), (5,1, v16), (6,1, v19)]) fun v21 =>
  mem fun w23 => bx 112 v21 fun v22 =>
  pv (nilO x0) fun v24 =>
  pv (faO 3 v24) fun v25 =>
  ld1 v25 fun v26 =>
  valV Pg R (Instr.buildSlice 84 1 ⟨[(0, v22)]⟩) fun v27 =>
  blt Pg R .append ⟨[84,84]⟩ 84 ⟨[false, false]⟩ ⟨[v26, v27]⟩ fun v28 =>
  pv (nilO x0) fun v29 =>
  pv (faO 3 v29) fun v30 =>
  st1 v30 v28 fun _ =>
  drewV (
  pv (nilO x0) fun v31 =>
  pv (faO 2 v31) fun v32 =>
  ld1 v32 fun v33 =>
  pv (faO 2 x7) fun v34 =>
  ld1 v34 fun v35 =>
  pv (bldO [.int .i64 0, .pointer none, .pointer none] [(0,1, (.int .i64 4)), (1,1, x1), (2,1, v22)]) fun v36 =>
  mem fun w38 => unitV Pg noR (Instr.mapUpdate 83 v33 v35 v36) fun v37 =>
  drewV (
  pv (nilO v22) fun v39 =>
  pv (faO 0 v39) fun v40 =>
  ld1 v40 fun v41 =>
  pv (faO 2 x7) fun v42 =>
  ld1 v42 fun v43 =>
  pv (faO 3 x7) fun v44 =>
  ld1 v44 fun v45 =>
  pv (faO 4 x7) fun v46 =>
  ld1 v46 fun v47 =>
  pv (faO 0 x7) fun v48 =>
  pv (faO 0 v48) fun v49 =>
  ld1 v49 fun v50 =>
  pv (faO 6 x7) fun v51 =>
  ld1 v51 fun v52 =>
  pv (faO 6 x7) fun v53 =>
  ld1 v53 fun v54 =>
  pv (lenS v54) fun v55 =>
  pv (min2I x4 v55) fun v56 =>
  pv (slS 1 v52 none (some v56)) fun v57 =>
  mem fun w59 => cal Pg noR 32 ⟨[v57]⟩ fun v58 =>
  rd1 v49 v50 <|
  rd1 v46 v47 <|
  rd1 v44 v45 <|
  rd1 v42 v43 <|
  rd1 v40 v41 <|
  pv (faO 6 x7) fun v60 =>
  ld1S [w59] v60 fun v61 =>
  pv (lenS v61) fun v62 =>
  pv (bldO [.int .i64 0, .int .i64 0, .int .i64 0, .int .i64 0, .int .i64 0, .int .i64 0, .int .i64 0, .slice none 0 0, .int .i64 0, .int .i64 0] [(0,1, v41), (1,1, v43), (2,1, v45), (3,1, v47), (4,1, v50), (7,1, v58), (8,1, v62), (9,1, (.int .i64 1))]) fun v63 =>
  mem fun w65 => stN 10 x10 v63 fun v64 =>
  ldN 10 x10 fun v66 => R (.returned v66))))
theorem F84_j1_ok (R : ER) (e : Env) : den Pg R (cd Tryz.f84 [1,1]) e (kont Pg R Tryz.f84) = (F84_j1 R (e 0) (e 1) (e 3) (e 4) (e 7) (e 10)) := by kernel_rfl
def F84_j4 (R : ER) (x7 x10 : Value) : WP :=
  pv (faO 3 x7) fun v67 =>
  ld1 v67 fun v68 =>
  pv (faO 4 x7) fun v69 =>
  ld1 v69 fun v70 =>
  pv (faO 0 x7) fun v71 =>
  pv (faO 0 v71) fun v72 =>
  ld1 v72 fun v73 =>
  pv (faO 8 x7) fun v74 =>
  ld1 v74 fun v75 =>
  pv (faO 9 x7) fun v76 =>
  ld1 v76 fun v77 =>
  pv (faO 10 x7) fun v78 =>
  ld1 v78 fun v79 =>
  pv (bldO [.int .i64 0, .int .i64 0, .int .i64 0, .int .i64 0, .int .i64 0, .int .i64 0, .int .i64 0, .slice none 0 0, .int .i64 0, .int .i64 0] [(1,1, (.int .i64 (-1))), (2,1, v68), (3,1, v70), (4,1, v73), (5,1, v75), (6,1, v77), (9,1, v79)]) fun v80 =>
  stN 10 x10 v80 fun _ =>
  ldN 10 x10 fun v81 => R (.returned v81)
theorem F84_j4_ok (R : ER) (e : Env) : den Pg R (cd Tryz.f84 [1,0,1,0]) e (setN (kont Pg R Tryz.f84) (fun e => F84_j1 R (e 0) (e 1) (e 3) (e 4) (e 7) (e 10))) = (F84_j4 R (e 7) (e 10)) := by kernel_rfl
def F84_j3 (R : ER) (x0 x1 x3 x4 x7 x10 x14 : Value) : WP :=
  cnd x14 (F84_j4 R x7 x10) (F84_j1 R x0 x1 x3 x4 x7 x10)
theorem F84_j3_ok (R : ER) (e : Env) : den Pg R (cd Tryz.f84 [1,0,1]) e (setN (kont Pg R Tryz.f84) (fun e => F84_j1 R (e 0) (e 1) (e 3) (e 4) (e 7) (e 10))) = (F84_j3 R (e 0) (e 1) (e 3) (e 4) (e 7) (e 10) (e 14)) := (den_if Pg R (cd Tryz.f84 [1,0,1]) (cd Tryz.f84 [1,0,1,0]) (cd Tryz.f84 [1,0,1,1]) e (setN (kont Pg R Tryz.f84) (fun e => F84_j1 R (e 0) (e 1) (e 3) (e 4) (e 7) (e 10))) (F84_j4 R (e 7) (e 10)) _ _ (by kernel_rfl) (F84_j4_ok R e) rfl (by kernel_rfl))
def F84_j2 (R : ER) (x0 x1 x3 x4 x7 x10 : Value) : WP :=
  pv (faO 2 x7) fun v82 =>
  ld1 v82 fun v83 =>
  pv (bin .eql v83 (.int .i64 (-1))) fun v84 =>
  F84_j3 R x0 x1 x3 x4 x7 x10 v84
theorem F84_j2_ok (R : ER) (e : Env) : den Pg R (cd Tryz.f84 [1,0]) e (setN (kont Pg R Tryz.f84) (fun e => F84_j1 R (e 0) (e 1) (e 3) (e 4) (e 7) (e 10))) = (F84_j2 R (e 0) (e 1) (e 3) (e 4) (e 7) (e 10)) := (den_join Pg R 0 (cd Tryz.f84 [1,0]) (cd Tryz.f84 [1,0,1]) e (setN (kont Pg R Tryz.f84) (fun e => F84_j1 R (e 0) (e 1) (e 3) (e 4) (e 7) (e 10))) (fun e => F84_j3 R (e 0) (e 1) (e 3) (e 4) (e 7) (e 10) (e 14)) _ (by kernel_rfl) (fun e => F84_j3_ok R e) (by kernel_rfl))
def F84 (R : ER) (x0 x1 x2 x3 x4 : Value) : WP :=
  bx 110 x2 fun v85 =>
  al Pg 32 fun v86 =>
  F84_j2 R x0 x1 x3 x4 v85 v86
theorem F84_den (R : ER) (x0 x1 x2 x3 x4 : Value) : den Pg R (cd Tryz.f84 []) (argsEnv [x0, x1, x2, x3, x4]) (kont Pg R Tryz.f84) = F84 R x0 x1 x2 x3 x4 :=
  have h : ∀ e, den Pg R (cd Tryz.f84 []) e (kont Pg R Tryz.f84) = F84 R (e 0) (e 1) (e 2) (e 3) (e 4) := fun e => (den_join Pg R 1 (cd Tryz.f84 []) (cd Tryz.f84 [1,1]) e (kont Pg R Tryz.f84) (fun e => F84_j1 R (e 0) (e 1) (e 3) (e 4) (e 7) (e 10)) _ (by kernel_rfl) (fun e => F84_j1_ok R e) (den_join Pg R 0 (pre 1 (cd Tryz.f84 [])) (cd Tryz.f84 [1,0]) e (setN (kont Pg R Tryz.f84) (fun e => F84_j1 R (e 0) (e 1) (e 3) (e 4) (e 7) (e 10))) (fun e => F84_j2 R (e 0) (e 1) (e 3) (e 4) (e 7) (e 10)) _ (by kernel_rfl) (fun e => F84_j2_ok R e) (by kernel_rfl)))
  h _
theorem F84_calls {R : ER} {x0 x1 x2 x3 x4 : Value} {w : World} (h : F84 R x0 x1 x2 x3 x4 w) : Calls Pg 84 ⟨[x0, x1, x2, x3, x4]⟩ w R :=
  calls_of_den Tryz.func84 (by kernel_rfl) (by kernel_rfl) (F84_den R x0 x1 x2 x3 x4) h
/-! ### 85: channels_insert -/
def F85 (R : ER) (x0 x1 x2 : Value) : WP :=
  bx 107 x1 fun v1 =>
  bx 150 x2 fun v2 =>
  ld1 v2 fun v3 =>
  ldN 4 v1 fun v4 =>
  calD Pg R v3 ⟨[v4]⟩ fun v5 =>
  cal Pg R 132 ⟨[x0, v5, (.func (.func 133) ⟨[]⟩ ⟨[v2]⟩)]⟩ fun v6 =>
  pv (extO 0 v6) fun v7 =>
  pv (extO 1 v6) fun v8 =>
  ldN 4 v1 fun v9 =>
  valV Pg R (Instr.buildSlice 100 1 ⟨[(0, v9)]⟩) fun v10 =>
  cal Pg R 134 ⟨[x0, v7, v10]⟩ fun v11 =>
  R (.returned v11)
theorem F85_den (R : ER) (x0 x1 x2 : Value) : den Pg R (cd Tryz.f85 []) (argsEnv [x0, x1, x2]) (kont Pg R Tryz.f85) = F85 R x0 x1 x2 :=
  have h : ∀ e, den Pg R (cd Tryz.f85 []) e (kont Pg R Tryz.f85) = F85 R (e 0) (e 1) (e 2) := fun e => by kernel_rfl
  h _
theorem F85_calls {R : ER} {x0 x1 x2 : Value} {w : World} (h : F85 R x0 x1 x2 w) : Calls Pg 85 ⟨[x0, x1, x2]⟩ w R :=
  calls_of_den Tryz.func85 (by kernel_rfl) (by kernel_rfl) (F85_den R x0 x1 x2) h
/-! ### 86: channels_Table_Receive_1 -/
def F86 (R : ER) (x0 : Value) : WP :=
  bx 107 x0 fun v1 =>
  al Pg 105 fun v2 =>
  pv (faO 0 v1) fun v3 =>
  ldN 2 v3 fun v4 =>
  stN 2 v2 v4 fun _ =>
  ldN 2 v2 fun v5 => R (.returned v5)
theorem F86_den (R : ER) (x0 : Value) : den Pg R (cd Tryz.f86 []) (argsEnv [x0]) (kont Pg R Tryz.f86) = F86 R x0 :=
  have h : ∀ e, den Pg R (cd Tryz.f86 []) e (kont Pg R Tryz.f86) = F86 R (e 0) := fun e => by kernel_rfl
  h _
theorem F86_calls {R : ER} {x0 : Value} {w : World} (h : F86 R x0 w) : Calls Pg 86 ⟨[x0]⟩ w R :=
  calls_of_den Tryz.func86 (by kernel_rfl) (by kernel_rfl) (F86_den R x0) h
/-! ### 87: channels_Table_asked -/
def F87 (R : ER) (x0 x1 x2 x3 : Value) : WP :=
  pv (eqNilP x0) fun v1 =>
  cnd v1 (
   R (.returned (.tuple ⟨[(.pointer none), (.int .i64 35)]⟩))) (
   cal Pg R 74 ⟨[x1]⟩ fun v2 =>
   pv (unO .not v2) fun v3 =>
   cnd v3 (
    R (.returned (.tuple ⟨[(.pointer none), (.int .i64 34)]⟩))) (
    pv (lenS x3) fun v4 =>
    pv (bin .gtr v4 (.int .i64 4096)) fun v5 =>
    cnd v5 (
     R (.returned (.tuple ⟨[(.pointer none), (.int .i64 20)]⟩))) (
     cal Pg R 135 ⟨[x0, x1, x2]⟩ fun v6 =>
  pv (extO 0 v6) fun v7 =>
  pv (extO 1 v6) fun v8 =>
  R (.returned (.tuple ⟨[v7, v8]⟩)))))
theorem F87_den (R : ER) (x0 x1 x2 x3 : Value) : den Pg R (cd Tryz.f87 []) (argsEnv [x0, x1, x2, x3]) (kont Pg R Tryz.f87) = F87 R x0 x1 x2 x3 :=
  have h : ∀ e, den Pg R (cd Tryz.f87 []) e (kont Pg R Tryz.f87) = F87 R (e 0) (e 1) (e 2) (e 3) := fun e => (by kernel_rfl)
  h _
theorem F87_calls {R : ER} {x0 x1 x2 x3 : Value} {w : World} (h : F87 R x0 x1 x2 x3 w) : Calls Pg 87 ⟨[x0, x1, x2, x3]⟩ w R :=
  calls_of_den Tryz.func87 (by kernel_rfl) (by kernel_rfl) (F87_den R x0 x1 x2 x3) h
/-! ### 88: channels_message_write -/
def F88_j2 (R : ER) (x0 x1 x2 : Value) : WP :=
  pv (nilO x0) fun v1 =>
  pv (faO 6 v1) fun v2 =>
  ld1 v2 fun v3 =>
  pv (slS 1 v3 (some x1) none) fun v4 =>
  blt Pg R .copy ⟨[30,30]⟩ 3 ⟨[false, false]⟩ ⟨[v4, x2]⟩ fun v5 =>
  pv (nilO x0) fun v6 =>
  pv (faO 7 v6) fun v7 =>
  ld1 v7 fun v8 =>
  pv (lenS x2) fun v9 =>
  pv (bin .add x1 v9) fun v10 =>
  pv (max2I v8 v10) fun v11 =>
  pv (nilO x0) fun v12 =>
  pv (faO 7 v12) fun v13 =>
  st1 v13 v11 fun _ =>
  R (.returned (.tuple ⟨[]⟩))
theorem F88_j2_ok (R : ER) (e : Env) : den Pg R (cd Tryz.f88 [1,0]) e (kont Pg R Tryz.f88) = (F88_j2 R (e 0) (e 1) (e 2)) := by kernel_rfl
def F88_j1 (R : ER) (x0 x1 x2 x8 : Value) : WP :=
  cnd x8 (F88_j2 R x0 x1 x2) (R (.returned (.tuple ⟨[]⟩)))
theorem F88_j1_ok (R : ER) (e : Env) : den Pg R (cd Tryz.f88 [1]) e (kont Pg R Tryz.f88) = (F88_j1 R (e 0) (e 1) (e 2) (e 8)) := (den_if Pg R (cd Tryz.f88 [1]) (cd Tryz.f88 [1,0]) (cd Tryz.f88 [1,1]) e (kont Pg R Tryz.f88) (F88_j2 R (e 0) (e 1) (e 2)) _ _ (by kernel_rfl) (F88_j2_ok R e) rfl (by kernel_rfl))
def F88 (R : ER) (x0 x1 x2 : Value) : WP :=
  pv (lenS x2) fun v14 =>
  pv (bin .gtr v14 (.int .i64 0)) fun v15 =>
  F88_j1 R x0 x1 x2 v15
theorem F88_den (R : ER) (x0 x1 x2 : Value) : den Pg R (cd Tryz.f88 []) (argsEnv [x0, x1, x2]) (kont Pg R Tryz.f88) = F88 R x0 x1 x2 :=
  have h : ∀ e, den Pg R (cd Tryz.f88 []) e (kont Pg R Tryz.f88) = F88 R (e 0) (e 1) (e 2) := fun e => (den_join Pg R 0 (cd Tryz.f88 []) (cd Tryz.f88 [1]) e (kont Pg R Tryz.f88) (fun e => F88_j1 R (e 0) (e 1) (e 2) (e 8)) _ (by kernel_rfl) (fun e => F88_j1_ok R e) (by kernel_rfl))
  h _
theorem F88_calls {R : ER} {x0 x1 x2 : Value} {w : World} (h : F88 R x0 x1 x2 w) : Calls Pg 88 ⟨[x0, x1, x2]⟩ w R :=
  calls_of_den Tryz.func88 (by kernel_rfl) (by kernel_rfl) (F88_den R x0 x1 x2) h
/-! ### 89: channels_Table_drop -/
def F89 (R : ER) (x0 x1 x2 x3 : Value) : WP :=
  bx 77 x1 fun v1 =>
  al Pg 45 fun v2 =>
  pv (nilO x0) fun v3 =>
  pv (faO 3 v3) fun v4 =>
  ld1 v4 fun v5 =>
  cal Pg R 136 ⟨[v5, (.func (.func 137) ⟨[]⟩ ⟨[v1]⟩)]⟩ fun v6 =>
  pv (nilO x0) fun v7 =>
  pv (faO 3 v7) fun v8 =>
  st1 v8 v6 fun _ =>
  ld1 v1 fun v9 =>
  pv (nilO v9) fun v10 =>
  pv (faO 1 v10) fun v11 =>
  ld1 v11 fun v12 =>
  cal Pg R 93 ⟨[x0, v12, x2, x3]⟩ fun v13 =>
  stN 3 v2 v13 fun _ =>
  ldN 3 v2 fun v14 => R (.returned v14)
theorem F89_den (R : ER) (x0 x1 x2 x3 : Value) : den Pg R (cd Tryz.f89 []) (argsEnv [x0, x1, x2, x3]) (kont Pg R Tryz.f89) = F89 R x0 x1 x2 x3 :=
  have h : ∀ e, den Pg R (cd Tryz.f89 []) e (kont Pg R Tryz.f89) = F89 R (e 0) (e 1) (e 2) (e 3) := fun e => by kernel_rfl
  h _
theorem F89_calls {R : ER} {x0 x1 x2 x3 : Value} {w : World} (h : F89 R x0 x1 x2 x3 w) : Calls Pg 89 ⟨[x0, x1, x2, x3]⟩ w R :=
  calls_of_den Tryz.func89 (by kernel_rfl) (by kernel_rfl) (F89_den R x0 x1 x2 x3) h
/-! ### 93: channels_Table_ready -/
def F93 (R : ER) (x0 x1 x2 x3 : Value) : WP :=
  al Pg 45 fun v1 =>
  pv (nilO x0) fun v2 =>
  pv (faO 2 v2) fun v3 =>
  ld1 v3 fun v4 =>
  blt Pg R .delete ⟨[83,3]⟩ 0 ⟨[false, false]⟩ ⟨[v4, x1]⟩ fun _ =>
  pv (bldO [.int .i64 0, .int .i64 0, .int .i64 0] [(0,1, x1), (1,1, x2), (2,1, x3)]) fun v5 =>
  stN 3 v1 v5 fun _ =>
  ldN 3 v1 fun v6 => R (.returned v6)
theorem F93_den (R : ER) (x0 x1 x2 x3 : Value) : den Pg R (cd Tryz.f93 []) (argsEnv [x0, x1, x2, x3]) (kont Pg R Tryz.f93) = F93 R x0 x1 x2 x3 :=
  have h : ∀ e, den Pg R (cd Tryz.f93 []) e (kont Pg R Tryz.f93) = F93 R (e 0) (e 1) (e 2) (e 3) := fun e => by kernel_rfl
  h _
theorem F93_calls {R : ER} {x0 x1 x2 x3 : Value} {w : World} (h : F93 R x0 x1 x2 x3 w) : Calls Pg 93 ⟨[x0, x1, x2, x3]⟩ w R :=
  calls_of_den Tryz.func93 (by kernel_rfl) (by kernel_rfl) (F93_den R x0 x1 x2 x3) h
/-! ### 104: slices_Delete_104 -/
def F104_j1 (R : ER) (x0 x1 x2 : Value) : WP :=
  pv (lenS x0) fun v1 =>
  drewV (
  pv (slS 4 x0 none (some x1)) fun v2 =>
  pv (slS 4 x0 (some x2) none) fun v3 =>
  mem fun w5 => blt Pg noR .append ⟨[100,100]⟩ 100 ⟨[false, false]⟩ ⟨[v2, v3]⟩ fun v4 =>
  pv (lenS v4) fun v6 =>
  pv (slS 4 v4 (some v6) (some v1)) fun v7 =>
  blt Pg R .clear ⟨[100]⟩ 0 ⟨[false]⟩ ⟨[v7]⟩ fun _ =>
  R (.returned v4))
theorem F104_j1_ok (R : ER) (e : Env) : den Pg R (cd Tryz.f104 [1,1,1]) e (kont Pg R Tryz.f104) = (F104_j1 R (e 0) (e 1) (e 2)) := by kernel_rfl
def F104 (R : ER) (x0 x1 x2 : Value) : WP :=
  pv (lenS x0) fun v8 =>
  valV Pg R (Instr.sliceAt 100 x0 (some x1) (some x2) (some v8)) fun v9 =>
  pv (bin .eql x1 x2) fun v10 =>
  cnd v10 (
   R (.returned x0)) (
   F104_j1 R x0 x1 x2)
theorem F104_den (R : ER) (x0 x1 x2 : Value) : den Pg R (cd Tryz.f104 []) (argsEnv [x0, x1, x2]) (kont Pg R Tryz.f104) = F104 R x0 x1 x2 :=
  have h : ∀ e, den Pg R (cd Tryz.f104 []) e (kont Pg R Tryz.f104) = F104 R (e 0) (e 1) (e 2) := fun e => (den_join Pg R 2 (cd Tryz.f104 []) (cd Tryz.f104 [1,1,1]) e (kont Pg R Tryz.f104) (fun e => F104_j1 R (e 0) (e 1) (e 2)) _ (by kernel_rfl) (fun e => F104_j1_ok R e) (by kernel_rfl))
  h _
theorem F104_calls {R : ER} {x0 x1 x2 : Value} {w : World} (h : F104 R x0 x1 x2 w) : Calls Pg 104 ⟨[x0, x1, x2]⟩ w R :=
  calls_of_den Tryz.func104 (by kernel_rfl) (by kernel_rfl) (F104_den R x0 x1 x2) h
/-! ### 108: cmp_isNaN -/
def F108 (R : ER) (x0 : Value) : WP :=
  pv (bin .neq x0 x0) fun v1 =>
  R (.returned v1)
theorem F108_den (R : ER) (x0 : Value) : den Pg R (cd Tryz.f108 []) (argsEnv [x0]) (kont Pg R Tryz.f108) = F108 R x0 :=
  have h : ∀ e, den Pg R (cd Tryz.f108 []) e (kont Pg R Tryz.f108) = F108 R (e 0) := fun e => by kernel_rfl
  h _
theorem F108_calls {R : ER} {x0 : Value} {w : World} (h : F108 R x0 w) : Calls Pg 108 ⟨[x0]⟩ w R :=
  calls_of_den Tryz.func108 (by kernel_rfl) (by kernel_rfl) (F108_den R x0) h
/-! ### 130: channels_insert_130 -/
def F130 (R : ER) (x0 x1 x2 : Value) : WP :=
  bx 110 x1 fun v1 =>
  bx 192 x2 fun v2 =>
  ld1 v2 fun v3 =>
  ldN 11 v1 fun v4 =>
  calD Pg R v3 ⟨[v4]⟩ fun v5 =>
  cal Pg R 158 ⟨[x0, v5, (.func (.func 159) ⟨[]⟩ ⟨[v2]⟩)]⟩ fun v6 =>
  pv (extO 0 v6) fun v7 =>
  pv (extO 1 v6) fun v8 =>
  ldN 11 v1 fun v9 =>
  valV Pg R (Instr.buildSlice 99 1 ⟨[(0, v9)]⟩) fun v10 =>
  cal Pg R 160 ⟨[x0, v7, v10]⟩ fun v11 =>
  R (.returned v11)
theorem F130_den (R : ER) (x0 x1 x2 : Value) : den Pg R (cd Tryz.f130 []) (argsEnv [x0, x1, x2]) (kont Pg R Tryz.f130) = F130 R x0 x1 x2 :=
  have h : ∀ e, den Pg R (cd Tryz.f130 []) e (kont Pg R Tryz.f130) = F130 R (e 0) (e 1) (e 2) := fun e => by kernel_rfl
  h _
theorem F130_calls {R : ER} {x0 x1 x2 : Value} {w : World} (h : F130 R x0 x1 x2 w) : Calls Pg 130 ⟨[x0, x1, x2]⟩ w R :=
  calls_of_den Tryz.func130 (by kernel_rfl) (by kernel_rfl) (F130_den R x0 x1 x2) h
/-! ### 131: channels_channel_queue_1 -/
def F131 (R : ER) (x0 : Value) : WP :=
  bx 110 x0 fun v1 =>
  al Pg 105 fun v2 =>
  pv (faO 0 v1) fun v3 =>
  ldN 2 v3 fun v4 =>
  stN 2 v2 v4 fun _ =>
  ldN 2 v2 fun v5 => R (.returned v5)
theorem F131_den (R : ER) (x0 : Value) : den Pg R (cd Tryz.f131 []) (argsEnv [x0]) (kont Pg R Tryz.f131) = F131 R x0 :=
  have h : ∀ e, den Pg R (cd Tryz.f131 []) e (kont Pg R Tryz.f131) = F131 R (e 0) := fun e => by kernel_rfl
  h _
theorem F131_calls {R : ER} {x0 : Value} {w : World} (h : F131 R x0 w) : Calls Pg 131 ⟨[x0]⟩ w R :=
  calls_of_den Tryz.func131 (by kernel_rfl) (by kernel_rfl) (F131_den R x0) h
/-! ### 132: slices_BinarySearchFunc -/
def F132_j1 (R : ER) (x0 x2 x4 x8 x9 : Value) : WP :=
  drewV (
  pv (bin .lss x9 x8) fun v1 =>
  gd v1 true (pv (some x2)) fun v2 =>
  gd v1 true (pv (some x0)) fun v3 =>
  gd v1 true (pv (some x9)) fun v4 =>
  gd v1 true (pv (ixS 4 v3 v4)) fun v5 =>
  gd v1 true (ldN 4 v5) fun v6 =>
  gd v1 true (ldN 2 x4) fun v7 =>
  mem fun w9 => gd v1 true (calD Pg noR v2 ⟨[v6, v7]⟩) fun v8 =>
  gd v1 true (pv (bin .eql v8 (.int .i64 0))) fun v10 =>
  pv (pickO v1 v10 (.bool false)) fun v11 =>
  R (.returned (.tuple ⟨[x9, v11]⟩)))
theorem F132_j1_ok (R : ER) (e : Env) : den Pg R (cd Tryz.f132 [1,1,1,1]) e (kont Pg R Tryz.f132) = (F132_j1 R (e 0) (e 2) (e 4) (e 8) (e 9)) := by kernel_rfl
def F132_j3 (R : ER) (k1 : V6) (x0 x2 x4 x8 x9 x10 : Value) : WP :=
  pv (bin .add x9 x10) fun v12 =>
  pv (cvI .u64 v12) fun v13 =>
  pv (bin .shr v13 (.int .u64 1)) fun v14 =>
  pv (cvI .i64 v14) fun v15 =>
  drewV (
  pv (ixS 4 x0 v15) fun v16 =>
  ldN 4 v16 fun v17 =>
  ldN 2 x4 fun v18 =>
  mem fun w20 => calD Pg noR x2 ⟨[v17, v18]⟩ fun v19 =>
  pv (bin .lss v19 (.int .i64 0)) fun v21 =>
  cnd v21 (
   pv (bin .add v15 (.int .i64 1)) fun v22 =>
   k1 x0 x2 x4 x8 v22 x10) (
   k1 x0 x2 x4 x8 x9 v15))
theorem F132_j3_ok (R : ER) (k1 : V6) (e : Env) : den Pg R (cd Tryz.f132 [1,1,1,0,0,0,1]) e (setN (inB 0 (setN (kont Pg R Tryz.f132) (fun e => F132_j1 R (e 0) (e 2) (e 4) (e 8) (e 9)))) (fun e => k1 (e 0) (e 2) (e 4) (e 8) (e 9) (e 10))) = (F132_j3 R k1 (e 0) (e 2) (e 4) (e 8) (e 9) (e 10)) := (den_block Pg R (cd Tryz.f132 [1,1,1,0,0,0,1]) 1 (cd Tryz.f132 [1,1,1,0,0,0,1,0]) e (setN (inB 0 (setN (kont Pg R Tryz.f132) (fun e => F132_j1 R (e 0) (e 2) (e 4) (e 8) (e 9)))) (fun e => k1 (e 0) (e 2) (e 4) (e 8) (e 9) (e 10))) _ (by kernel_rfl) (by kernel_rfl))
def F132_b1 (R : ER) (k1 : V6) (x0 x2 x4 x8 x9 x10 : Value) : WP :=
  pv (bin .lss x9 x10) fun v23 =>
  cnd v23 (
   F132_j3 R k1 x0 x2 x4 x8 x9 x10) (
   F132_j1 R x0 x2 x4 x8 x9)
theorem F132_b1_ok (R : ER) (k1 : V6) (e : Env) : den Pg R (cd Tryz.f132 [1,1,1,0,0,0]) e (setN (inB 0 (setN (kont Pg R Tryz.f132) (fun e => F132_j1 R (e 0) (e 2) (e 4) (e 8) (e 9)))) (fun e => k1 (e 0) (e 2) (e 4) (e 8) (e 9) (e 10))) = (F132_b1 R k1 (e 0) (e 2) (e 4) (e 8) (e 9) (e 10)) := (den_join Pg R 0 (cd Tryz.f132 [1,1,1,0,0,0]) (cd Tryz.f132 [1,1,1,0,0,0,1]) e (setN (inB 0 (setN (kont Pg R Tryz.f132) (fun e => F132_j1 R (e 0) (e 2) (e 4) (e 8) (e 9)))) (fun e => k1 (e 0) (e 2) (e 4) (e 8) (e 9) (e 10))) (fun e => F132_j3 R k1 (e 0) (e 2) (e 4) (e 8) (e 9) (e 10)) _ (by kernel_rfl) (fun e => F132_j3_ok R k1 e) (by kernel_rfl))
noncomputable def F132_l1 (R : ER) (n : Nat) : V6 := Nat.rec (motive := fun _ => V6) (fun _ _ _ _ _ _ => fun _ => False) (fun _ ih => fun x0 x2 x4 x8 x9 x10 => F132_b1 R ih x0 x2 x4 x8 x9 x10) n
theorem F132_l1_succ (R : ER) (n : Nat) (x0 x2 x4 x8 x9 x10 : Value) : F132_l1 R (n + 1) x0 x2 x4 x8 x9 x10 = F132_b1 R (F132_l1 R n) x0 x2 x4 x8 x9 x10 := rfl
theorem F132_l1_ok (R : ER) : ∀ (n : Nat) (e : Env), iterL (den Pg R (cd Tryz.f132 [1,1,1,0,0,0])) n e (inB 0 (setN (kont Pg R Tryz.f132) (fun e => F132_j1 R (e 0) (e 2) (e 4) (e 8) (e 9)))) = F132_l1 R n (e 0) (e 2) (e 4) (e 8) (e 9) (e 10) :=
  iterL_join (den Pg R (cd Tryz.f132 [1,1,1,0,0,0])) (inB 0 (setN (kont Pg R Tryz.f132) (fun e => F132_j1 R (e 0) (e 2) (e 4) (e 8) (e 9)))) (fun n e => F132_l1 R n (e 0) (e 2) (e 4) (e 8) (e 9) (e 10)) (fun _ => rfl) (fun n e => (F132_b1_ok R (F132_l1 R n) e).trans (F132_l1_succ R n (e 0) (e 2) (e 4) (e 8) (e 9) (e 10)).symm)
def F132_j2 (R : ER) (x0 x2 x4 x8 x9 x10 : Value) : WP :=
  exN fun n => F132_l1 R n x0 x2 x4 x8 x9 x10
theorem F132_j2_ok (R : ER) (e : Env) : den Pg R (cd Tryz.f132 [1,1,1,0]) e (setN (kont Pg R Tryz.f132) (fun e => F132_j1 R (e 0) (e 2) (e 4) (e 8) (e 9))) = (F132_j2 R (e 0) (e 2) (e 4) (e 8) (e 9) (e 10)) := (den_block Pg R (cd Tryz.f132 [1,1,1,0]) 0 (cd Tryz.f132 [1,1,1,0,0]) e (setN (kont Pg R Tryz.f132) (fun e => F132_j1 R (e 0) (e 2) (e 4) (e 8) (e 9))) _ (by kernel_rfl) (den_loop Pg R (cd Tryz.f132 [1,1,1,0,0]) (cd Tryz.f132 [1,1,1,0,0,0]) e (inB 0 (setN (kont Pg R Tryz.f132) (fun e => F132_j1 R (e 0) (e 2) (e 4) (e 8) (e 9)))) (fun n e => F132_l1 R n (e 0) (e 2) (e 4) (e 8) (e 9) (e 10)) _ (by kernel_rfl) (F132_l1_ok R) (by kernel_rfl)))
def F132 (R : ER) (x0 x1 x2 : Value) : WP :=
  bx 105 x1 fun v24 =>
  pv (lenS x0) fun v25 =>
  F132_j2 R x0 x2 v24 v25 (.int .i64 0) v25
theorem F132_den (R : ER) (x0 x1 x2 : Value) : den Pg R (cd Tryz.f132 []) (argsEnv [x0, x1, x2]) (kont Pg R Tryz.f132) = F132 R x0 x1 x2 :=
  have h : ∀ e, den Pg R (cd Tryz.f132 []) e (kont Pg R Tryz.f132) = F132 R (e 0) (e 1) (e 2) := fun e => (den_join Pg R 3 (cd Tryz.f132 []) (cd Tryz.f132 [1,1,1,1]) e (kont Pg R Tryz.f132) (fun e => F132_j1 R (e 0) (e 2) (e 4) (e 8) (e 9)) _ (by kernel_rfl) (fun e => F132_j1_ok R e) (den_join Pg R 2 (pre 3 (cd Tryz.f132 [])) (cd Tryz.f132 [1,1,1,0]) e (setN (kont Pg R Tryz.f132) (fun e => F132_j1 R (e 0) (e 2) (e 4) (e 8) (e 9))) (fun e => F132_j2 R (e 0) (e 2) (e 4) (e 8) (e 9) (e 10)) _ (by kernel_rfl) (fun e => F132_j2_ok R e) (by kernel_rfl)))
  h _
theorem F132_calls {R : ER} {x0 x1 x2 : Value} {w : World} (h : F132 R x0 x1 x2 w) : Calls Pg 132 ⟨[x0, x1, x2]⟩ w R :=
  calls_of_den Tryz.func132 (by kernel_rfl) (by kernel_rfl) (F132_den R x0 x1 x2) h
/-! ### 133: channels_insert_133 -/
def F133 (R : ER) (x0 x1 x2 : Value) : WP :=
  bx 107 x0 fun v1 =>
  bx 105 x1 fun v2 =>
  drewV (
  pv (faO 0 v2) fun v3 =>
  ld1 v3 fun v4 =>
  ld1 x2 fun v5 =>
  ldN 4 v1 fun v6 =>
  mem fun w8 => calD Pg noR v5 ⟨[v6]⟩ fun v7 =>
  rd1 v3 v4 <|
  pv (fld1 0 v7) fun v9 =>
  mem fun w11 => cal Pg noR 43 ⟨[v4, v9]⟩ fun v10 =>
  ld1S [w11, w8] x2 fun v12 =>
  ldNS [w11, w8] 4 v1 fun v13 =>
  mem fun w15 => calD Pg noR v12 ⟨[v13]⟩ fun v14 =>
  pv (fld1 1 v14) fun v16 =>
  pv (faO 1 v2) fun v17 =>
  ld1S [w15, w11, w8] v17 fun v18 =>
  mem fun w20 => cal Pg noR 43 ⟨[v16, v18]⟩ fun v19 =>
  mem fun w22 => valV Pg noR (Instr.buildSlice 50 2 ⟨[(0, v10), (1, v19)]⟩) fun v21 =>
  mem fun w24 => cal Pg noR 42 ⟨[v21]⟩ fun v23 =>
  R (.returned v23))
theorem F133_den (R : ER) (x0 x1 x2 : Value) : den Pg R (cd Tryz.f133 []) (argsEnv [x0, x1, x2]) (kont Pg R Tryz.f133) = F133 R x0 x1 x2 :=
  have h : ∀ e, den Pg R (cd Tryz.f133 []) e (kont Pg R Tryz.f133) = F133 R (e 0) (e 1) (e 2) := fun e => by kernel_rfl
  h _
theorem F133_calls {R : ER} {x0 x1 x2 : Value} {w : World} (h : F133 R x0 x1 x2 w) : Calls Pg 133 ⟨[x0, x1, x2]⟩ w R :=
  calls_of_den Tryz.func133 (by kernel_rfl) (by kernel_rfl) (F133_den R x0 x1 x2) h
/-! ### 134: slices_Insert -/
def F134_j4 (R : ER) (x0 x1 x2 x7 x8 : Value) : WP :=
  pv (slS 4 x0 (some x8) none) fun v1 =>
  blt Pg R .copy ⟨[100,100]⟩ 3 ⟨[false, false]⟩ ⟨[v1, x2]⟩ fun v2 =>
  pv (slS 4 x0 (some x1) none) fun v3 =>
  cal Pg R 162 ⟨[v3, x7]⟩ fun v4 =>
  R (.returned x0)
theorem F134_j4_ok (R : ER) (e : Env) : den Pg R (cd Tryz.f134 [1,1,1,1,1,1,1,1,1]) e (kont Pg R Tryz.f134) = (F134_j4 R (e 0) (e 1) (e 2) (e 7) (e 8)) := by kernel_rfl
def F134_j7 (R : ER) (x0 x1 x2 x7 : Value) : WP :=
  drewV (
  pv (bin .add x1 x7) fun v5 =>
  pv (slS 4 x0 (some v5) none) fun v6 =>
  pv (slS 4 x0 (some x1) none) fun v7 =>
  mem fun w9 => blt Pg noR .copy ⟨[100,100]⟩ 3 ⟨[false, false]⟩ ⟨[v6, v7]⟩ fun v8 =>
  pv (slS 4 x0 (some x1) none) fun v10 =>
  blt Pg R .copy ⟨[100,100]⟩ 3 ⟨[false, false]⟩ ⟨[v10, x2]⟩ fun v11 =>
  R (.returned x0))
theorem F134_j7_ok (R : ER) (e : Env) : den Pg R (cd Tryz.f134 [1,1,1,1,1,1,1,1,0,1,0]) e (setN (kont Pg R Tryz.f134) (fun e => F134_j4 R (e 0) (e 1) (e 2) (e 7) (e 8))) = (F134_j7 R (e 0) (e 1) (e 2) (e 7)) := by kernel_rfl
def F134_j6 (R : ER) (x0 x1 x2 x7 x8 x68 : Value) : WP :=
  cnd x68 (F134_j7 R x0 x1 x2 x7) (F134_j4 R x0 x1 x2 x7 x8)
theorem F134_j6_ok (R : ER) (e : Env) : den Pg R (cd Tryz.f134 [1,1,1,1,1,1,1,1,0,1]) e (setN (kont Pg R Tryz.f134) (fun e => F134_j4 R (e 0) (e 1) (e 2) (e 7) (e 8))) = (F134_j6 R (e 0) (e 1) (e 2) (e 7) (e 8) (e 68)) := (den_if Pg R (cd Tryz.f134 [1,1,1,1,1,1,1,1,0,1]) (cd Tryz.f134 [1,1,1,1,1,1,1,1,0,1,0]) (cd Tryz.f134 [1,1,1,1,1,1,1,1,0,1,1]) e (setN (kont Pg R Tryz.f134) (fun e => F134_j4 R (e 0) (e 1) (e 2) (e 7) (e 8))) (F134_j7 R (e 0) (e 1) (e 2) (e 7)) _ _ (by kernel_rfl) (F134_j7_ok R e) rfl (by kernel_rfl))
def F134_j5 (R : ER) (x0 x1 x2 x7 x8 : Value) : WP :=
  pv (bin .add x1 x7) fun v12 =>
  pv (slS 4 x0 (some v12) none) fun v13 =>
  calD Pg R (.func (.func 161) ⟨[]⟩ ⟨[]⟩) ⟨[x2, v13]⟩ fun v14 =>
  pv (unO .not v14) fun v15 =>
  F134_j6 R x0 x1 x2 x7 x8 v15
theorem F134_j5_ok (R : ER) (e : Env) : den Pg R (cd Tryz.f134 [1,1,1,1,1,1,1,1,0]) e (setN (kont Pg R Tryz.f134) (fun e => F134_j4 R (e 0) (e 1) (e 2) (e 7) (e 8))) = (F134_j5 R (e 0) (e 1) (e 2) (e 7) (e 8)) := (den_join Pg R 0 (cd Tryz.f134 [1,1,1,1,1,1,1,1,0]) (cd Tryz.f134 [1,1,1,1,1,1,1,1,0,1]) e (setN (kont Pg R Tryz.f134) (fun e => F134_j4 R (e 0) (e 1) (e 2) (e 7) (e 8))) (fun e => F134_j6 R (e 0) (e 1) (e 2) (e 7) (e 8) (e 68)) _ (by kernel_rfl) (fun e => F134_j6_ok R e) (by kernel_rfl))
def F134_j3 (R : ER) (x0 x1 x2 x7 x8 : Value) : WP :=
  pv (bin .add x8 x7) fun v16 =>
  pv (slS 4 x0 none (some v16)) fun v17 =>
  F134_j5 R v17 x1 x2 x7 x8
theorem F134_j3_ok (R : ER) (e : Env) : den Pg R (cd Tryz.f134 [1,1,1,1,1,1,1]) e (kont Pg R Tryz.f134) = (F134_j3 R (e 0) (e 1) (e 2) (e 7) (e 8)) := (den_join Pg R 1 (cd Tryz.f134 [1,1,1,1,1,1,1]) (cd Tryz.f134 [1,1,1,1,1,1,1,1,1]) e (kont Pg R Tryz.f134) (fun e => F134_j4 R (e 0) (e 1) (e 2) (e 7) (e 8)) _ (by kernel_rfl) (fun e => F134_j4_ok R e) (den_join Pg R 0 (pre 1 (cd Tryz.f134 [1,1,1,1,1,1,1])) (cd Tryz.f134 [1,1,1,1,1,1,1,1,0]) e (setN (kont Pg R Tryz.f134) (fun e => F134_j4 R (e 0) (e 1) (e 2) (e 7) (e 8))) (fun e => F134_j5 R (e 0) (e 1) (e 2) (e 7) (e 8)) _ (by kernel_rfl) (fun e => F134_j5_ok R e) (by kernel_rfl)))
def F134_j10 (R : ER) (x0 x1 x2 x7 x8 : Value) : WP :=
  pv (slS 4 x0 none (some x1)) fun v18 =>
  pv (bin .add x8 x7) fun v19 =>
  pv (bin .sub v19 x1) fun v20 =>
  blt Pg R .append ⟨[100,3]⟩ 100 ⟨[false, false]⟩ ⟨[v18, v20]⟩ fun v21 =>
  pv (slS 4 v21 (some x1) none) fun v22 =>
  blt Pg R .copy ⟨[100,100]⟩ 3 ⟨[false, false]⟩ ⟨[v22, x2]⟩ fun v23 =>
  drewV (
  pv (bin .add x1 x7) fun v24 =>
  pv (slS 4 v21 (some v24) none) fun v25 =>
  pv (slS 4 x0 (some x1) none) fun v26 =>
  mem fun w28 => blt Pg noR .copy ⟨[100,100]⟩ 3 ⟨[false, false]⟩ ⟨[v25, v26]⟩ fun v27 =>
  R (.returned v21))
theorem F134_j10_ok (R : ER) (e : Env) : den Pg R (cd Tryz.f134 [1,1,1,1,1,1,0,1,0]) e (setN (kont Pg R Tryz.f134) (fun e => F134_j3 R (e 0) (e 1) (e 2) (e 7) (e 8))) = (F134_j10 R (e 0) (e 1) (e 2) (e 7) (e 8)) := by kernel_rfl
def F134_j9 (R : ER) (x0 x1 x2 x7 x8 x31 : Value) : WP :=
  cnd x31 (F134_j10 R x0 x1 x2 x7 x8) (F134_j3 R x0 x1 x2 x7 x8)
theorem F134_j9_ok (R : ER) (e : Env) : den Pg R (cd Tryz.f134 [1,1,1,1,1,1,0,1]) e (setN (kont Pg R Tryz.f134) (fun e => F134_j3 R (e 0) (e 1) (e 2) (e 7) (e 8))) = (F134_j9 R (e 0) (e 1) (e 2) (e 7) (e 8) (e 31)) := (den_if Pg R (cd Tryz.f134 [1,1,1,1,1,1,0,1]) (cd Tryz.f134 [1,1,1,1,1,1,0,1,0]) (cd Tryz.f134 [1,1,1,1,1,1,0,1,1]) e (setN (kont Pg R Tryz.f134) (fun e => F134_j3 R (e 0) (e 1) (e 2) (e 7) (e 8))) (F134_j10 R (e 0) (e 1) (e 2) (e 7) (e 8)) _ _ (by kernel_rfl) (F134_j10_ok R e) rfl (by kernel_rfl))
def F134_j8 (R : ER) (x0 x1 x2 x7 x8 : Value) : WP :=
  pv (bin .add x8 x7) fun v29 =>
  blt Pg R .cap ⟨[100]⟩ 3 ⟨[false]⟩ ⟨[x0]⟩ fun v30 =>
  pv (bin .gtr v29 v30) fun v31 =>
  F134_j9 R x0 x1 x2 x7 x8 v31
theorem F134_j8_ok (R : ER) (e : Env) : den Pg R (cd Tryz.f134 [1,1,1,1,1,1,0]) e (setN (kont Pg R Tryz.f134) (fun e => F134_j3 R (e 0) (e 1) (e 2) (e 7) (e 8))) = (F134_j8 R (e 0) (e 1) (e 2) (e 7) (e 8)) := (den_join Pg R 0 (cd Tryz.f134 [1,1,1,1,1,1,0]) (cd Tryz.f134 [1,1,1,1,1,1,0,1]) e (setN (kont Pg R Tryz.f134) (fun e => F134_j3 R (e 0) (e 1) (e 2) (e 7) (e 8))) (fun e => F134_j9 R (e 0) (e 1) (e 2) (e 7) (e 8) (e 31)) _ (by kernel_rfl) (fun e => F134_j9_ok R e) (by kernel_rfl))
def F134_j2 (R : ER) (x0 x1 x2 x7 x8 : Value) : WP :=
  F134_j8 R x0 x1 x2 x7 x8
theorem F134_j2_ok (R : ER) (e : Env) : den Pg R (cd Tryz.f134 [1,1,1,1,1,1]) e (kont Pg R Tryz.f134) = (F134_j2 R (e 0) (e 1) (e 2) (e 7) (e 8)) := (den_join Pg R 0 (cd Tryz.f134 [1,1,1,1,1,1]) (cd Tryz.f134 [1,1,1,1,1,1,1]) e (kont Pg R Tryz.f134) (fun e => F134_j3 R (e 0) (e 1) (e 2) (e 7) (e 8)) _ (by kernel_rfl) (fun e => F134_j3_ok R e) (den_conv Pg R (pre 0 (cd Tryz.f134 [1,1,1,1,1,1])) (cd Tryz.f134 [1,1,1,1,1,1,0]) e (setN (kont Pg R Tryz.f134) (fun e => F134_j3 R (e 0) (e 1) (e 2) (e 7) (e 8))) _ (by kernel_rfl) (F134_j8_ok R e)))
def F134_j1 (R : ER) (x0 x1 x2 x7 : Value) : WP :=
  pv (lenS x0) fun v32 =>
  pv (bin .eql x1 v32) fun v33 =>
  cnd v33 (
   blt Pg R .append ⟨[100,100]⟩ 100 ⟨[false, false]⟩ ⟨[x0, x2]⟩ fun v34 =>
   R (.returned v34)) (
   F134_j2 R x0 x1 x2 x7 v32)
theorem F134_j1_ok (R : ER) (e : Env) : den Pg R (cd Tryz.f134 [1,1,1,1]) e (kont Pg R Tryz.f134) = (F134_j1 R (e 0) (e 1) (e 2) (e 7)) := (den_join Pg R 1 (cd Tryz.f134 [1,1,1,1]) (cd Tryz.f134 [1,1,1,1,1,1]) e (kont Pg R Tryz.f134) (fun e => F134_j2 R (e 0) (e 1) (e 2) (e 7) (e 8)) _ (by kernel_rfl) (fun e => F134_j2_ok R e) (by kernel_rfl))
def F134 (R : ER) (x0 x1 x2 : Value) : WP :=
  pv (slS 4 x0 (some x1) none) fun v35 =>
  pv (lenS x2) fun v36 =>
  pv (bin .eql v36 (.int .i64 0)) fun v37 =>
  cnd v37 (
   R (.returned x0)) (
   F134_j1 R x0 x1 x2 v36)
theorem F134_den (R : ER) (x0 x1 x2 : Value) : den Pg R (cd Tryz.f134 []) (argsEnv [x0, x1, x2]) (kont Pg R Tryz.f134) = F134 R x0 x1 x2 :=
  have h : ∀ e, den Pg R (cd Tryz.f134 []) e (kont Pg R Tryz.f134) = F134 R (e 0) (e 1) (e 2) := fun e => (den_join Pg R 3 (cd Tryz.f134 []) (cd Tryz.f134 [1,1,1,1]) e (kont Pg R Tryz.f134) (fun e => F134_j1 R (e 0) (e 1) (e 2) (e 7)) _ (by kernel_rfl) (fun e => F134_j1_ok R e) (by kernel_rfl))
  h _
theorem F134_calls {R : ER} {x0 x1 x2 : Value} {w : World} (h : F134 R x0 x1 x2 w) : Calls Pg 134 ⟨[x0, x1, x2]⟩ w R :=
  calls_of_den Tryz.func134 (by kernel_rfl) (by kernel_rfl) (F134_den R x0 x1 x2) h
/-! ### 135: channels_Table_held -/
def F135_j1 (R : ER) (x0 x1 x8 : Value) : WP :=
  pv (nilO x0) fun v1 =>
  pv (faO 3 v1) fun v2 =>
  ld1 v2 fun v3 =>
  pv (ixS 1 v3 x8) fun v4 =>
  ld1 v4 fun v5 =>
  pv (nilO v5) fun v6 =>
  pv (faO 4 v6) fun v7 =>
  ld1 v7 fun v8 =>
  pv (nilO v8) fun v9 =>
  pv (faO 1 v9) fun v10 =>
  ld1 v10 fun v11 =>
  pv (bin .neq v11 x1) fun v12 =>
  cnd v12 (
   R (.returned (.tuple ⟨[(.pointer none), (.int .i64 32)]⟩))) (
   pv (nilO x0) fun v13 =>
  pv (faO 3 v13) fun v14 =>
  ld1 v14 fun v15 =>
  pv (ixS 1 v15 x8) fun v16 =>
  ld1 v16 fun v17 =>
  R (.returned (.tuple ⟨[v17, (.int .i64 0)]⟩)))
theorem F135_j1_ok (R : ER) (e : Env) : den Pg R (cd Tryz.f135 [1,1,1]) e (kont Pg R Tryz.f135) = (F135_j1 R (e 0) (e 1) (e 8)) := (by kernel_rfl)
def F135 (R : ER) (x0 x1 x2 : Value) : WP :=
  pv (nilO x0) fun v18 =>
  pv (faO 3 v18) fun v19 =>
  ld1 v19 fun v20 =>
  cal Pg R 163 ⟨[v20, x2, (.func (.func 164) ⟨[]⟩ ⟨[]⟩)]⟩ fun v21 =>
  pv (extO 0 v21) fun v22 =>
  pv (extO 1 v21) fun v23 =>
  pv (unO .not v23) fun v24 =>
  cnd v24 (
   R (.returned (.tuple ⟨[(.pointer none), (.int .i64 3)]⟩))) (
   F135_j1 R x0 x1 v22)
theorem F135_den (R : ER) (x0 x1 x2 : Value) : den Pg R (cd Tryz.f135 []) (argsEnv [x0, x1, x2]) (kont Pg R Tryz.f135) = F135 R x0 x1 x2 :=
  have h : ∀ e, den Pg R (cd Tryz.f135 []) e (kont Pg R Tryz.f135) = F135 R (e 0) (e 1) (e 2) := fun e => (den_join Pg R 2 (cd Tryz.f135 []) (cd Tryz.f135 [1,1,1]) e (kont Pg R Tryz.f135) (fun e => F135_j1 R (e 0) (e 1) (e 8)) _ (by kernel_rfl) (fun e => F135_j1_ok R e) (by kernel_rfl))
  h _
theorem F135_calls {R : ER} {x0 x1 x2 : Value} {w : World} (h : F135 R x0 x1 x2 w) : Calls Pg 135 ⟨[x0, x1, x2]⟩ w R :=
  calls_of_den Tryz.func135 (by kernel_rfl) (by kernel_rfl) (F135_den R x0 x1 x2) h
/-! ### 136: slices_DeleteFunc_136 -/
def F136_j2 (R : ER) (x0 x5 : Value) : WP :=
  pv (slS 1 x0 (some x5) none) fun v1 =>
  blt Pg R .clear ⟨[84]⟩ 0 ⟨[false]⟩ ⟨[v1]⟩ fun _ =>
  pv (slS 1 x0 none (some x5)) fun v2 =>
  R (.returned v2)
theorem F136_j2_ok (R : ER) (e : Env) : den Pg R (cd Tryz.f136 [1,1,1,1]) e (kont Pg R Tryz.f136) = (F136_j2 R (e 0) (e 5)) := by kernel_rfl
def F136_j6 (R : ER) (k1 : V4) (x0 x1 x5 x6 : Value) : WP :=
  pv (bin .add x6 (.int .i64 1)) fun v3 =>
  k1 x0 x1 x5 v3
theorem F136_j6_ok (R : ER) (k1 : V4) (e : Env) : den Pg R (cd Tryz.f136 [1,1,1,0,1,0,0,1,1]) e (setN (inB 0 (setN (kont Pg R Tryz.f136) (fun e => F136_j2 R (e 0) (e 5)))) (fun e => k1 (e 0) (e 1) (e 5) (e 6))) = (F136_j6 R k1 (e 0) (e 1) (e 5) (e 6)) := by kernel_rfl
def F136_j7 (R : ER) (k1 : V4) (x0 x1 x5 x6 : Value) : WP :=
  pv (ixS 1 x0 x6) fun v4 =>
  ld1 v4 fun v5 =>
  calD Pg R x1 ⟨[v5]⟩ fun v6 =>
  pv (unO .not v6) fun v7 =>
  cnd v7 (
   pv (ixS 1 x0 x5) fun v8 =>
   st1 v8 v5 fun _ =>
   pv (bin .add x5 (.int .i64 1)) fun v9 =>
   F136_j6 R k1 x0 x1 v9 x6) (
   F136_j6 R k1 x0 x1 x5 x6)
theorem F136_j7_ok (R : ER) (k1 : V4) (e : Env) : den Pg R (cd Tryz.f136 [1,1,1,0,1,0,0,1,0]) e (setN (setN (inB 0 (setN (kont Pg R Tryz.f136) (fun e => F136_j2 R (e 0) (e 5)))) (fun e => k1 (e 0) (e 1) (e 5) (e 6))) (fun e => F136_j6 R k1 (e 0) (e 1) (e 5) (e 6))) = (F136_j7 R k1 (e 0) (e 1) (e 5) (e 6)) := (den_block Pg R (cd Tryz.f136 [1,1,1,0,1,0,0,1,0]) 1 (cd Tryz.f136 [1,1,1,0,1,0,0,1,0,0]) e (setN (setN (inB 0 (setN (kont Pg R Tryz.f136) (fun e => F136_j2 R (e 0) (e 5)))) (fun e => k1 (e 0) (e 1) (e 5) (e 6))) (fun e => F136_j6 R k1 (e 0) (e 1) (e 5) (e 6))) _ (by kernel_rfl) (by kernel_rfl))
def F136_j5 (R : ER) (k1 : V4) (x0 x1 x5 x6 : Value) : WP :=
  F136_j7 R k1 x0 x1 x5 x6
theorem F136_j5_ok (R : ER) (k1 : V4) (e : Env) : den Pg R (cd Tryz.f136 [1,1,1,0,1,0,0,1]) e (setN (inB 0 (setN (kont Pg R Tryz.f136) (fun e => F136_j2 R (e 0) (e 5)))) (fun e => k1 (e 0) (e 1) (e 5) (e 6))) = (F136_j5 R k1 (e 0) (e 1) (e 5) (e 6)) := (den_join Pg R 0 (cd Tryz.f136 [1,1,1,0,1,0,0,1]) (cd Tryz.f136 [1,1,1,0,1,0,0,1,1]) e (setN (inB 0 (setN (kont Pg R Tryz.f136) (fun e => F136_j2 R (e 0) (e 5)))) (fun e => k1 (e 0) (e 1) (e 5) (e 6))) (fun e => F136_j6 R k1 (e 0) (e 1) (e 5) (e 6)) _ (by kernel_rfl) (fun e => F136_j6_ok R k1 e) (den_conv Pg R (pre 0 (cd Tryz.f136 [1,1,1,0,1,0,0,1])) (cd Tryz.f136 [1,1,1,0,1,0,0,1,0]) e (setN (setN (inB 0 (setN (kont Pg R Tryz.f136) (fun e => F136_j2 R (e 0) (e 5)))) (fun e => k1 (e 0) (e 1) (e 5) (e 6))) (fun e => F136_j6 R k1 (e 0) (e 1) (e 5) (e 6))) _ (by kernel_rfl) (F136_j7_ok R k1 e)))
def F136_b1 (R : ER) (k1 : V4) (x0 x1 x5 x6 : Value) : WP :=
  pv (lenS x0) fun v10 =>
  pv (bin .lss x6 v10) fun v11 =>
  cnd v11 (
   F136_j5 R k1 x0 x1 x5 x6) (
   F136_j2 R x0 x5)
theorem F136_b1_ok (R : ER) (k1 : V4) (e : Env) : den Pg R (cd Tryz.f136 [1,1,1,0,1,0,0]) e (setN (inB 0 (setN (kont Pg R Tryz.f136) (fun e => F136_j2 R (e 0) (e 5)))) (fun e => k1 (e 0) (e 1) (e 5) (e 6))) = (F136_b1 R k1 (e 0) (e 1) (e 5) (e 6)) := (den_join Pg R 0 (cd Tryz.f136 [1,1,1,0,1,0,0]) (cd Tryz.f136 [1,1,1,0,1,0,0,1]) e (setN (inB 0 (setN (kont Pg R Tryz.f136) (fun e => F136_j2 R (e 0) (e 5)))) (fun e => k1 (e 0) (e 1) (e 5) (e 6))) (fun e => F136_j5 R k1 (e 0) (e 1) (e 5) (e 6)) _ (by kernel_rfl) (fun e => F136_j5_ok R k1 e) (by kernel_rfl))
noncomputable def F136_l1 (R : ER) (n : Nat) : V4 := Nat.rec (motive := fun _ => V4) (fun _ _ _ _ => fun _ => False) (fun _ ih => fun x0 x1 x5 x6 => F136_b1 R ih x0 x1 x5 x6) n
theorem F136_l1_succ (R : ER) (n : Nat) (x0 x1 x5 x6 : Value) : F136_l1 R (n + 1) x0 x1 x5 x6 = F136_b1 R (F136_l1 R n) x0 x1 x5 x6 := rfl
theorem F136_l1_ok (R : ER) : ∀ (n : Nat) (e : Env), iterL (den Pg R (cd Tryz.f136 [1,1,1,0,1,0,0])) n e (inB 0 (setN (kont Pg R Tryz.f136) (fun e => F136_j2 R (e 0) (e 5)))) = F136_l1 R n (e 0) (e 1) (e 5) (e 6) :=
  iterL_join (den Pg R (cd Tryz.f136 [1,1,1,0,1,0,0])) (inB 0 (setN (kont Pg R Tryz.f136) (fun e => F136_j2 R (e 0) (e 5)))) (fun n e => F136_l1 R n (e 0) (e 1) (e 5) (e 6)) (fun _ => rfl) (fun n e => (F136_b1_ok R (F136_l1 R n) e).trans (F136_l1_succ R n (e 0) (e 1) (e 5) (e 6)).symm)
def F136_j4 (R : ER) (x0 x1 x5 x6 : Value) : WP :=
  exN fun n => F136_l1 R n x0 x1 x5 x6
theorem F136_j4_ok (R : ER) (e : Env) : den Pg R (cd Tryz.f136 [1,1,1,0,1]) e (setN (kont Pg R Tryz.f136) (fun e => F136_j2 R (e 0) (e 5))) = (F136_j4 R (e 0) (e 1) (e 5) (e 6)) := (den_block Pg R (cd Tryz.f136 [1,1,1,0,1]) 0 (cd Tryz.f136 [1,1,1,0,1,0]) e (setN (kont Pg R Tryz.f136) (fun e => F136_j2 R (e 0) (e 5))) _ (by kernel_rfl) (den_loop Pg R (cd Tryz.f136 [1,1,1,0,1,0]) (cd Tryz.f136 [1,1,1,0,1,0,0]) e (inB 0 (setN (kont Pg R Tryz.f136) (fun e => F136_j2 R (e 0) (e 5)))) (fun n e => F136_l1 R n (e 0) (e 1) (e 5) (e 6)) _ (by kernel_rfl) (F136_l1_ok R) (by kernel_rfl)))
def F136_j3 (R : ER) (x0 x1 x5 : Value) : WP :=
  pv (bin .add x5 (.int .i64 1)) fun v12 =>
  F136_j4 R x0 x1 x5 v12
theorem F136_j3_ok (R : ER) (e : Env) : den Pg R (cd Tryz.f136 [1,1,1,0]) e (setN (kont Pg R Tryz.f136) (fun e => F136_j2 R (e 0) (e 5))) = (F136_j3 R (e 0) (e 1) (e 5)) := (den_join Pg R 0 (cd Tryz.f136 [1,1,1,0]) (cd Tryz.f136 [1,1,1,0,1]) e (setN (kont Pg R Tryz.f136) (fun e => F136_j2 R (e 0) (e 5))) (fun e => F136_j4 R (e 0) (e 1) (e 5) (e 6)) _ (by kernel_rfl) (fun e => F136_j4_ok R e) (by kernel_rfl))
def F136_j1 (R : ER) (x0 x1 x5 : Value) : WP :=
  F136_j3 R x0 x1 x5
theorem F136_j1_ok (R : ER) (e : Env) : den Pg R (cd Tryz.f136 [1,1,1]) e (kont Pg R Tryz.f136) = (F136_j1 R (e 0) (e 1) (e 5)) := (den_join Pg R 0 (cd Tryz.f136 [1,1,1]) (cd Tryz.f136 [1,1,1,1]) e (kont Pg R Tryz.f136) (fun e => F136_j2 R (e 0) (e 5)) _ (by kernel_rfl) (fun e => F136_j2_ok R e) (den_conv Pg R (pre 0 (cd Tryz.f136 [1,1,1])) (cd Tryz.f136 [1,1,1,0]) e (setN (kont Pg R Tryz.f136) (fun e => F136_j2 R (e 0) (e 5))) _ (by kernel_rfl) (F136_j3_ok R e)))
def F136 (R : ER) (x0 x1 : Value) : WP :=
  cal Pg R 166 ⟨[x0, x1]⟩ fun v13 =>
  pv (bin .eql v13 (.int .i64 (-1))) fun v14 =>
  cnd v14 (
   R (.returned x0)) (
   F136_j1 R x0 x1 v13)
theorem F136_den (R : ER) (x0 x1 : Value) : den Pg R (cd Tryz.f136 []) (argsEnv [x0, x1]) (kont Pg R Tryz.f136) = F136 R x0 x1 :=
  have h : ∀ e, den Pg R (cd Tryz.f136 []) e (kont Pg R Tryz.f136) = F136 R (e 0) (e 1) := fun e => (den_join Pg R 2 (cd Tryz.f136 []) (cd Tryz.f136 [1,1,1]) e (kont Pg R Tryz.f136) (fun e => F136_j1 R (e 0) (e 1) (e 5)) _ (by kernel_rfl) (fun e => F136_j1_ok R e) (by kernel_rfl))
  h _
theorem F136_calls {R : ER} {x0 x1 : Value} {w : World} (h : F136 R x0 x1 w) : Calls Pg 136 ⟨[x0, x1]⟩ w R :=
  calls_of_den Tryz.func136 (by kernel_rfl) (by kernel_rfl) (F136_den R x0 x1) h
/-! ### 137: channels_Table_drop_1 -/
def F137 (R : ER) (x0 x1 : Value) : WP :=
  ld1 x1 fun v1 =>
  eqK Pg R .eql 77 (.tmp 4) (.tmp 5) x0 v1 fun v2 =>
  R (.returned v2)
theorem F137_den (R : ER) (x0 x1 : Value) : den Pg R (cd Tryz.f137 []) (argsEnv [x0, x1]) (kont Pg R Tryz.f137) = F137 R x0 x1 :=
  have h : ∀ e, den Pg R (cd Tryz.f137 []) e (kont Pg R Tryz.f137) = F137 R (e 0) (e 1) := fun e => by kernel_rfl
  h _
theorem F137_calls {R : ER} {x0 x1 : Value} {w : World} (h : F137 R x0 x1 w) : Calls Pg 137 ⟨[x0, x1]⟩ w R :=
  calls_of_den Tryz.func137 (by kernel_rfl) (by kernel_rfl) (F137_den R x0 x1) h
end Go.Proofs.YtmkcjopacmadhaaGreat.Den
