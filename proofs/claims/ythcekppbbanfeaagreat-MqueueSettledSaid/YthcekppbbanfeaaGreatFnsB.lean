/- Printed by a program of this session: what the functions mean, and that the model means just that. Conditions: none. -/
import Derived.Test.YthcekppbbanfeaaGreatDenRange
set_option linter.unusedVariables false
set_option maxRecDepth 100000
namespace Go.Proofs.YthcekppbbanfeaaGreat.Den
open Go
/-! ### 97: bits_Len32 -/
def F97_j2 (R : ER) (x0 x2 : Value) : WP :=
  pv (cvI .u8 x0) fun v1 =>
  pv (ixStr (.string ⟨⟨[0,1,2,2,3,3,3,3,4,4,4,4,4,4,4,4,5,5,5,5,5,5,5,5,5,5,5,5,5,5,5,5,6,6,6,6,6,6,6,6,6,6,6,6,6,6,6,6,6,6,6,6,6,6,6,6,6,6,6,6,6,6,6,6,7,7,7,7,7,7,7,7,7,7,7,7,7,7,7,7,7,7,7,7,7,7,7,7,7,7,7,7,7,7,7,7,7,7,7,7,7,7,7,7,7,7,7,7,7,7,7,7,7,7,7,7,7,7,7,7,7,7,7,7,7,7,7,7,8,8,8,8,8,8,8,8,8,8,8,8,8,8,8,8,8,8,8,8,8,8,8,8,8,8,8,8,8,8,8,8,8,8,8,8,8,8,8,8,8,8,8,8,8,8,8,8,8,8,8,8,8,8,8,8,8,8,8,8,8,8,8,8,8,8,8,8,8,8,8,8,8,8,8,8,8,8,8,8,8,8,8,8,8,8,8,8,8,8,8,8,8,8,8,8,8,8,8,8,8,8,8,8,8,8,8,8,8,8,8,8,8,8,8,8,8,8,8,8,8,8,8,8,8,8,8,8]⟩⟩) v1) fun v2 =>
  pv (cvI .i64 v2) fun v3 =>
  pv (bin .add x2 v3) fun v4 =>
  R (.returned v4)
theorem F97_j2_ok (R : ER) (e : Env) : den Pg R (cd Tryz.f97 [1,1,1]) e (kont Pg R Tryz.f97) = (F97_j2 R (e 0) (e 2)) := by kernel_rfl
def F97_j1 (R : ER) (x0 x2 : Value) : WP :=
  pv (bin .geq x0 (.int .u32 256)) fun v5 =>
  cnd v5 (
   pv (bin .shr x0 (.int .u64 8)) fun v6 =>
   pv (bin .add x2 (.int .i64 8)) fun v7 =>
   F97_j2 R v6 v7) (
   F97_j2 R x0 x2)
theorem F97_j1_ok (R : ER) (e : Env) : den Pg R (cd Tryz.f97 [1,1]) e (kont Pg R Tryz.f97) = (F97_j1 R (e 0) (e 2)) := (den_join Pg R 0 (cd Tryz.f97 [1,1]) (cd Tryz.f97 [1,1,1]) e (kont Pg R Tryz.f97) (fun e => F97_j2 R (e 0) (e 2)) _ (by kernel_rfl) (fun e => F97_j2_ok R e) (by kernel_rfl))
def F97 (R : ER) (x0 : Value) : WP :=
  pv (bin .geq x0 (.int .u32 65536)) fun v8 =>
  cnd v8 (
   pv (bin .shr x0 (.int .u64 16)) fun v9 =>
   F97_j1 R v9 (.int .i64 16)) (
   F97_j1 R x0 (.int .i64 0))
theorem F97_den (R : ER) (x0 : Value) : den Pg R (cd Tryz.f97 []) (argsEnv [x0]) (kont Pg R Tryz.f97) = F97 R x0 :=
  have h : ∀ e, den Pg R (cd Tryz.f97 []) e (kont Pg R Tryz.f97) = F97 R (e 0) := fun e => (den_join Pg R 1 (cd Tryz.f97 []) (cd Tryz.f97 [1,1]) e (kont Pg R Tryz.f97) (fun e => F97_j1 R (e 0) (e 2)) _ (by kernel_rfl) (fun e => F97_j1_ok R e) (by kernel_rfl))
  h _
theorem F97_calls {R : ER} {x0 : Value} {w : World} (h : F97 R x0 w) : Calls Pg 97 ⟨[x0]⟩ w R :=
  calls_of_den Tryz.func97 (by kernel_rfl) (by kernel_rfl) (F97_den R x0) h
end Go.Proofs.YthcekppbbanfeaaGreat.Den
