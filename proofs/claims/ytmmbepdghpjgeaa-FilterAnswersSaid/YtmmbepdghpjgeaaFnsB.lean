/- Printed by a program of this session: what the functions mean, and that the model means just that. Conditions: none. -/
import Derived.Test.YtmmbepdghpjgeaaDenRange
set_option linter.unusedVariables false
set_option maxRecDepth 100000
namespace Go.Proofs.Ytmmbepdghpjgeaa.Den
open Go
/-! ### 75: filter_Filter_ordered_1 -/
def F75 (R : ER) (x0 x1 x2 x3 : Value) : WP :=
  bx 119 x0 fun v1 =>
  bx 119 x1 fun v2 =>
  drewV (
  ld1 x2 fun v3 =>
  ld1 x3 fun v4 =>
  pv (nilO v4) fun v5 =>
  pv (faO 4 v5) fun v6 =>
  ld1 v6 fun v7 =>
  ldN 5 v1 fun v8 =>
  ld1 x3 fun v9 =>
  pv (nilO v9) fun v10 =>
  pv (faO 4 v10) fun v11 =>
  ld1 v11 fun v12 =>
  ldN 5 v2 fun v13 =>
  allW [
  (mem fun w15 => valV Pg noR (Instr.lookup 115 v7 v8 false) fun v14 =>
   rdN 5 v2 v13 <|
   rd1 v11 v12 <|
   rd1 x3 v9 <|
   rd1 x2 v3 <|
   mem fun w17 => valV Pg noR (Instr.lookup 115 v12 v13 false) fun v16 =>
   rdN 5 v1 v8 <|
   rd1 v6 v7 <|
   rd1 x3 v4 <|
   rd1 x2 v3 <|
   mem fun w19 => calD Pg noR v3 ⟨[v14, v16]⟩ fun v18 =>
   R (.returned v18)),
  (mem fun w21 => valV Pg noR (Instr.lookup 115 v12 v13 false) fun v20 =>
   rdN 5 v1 v8 <|
   rd1 v6 v7 <|
   rd1 x3 v4 <|
   rd1 x2 v3 <|
   mem fun w23 => valV Pg noR (Instr.lookup 115 v7 v8 false) fun v22 =>
   rdN 5 v2 v13 <|
   rd1 v11 v12 <|
   rd1 x3 v9 <|
   rd1 x2 v3 <|
   mem fun w25 => calD Pg noR v3 ⟨[v22, v20]⟩ fun v24 =>
   R (.returned v24))])
theorem F75_den (R : ER) (x0 x1 x2 x3 : Value) : den Pg R (cd Try.f75 []) (argsEnv [x0, x1, x2, x3]) (kont Pg R Try.f75) = F75 R x0 x1 x2 x3 :=
  have h : ∀ e, den Pg R (cd Try.f75 []) e (kont Pg R Try.f75) = F75 R (e 0) (e 1) (e 2) (e 3) := fun e => by kernel_rfl
  h _
theorem F75_calls {R : ER} {x0 x1 x2 x3 : Value} {w : World} (h : F75 R x0 x1 x2 x3 w) : Calls Pg 75 ⟨[x0, x1, x2, x3]⟩ w R :=
  calls_of_den Try.func75 (by kernel_rfl) (by kernel_rfl) (F75_den R x0 x1 x2 x3) h
end Go.Proofs.Ytmmbepdghpjgeaa.Den
