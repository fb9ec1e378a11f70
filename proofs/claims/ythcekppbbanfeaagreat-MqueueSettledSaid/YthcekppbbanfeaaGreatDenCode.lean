/- Cutting code into pieces, and this seat's program. Conditions: none. -/
import Derived.Test.YthcekppbbanfeaaGreatDenSound6
import Derived.Test.YthcekppbbanfeaaGreatProg
set_option linter.unusedVariables false
namespace Go.Proofs.YthcekppbbanfeaaGreat.Den
open Go
def subC : Code → List Nat → Code
  | c, [] => c
  | .seq a b, d :: p => bif Nat.beq d 0 then subC a p else subC b p
  | .cond _ a b, d :: p => bif Nat.beq d 0 then subC a p else subC b p
  | .block _ b, _ :: p => subC b p
  | .loop b, _ :: p => subC b p
  | .scope b, _ :: p => subC b p
  | .rangeFunc _ _ a b, d :: p => bif Nat.beq d 0 then subC a p else subC b p
  | c, _ => c
def cd (f : Func) (p : List Nat) : Code := subC (f.body.getD .skip) p
def pre : Nat → Code → Code
  | 0, .seq a _ => a
  | n + 1, .seq a b => .seq a (pre n b)
  | _, c => c
def post : Nat → Code → Code
  | 0, .seq _ b => b
  | n + 1, .seq _ b => post n b
  | _, _ => .skip
def condOp : Code → Operand
  | .cond c _ _ => c
  | _ => .tmp 0
def setN (k : Kont) (N : Env → WP) : Kont := ⟨N, k.x, k.r⟩
section
variable (P : Program) (R : ER)
theorem den_split0 : ∀ (n : Nat) (c : Code) (e : Env) (k : Kont), den P R c e k = den P R (pre n c) e { k with n := fun e' => den P R (post n c) e' k }
  | 0, .seq _ _, _, _ => rfl
  | n + 1, .seq a b, e, k => by
    have ih := fun e' => den_split0 n b e' k
    show den P R a e { k with n := fun e' => den P R b e' k } = den P R a e { n := fun e' => den P R (pre n b) e' { k with n := fun e' => den P R (post n b) e' k }, x := k.x, r := k.r }
    rw [funext ih]
  | 0, .skip, _, _ => rfl
  | 0, .label _, _, _ => rfl
  | 0, .region _ _ _, _, _ => rfl
  | 0, .cond _ _ _, _, _ => rfl
  | 0, .block _ _, _, _ => rfl
  | 0, .loop _, _, _ => rfl
  | 0, .scope _, _, _ => rfl
  | 0, .exit _, _, _ => rfl
  | 0, .ret, _, _ => rfl
  | 0, .goto _, _, _ => rfl
  | 0, .refuse _, _, _ => rfl
  | 0, .rangeFunc .., _, _ => rfl
  | _ + 1, .skip, _, _ => rfl
  | _ + 1, .label _, _, _ => rfl
  | _ + 1, .region _ _ _, _, _ => rfl
  | _ + 1, .cond _ _ _, _, _ => rfl
  | _ + 1, .block _ _, _, _ => rfl
  | _ + 1, .loop _, _, _ => rfl
  | _ + 1, .scope _, _, _ => rfl
  | _ + 1, .exit _, _, _ => rfl
  | _ + 1, .ret, _, _ => rfl
  | _ + 1, .goto _, _, _ => rfl
  | _ + 1, .refuse _, _, _ => rfl
  | _ + 1, .rangeFunc .., _, _ => rfl
theorem den_join (n : Nat) (c b : Code) (e : Env) (k : Kont) (N : Env → WP) (G : WP) (hb : post n c = b) (hN : ∀ e, den P R b e k = N e)
    (hG : den P R (pre n c) e (setN k N) = G) : den P R c e k = G := by
  subst hb; subst hG
  rw [den_split0 P R n c e k]
  have : (fun e' => den P R (post n c) e' k) = N := funext hN
  rw [this]; rfl
theorem den_skip (n : Nat) (c : Code) (e : Env) (k : Kont) (G : WP) (hb : post n c = .skip) (hG : den P R (pre n c) e (setN k k.n) = G) : den P R c e k = G := by
  subst hG
  rw [den_split0 P R n c e k, hb]; rfl
theorem den_conv (c b : Code) (e : Env) (k : Kont) (G : WP) (h : c = b) (hG : den P R b e k = G) : den P R c e k = G := by subst h; exact hG
theorem den_if (c a b : Code) (e : Env) (k : Kont) (A B G : WP) (h : c = .cond (condOp c) a b) (hA : den P R a e k = A) (hB : den P R b e k = B) (hG : cnd (ev e (condOp c)) A B = G) :
    den P R c e k = G := by subst hA; subst hB; subst hG; rw [h]; rfl
theorem den_block (c : Code) (id : Nat) (b : Code) (e : Env) (k : Kont) (G : WP) (h : c = .block id b) (hb : den P R b e (inB id k) = G) : den P R c e k = G := by subst h; exact hb
theorem den_scope (c b : Code) (e : Env) (k : Kont) (G : WP) (h : c = .scope b) (hb : den P R b e k = G) : den P R c e k = G := by subst h; exact hb
theorem den_loop (c b : Code) (e : Env) (k : Kont) (L : Nat → Env → WP) (G : WP) (h : c = .loop b) (hL : ∀ n e, iterL (den P R b) n e k = L n e) (hG : (exN fun n => L n e) = G) :
    den P R c e k = G := by
  subst h; subst hG
  show (exN fun n => iterL (den P R b) n e k) = _
  congr 1; funext n; exact hL n e
theorem iterL_join (D : Env → Kont → WP) (k : Kont) (N : Nat → Env → WP) (h0 : ∀ e, N 0 e = fun _ => False) (hs : ∀ n e, D e (setN k (N n)) = N (n + 1) e) : ∀ n e, iterL D n e k = N n e
  | 0, e => (h0 e).symm
  | n + 1, e => by
    show D e { k with n := fun e' => iterL D n e' k } = _
    rw [show (fun e' => iterL D n e' k) = N n from funext (iterL_join D k N h0 hs n)]
    exact hs n e
end
noncomputable abbrev Pg : Program := Go.Proofs.Tryz.prog
theorem hmixed : Pg.follows .mixedOrders = true := by kernel_rfl
theorem hng_all : Pg.funcs.toList.all (fun fn => !(fn.name == "runtime.NumGoroutine")) = true := by kernel_rfl
theorem hng : NG Pg := by
  intro f fn hf
  have h := List.all_eq_true.1 hng_all fn (by simpa using Array.mem_of_getElem? hf)
  simpa using h
theorem calls_of_den {f : Nat} {fn : Func} {args : List Value} {R : ER} {w : World} {G : WP} (hf : Pg.funcs[f]? = some fn) (hb : fn.body = some (cd fn []))
    (hok : (okC Pg fn.ntmps false (cd fn []) && decide (args.length ≤ fn.ntmps)) = true) (hd : den Pg R (cd fn []) (argsEnv args) (kont Pg R fn) = G) (h : G w) : Calls Pg f ⟨args⟩ w R := by
  subst hd; exact calls_den hmixed hng hf hb hok h
end Go.Proofs.YthcekppbbanfeaaGreat.Den
